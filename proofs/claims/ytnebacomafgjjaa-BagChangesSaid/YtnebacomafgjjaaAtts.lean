/- Times that are attached to commands. -/
import Derived.Test.YtnebacomafgjjaaLAtt
namespace Go.Proofs.Ytnebacomafgjjaa
open Go.RowKit

theorem take_same {α : Type} {xs ys : List α} {k : Nat} (h : xs.take k = ys.take k) (hx : k < xs.length) (hy : k < ys.length) (e : xs[k] = ys[k]) : xs.take (k + 1) = ys.take (k + 1) := by
  rw [List.take_succ_eq_append_getElem hx, List.take_succ_eq_append_getElem hy, h, e]
theorem differ {α : Type} [DecidableEq α] {xs ys : List α} {k : Nat} (hx : k < xs.length) (hy : k < ys.length) (e : xs[k] ≠ ys[k]) : decide (xs = ys) = false := by
  apply decide_eq_false
  intro h
  subst h
  exact e rfl
theorem sameatts_any (A B : Option Addr) (c d : Nat) (xs ys : List Att) (w : World) (hm : c ≤ maxLen) (hm' : d ≤ maxLen) (hl : xs.length ≤ c) (hl' : ys.length ≤ d) (hx : Row w A (attE.flat xs)) (hy : Row w B (attE.flat ys)) :
    Calls Try.prog 25 #[.slice A xs.length c, .slice B ys.length d] w fun e w' => e = .returned (.bool (decide (xs = ys))) ∧ Below w.heap.size w w' := by
  unfold maxLen at hm hm'
  by_cases hn : xs.length = ys.length
  · have HN := Lib.hid hn
    clear hn
    have hne : (((xs.length : Nat) : Int) != ((ys.length : Nat) : Int)) = false := by rw [HN.out]; simp
    go_enter Try.func25, Try.ntmps25
    go_wp2
    clear hne
    go_loopw [5] (fun i wr => ∃ k : Nat, k ≤ xs.length ∧ i = .int .i64 k ∧ xs.take k = ys.take k ∧ Below w.heap.size w wr) (fun i _ => xs.length - (intOf i).toNat)
    case atStart => exact ⟨0, by omega, rfl, rfl, Below.refl _ _⟩
    case round =>
      obtain ⟨k, hk, rfl, ht, hb⟩ := hrel
      have HT := Lib.hid ht
      clear ht
      by_cases hlt : k < xs.length
      · have hlt' : k < ys.length := by rw [← HN.out]; exact hlt
        obtain ⟨ad, rfl, hx0, hx1⟩ := att_at (hx.later hb) hlt
        obtain ⟨bd, rfl, hy0, hy1⟩ := att_at (hy.later hb) hlt'
        clear hx hy
        have HS : Hid (xs[k].T = ys[k].T → xs[k].Id = ys[k].Id → xs.take (k + 1) = ys.take (k + 1)) := fun h g => take_same HT.out hlt hlt' (att_ext h g)
        have HD : Hid (¬ (xs[k].T = ys[k].T ∧ xs[k].Id = ys[k].Id) → decide (xs = ys) = false) := fun h => differ hlt hlt' (fun e => h ⟨by rw [e], by rw [e]⟩)
        generalize xs[k].T = x0 at hx0 HS HD
        generalize xs[k].Id = x1 at hx1 HS HD
        generalize ys[k].T = y0 at hy0 HS HD
        generalize ys[k].Id = y1 at hy1 HS HD
        clear HT
        by_cases e0 : x0 = y0
        · by_cases e1 : x1 = y1
          · have HR := Lib.hid (HS.out e0 e1)
            clear HS HD
            subst e0 e1
            go_wp2
            go_quiet (fail)
            go_wp2
            go_roundw
            case rel => exact ⟨k + 1, by omega, by go_num, HR.out, bdrewN hb _⟩
            case measure => simp [intOf]; omega
          · have HR := Lib.hid (HD.out (fun h => e1 h.2))
            have f1 : (x1 == y1) = false := beq_eq_false_iff_ne.2 e1
            clear HS HD e1
            subst e0
            go_wp2
            go_quiet (fail)
            go_wp2
            go_ret
            exact ⟨by rw [HR.out]; rfl, bdrewN hb _⟩
        · have HR := Lib.hid (HD.out (fun h => e0 h.1))
          have f0 : (x0 == y0) = false := beq_eq_false_iff_ne.2 e0
          clear HS HD e0
          go_wp2
          go_quiet (fail)
          go_wp2
          go_ret
          exact ⟨by rw [HR.out]; rfl, bdrewN hb _⟩
      · have hge : ¬ ((k : Int) < xs.length) := by omega
        go_wp2
        go_ret
        have e : xs = ys := by
          have h := HT.out
          rwa [List.take_of_length_le (by omega), List.take_of_length_le (by have := HN.out; omega)] at h
        exact ⟨by rw [decide_eq_true e]; rfl, hb⟩
  · have hne : (((xs.length : Nat) : Int) != ((ys.length : Nat) : Int)) = true := by simp; omega
    have e : decide (xs = ys) = false := decide_eq_false (fun e => hn (by rw [e]))
    have HE := Lib.hid e
    clear e hn
    go_enter Try.func25, Try.ntmps25
    go_wp2
    go_ret
    exact ⟨by rw [HE.out]; rfl, Below.refl _ _⟩
end Go.Proofs.Ytnebacomafgjjaa
