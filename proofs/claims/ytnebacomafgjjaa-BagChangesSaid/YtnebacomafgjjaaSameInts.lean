/- Lists of numbers that are the same. -/
import Derived.Test.YtnebacomafgjjaaLInt
import Derived.Test.YtnebacomafgjjaaAtts
namespace Go.Proofs.Ytnebacomafgjjaa
open Go.RowKit
theorem sameints_any (A B : Option Addr) (c d : Nat) (xs ys : List Int) (w : World) (hm : c ≤ maxLen) (hm' : d ≤ maxLen) (hl : xs.length ≤ c) (hl' : ys.length ≤ d) (hx : Row w A (intE.flat xs)) (hy : Row w B (intE.flat ys)) :
    Calls Try.prog 48 #[.slice A xs.length c, .slice B ys.length d] w fun e w' => e = .returned (.bool (decide (xs = ys))) ∧ Below w.heap.size w w' := by
  unfold maxLen at hm hm'
  by_cases hn : xs.length = ys.length
  · have HN := Lib.hid hn
    clear hn
    have hne : (((xs.length : Nat) : Int) != ((ys.length : Nat) : Int)) = false := by rw [HN.out]; simp
    go_enter Try.func48, Try.ntmps48
    go_wp2
    clear hne
    go_loopw [5] (fun i wr => ∃ k : Nat, k ≤ xs.length ∧ i = .int .i64 k ∧ xs.take k = ys.take k ∧ Below w.heap.size w wr) (fun i _ => xs.length - (intOf i).toNat)
    case atStart => exact ⟨0, by omega, rfl, rfl, Below.refl _ _⟩
    case round =>
      obtain ⟨k, hk, rfl, ht, hb⟩ := hrel
      have HT := Lib.hid ht
      clear ht
      by_cases hlt : k < xs.length
      · have hlt' : k < ys.length := by rw [← HN.out]; exact hlt
        obtain ⟨ad, rfl, hx0⟩ := int_at (hx.later hb) hlt
        obtain ⟨bd, rfl, hy0⟩ := int_at (hy.later hb) hlt'
        clear hx hy
        have HS : Hid (xs[k] = ys[k] → xs.take (k + 1) = ys.take (k + 1)) := fun h => take_same HT.out hlt hlt' h
        have HD : Hid (¬ (xs[k] = ys[k]) → decide (xs = ys) = false) := fun h => differ hlt hlt' h
        generalize xs[k] = x0 at hx0 HS HD
        generalize ys[k] = y0 at hy0 HS HD
        clear HT
        by_cases e0 : x0 = y0
        · have HR := Lib.hid (HS.out e0)
          clear HS HD
          subst e0
          go_wp2
          go_quiet (fail)
          go_wp2
          go_roundw
          case rel => exact ⟨k + 1, by omega, by go_num, HR.out, bdrewN hb _⟩
          case measure => simp [intOf]; omega
        · have HR := Lib.hid (HD.out e0)
          have f0 : (x0 != y0) = true := by simpa using e0
          clear HS HD e0
          go_wp2
          go_quiet (fail)
          go_wp2
          go_ret
          exact ⟨by rw [HR.out]; rfl, bdrewN hb _⟩
      · have hge : ¬ ((k : Int) < xs.length) := by omega
        go_wp2
        go_ret
        have e : xs = ys := by
          have h := HT.out
          rwa [List.take_of_length_le (by omega), List.take_of_length_le (by have := HN.out; omega)] at h
        exact ⟨by rw [decide_eq_true e]; rfl, hb⟩
  · have hne : (((xs.length : Nat) : Int) != ((ys.length : Nat) : Int)) = true := by simp; omega
    have e : decide (xs = ys) = false := decide_eq_false (fun e => hn (by rw [e]))
    have HE := Lib.hid e
    clear e hn
    go_enter Try.func48, Try.ntmps48
    go_wp2
    go_ret
    exact ⟨by rw [HE.out]; rfl, Below.refl _ _⟩
end Go.Proofs.Ytnebacomafgjjaa
