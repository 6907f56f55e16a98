/- Flights as the document's. -/
import Derived.Test.YtnebacomafgjjaaBagCheck
import Derived.Test.YtnebacomafgjjaaAtts
import Derived.Handy
import Derived.MapKept
namespace Go.Proofs.Ytnebacomafgjjaa
open Go.RowKit

theorem bytes_ne {a b : ByteArray} (h : ¬ a = b) : (a == b) = false := by
  cases e : a == b
  · rfl
  · exact absurd ((MapKept.bytes_beq a b).1 e) h
theorem bytes_same (a : ByteArray) : (a == a) = true := (MapKept.bytes_beq a a).2 rfl
theorem of14_any (f : Flight) (w : World) : Calls Try.prog 35 #[flightV f] w fun e w' => e = .returned (flightV f) ∧ Below w.heap.size w w' := by
  have hb := balloc (Below.refl w.heap.size w) (.cells #[.int .i64 f.From, .int .i64 f.To, .string f.Data] 53)
  obtain ⟨a, b, d⟩ := f
  unfold flightV
  simp only at hb ⊢
  go_enter Try.func35, Try.ntmps35
  go_wp2
  go_returns
  exact ⟨rfl, by go_grown⟩
theorem info_refflight : (Try.prog.info? 61).map (fun i => (i.zero, i.size, i.bytes)) = some (some (.agg #[.int .i64 0, .int .i64 0, .string ⟨#[]⟩]), 3, 32) := by kernel_rfl
def fewB (xs : List Flight) : Bool := decide (xs.length ≤ 200) && xs.all (fun f => decide (f.Data.size ≤ 3000))
set_option maxRecDepth 100000 in
set_option maxHeartbeats 1000000 in
theorem few_any (A : Option Addr) (c : Nat) (xs : List Flight) (w : World) (hm : c ≤ maxLen) (hl : xs.length ≤ c) (hx : Row w A (flightE.flat xs)) :
    Calls Try.prog 30 #[.slice A xs.length c] w fun e w' => e = .returned (.bool (fewB xs)) ∧ Below w.heap.size w w' := by
  unfold maxLen at hm
  generalize hR : fewB xs = R
  unfold fewB at hR
  by_cases h2 : xs.length ≤ 200
  · rw [decide_eq_true h2, Bool.true_and] at hR
    have HR := Lib.hid hR
    clear hR
    go_enter Try.func30, Try.ntmps30
    go_wp2
    go_loopw [3] (fun i wr => ∃ (k : Nat), k ≤ xs.length ∧ i = .int .i64 k ∧ R = (xs.drop k).all (fun f => decide (f.Data.size ≤ 3000)) ∧ Below w.heap.size w wr) (fun i _ => xs.length - (intOf i).toNat)
    case atStart => exact ⟨0, by omega, rfl, HR.out.symm, Below.refl _ _⟩
    case round =>
      obtain ⟨k, hk, rfl, hall, hb⟩ := hrel
      clear HR
      by_cases hlt : k < xs.length
      · obtain ⟨ad, rfl, hx0, hx1, hx2⟩ := flight_at (hx.later hb) hlt
        rw [List.drop_eq_getElem_cons hlt, List.all_cons] at hall
        clear hx
        generalize xs[k] = a at hx0 hx1 hx2 hall
        generalize a.Data = d at hx2 hall
        by_cases hd : d.size ≤ 3000
        · rw [decide_eq_true hd, Bool.true_and] at hall
          have HA := Lib.hid hall
          clear hall
          have hd' : ¬ ((3000 : Int) < (d.size : Int)) := by omega
          go_wp2
          go_roundw
          case rel => exact ⟨k + 1, by omega, by go_num, HA.out, hb⟩
          case measure => simp [intOf]; omega
        · rw [decide_eq_false hd, Bool.false_and] at hall
          have HA := Lib.hid hall
          clear hall
          have hd' : ((3000 : Int) < (d.size : Int)) := by omega
          go_wp2
          go_ret
          exact ⟨by rw [HA.out]; rfl, hb⟩
      · have hge : ¬ ((k : Int) < xs.length) := by omega
        rw [List.drop_eq_nil_of_le (by omega)] at hall
        have HA := Lib.hid hall
        clear hall
        go_wp2
        go_ret
        exact ⟨by rw [HA.out]; rfl, hb⟩
  · rw [decide_eq_false h2, Bool.false_and] at hR
    have HR := Lib.hid hR
    clear hR
    go_enter Try.func30, Try.ntmps30
    go_wp2
    go_ret
    exact ⟨by rw [← HR.out]; rfl, Below.refl _ _⟩
theorem refsame14_any (A B : Option Addr) (c d : Nat) (xs ys : List Flight) (w : World) (hm : c ≤ maxLen) (hm' : d ≤ maxLen) (hl : xs.length ≤ c) (hl' : ys.length ≤ d) (hx : Row w A (flightE.flat xs)) (hy : Row w B (flightE.flat ys)) :
    Calls Try.prog 42 #[.slice A xs.length c, .slice B ys.length d] w fun e w' => e = .returned (.bool (decide (xs = ys))) ∧ Below w.heap.size w w' := by
  unfold maxLen at hm hm'
  by_cases hn : xs.length = ys.length
  · have HN := Lib.hid hn
    clear hn
    have hne : (((xs.length : Nat) : Int) != ((ys.length : Nat) : Int)) = false := by rw [HN.out]; simp
    go_enter Try.func42, Try.ntmps42
    go_wp2
    clear hne
    go_loopw [5] (fun i wr => ∃ k : Nat, k ≤ xs.length ∧ i = .int .i64 k ∧ xs.take k = ys.take k ∧ Below w.heap.size w wr) (fun i _ => xs.length - (intOf i).toNat)
    case atStart => exact ⟨0, by omega, rfl, rfl, Below.refl _ _⟩
    case round =>
      obtain ⟨k, hk, rfl, ht, hb⟩ := hrel
      have HT := Lib.hid ht
      clear ht
      by_cases hlt : k < xs.length
      · have hlt' : k < ys.length := by rw [← HN.out]; exact hlt
        obtain ⟨ad, rfl, hx0, hx1, hx2⟩ := flight_at (hx.later hb) hlt
        obtain ⟨bd, rfl, hy0, hy1, hy2⟩ := flight_at (hy.later hb) hlt'
        clear hx hy
        have HS : Hid (xs[k].From = ys[k].From → xs[k].To = ys[k].To → xs[k].Data = ys[k].Data → xs.take (k + 1) = ys.take (k + 1)) := fun h g j => take_same HT.out hlt hlt' (flight_ext h g j)
        have HD : Hid (¬ (xs[k].From = ys[k].From ∧ xs[k].To = ys[k].To ∧ xs[k].Data = ys[k].Data) → decide (xs = ys) = false) := fun h => differ hlt hlt' (fun e => h ⟨by rw [e], by rw [e], by rw [e]⟩)
        generalize xs[k].From = x0 at hx0 HS HD
        generalize xs[k].To = x1 at hx1 HS HD
        generalize xs[k].Data = x2 at hx2 HS HD
        generalize ys[k].From = y0 at hy0 HS HD
        generalize ys[k].To = y1 at hy1 HS HD
        generalize ys[k].Data = y2 at hy2 HS HD
        clear HT
        by_cases e0 : x0 = y0
        · by_cases e1 : x1 = y1
          · by_cases e2 : x2 = y2
            · have HR := Lib.hid (HS.out e0 e1 e2)
              have f2 := bytes_same x2
              clear HS HD
              subst e0 e1 e2
              go_wp2
              go_quiet (fail)
              go_wp2
              go_roundw
              case rel => exact ⟨k + 1, by omega, by go_num, HR.out, bdrewN hb _⟩
              case measure => simp [intOf]; omega
            · have HR := Lib.hid (HD.out (fun h => e2 h.2.2))
              have f2 : (x2 == y2) = false := bytes_ne e2
              have f3 : (x2.toList == y2.toList) = false := (beq_toListBytes _ _).symm.trans f2
              clear HS HD e2
              subst e0 e1
              go_wp2
              go_quiet (fail)
              go_wp2
              go_ret
              exact ⟨by rw [HR.out]; rfl, bdrewN hb _⟩
          · have HR := Lib.hid (HD.out (fun h => e1 h.2.1))
            have f1 : (x1 == y1) = false := beq_eq_false_iff_ne.2 e1
            clear HS HD e1
            subst e0
            go_wp2
            go_quiet (fail)
            go_wp2
            go_ret
            exact ⟨by rw [HR.out]; rfl, bdrewN hb _⟩
        · have HR := Lib.hid (HD.out (fun h => e0 h.1))
          have f0 : (x0 == y0) = false := beq_eq_false_iff_ne.2 e0
          clear HS HD e0
          go_wp2
          go_quiet (fail)
          go_wp2
          go_ret
          exact ⟨by rw [HR.out]; rfl, bdrewN hb _⟩
      · have hge : ¬ ((k : Int) < xs.length) := by omega
        go_wp2
        go_ret
        have e : xs = ys := by
          have h := HT.out
          rwa [List.take_of_length_le (by omega), List.take_of_length_le (by have := HN.out; omega)] at h
        exact ⟨by rw [decide_eq_true e]; rfl, hb⟩
  · have hne : (((xs.length : Nat) : Int) != ((ys.length : Nat) : Int)) = true := by simp; omega
    have e : decide (xs = ys) = false := decide_eq_false (fun e => hn (by rw [e]))
    have HE := Lib.hid e
    clear e hn
    go_enter Try.func42, Try.ntmps42
    go_wp2
    go_ret
    exact ⟨by rw [HE.out]; rfl, Below.refl _ _⟩
set_option maxRecDepth 100000 in
set_option maxHeartbeats 1000000 in
theorem all14_any (A : Option Addr) (c : Nat) (xs : List Flight) (w : World) (hm : c ≤ maxLen) (hl : xs.length ≤ c) (hx : Row w A (flightE.flat xs)) (hs : xs.length ≤ 10000) :
    Calls Try.prog 34 #[.slice A xs.length c] w (OwnSl flightE 61 w xs) := by
  unfold maxLen at hm
  obtain ⟨i0, hi, hz0, hz1, hz2⟩ := info_parts info_refflight
  have HX := Lib.hid hx
  clear hx
  go_enter Try.func34, Try.ntmps34
  go_wp2
  go_loopw [3, 4] (fun v i wr => ∃ (k : Nat), k ≤ xs.length ∧ i = .int .i64 k ∧ wr.ownsRow w.heap.size 61 3 v k (flightE.flat (xs.take k)) ∧ Below w.heap.size w wr) (fun _ i _ => xs.length - (intOf i).toNat)
  case atStart => exact ⟨0, by omega, rfl, World.ownsRow_nil _ _ _ _, Below.refl _ _⟩
  case round =>
    obtain ⟨k, hk, rfl, hown, hb⟩ := hrel
    by_cases hlt : k < xs.length
    · obtain ⟨ad, rfl, hx0, hx1, hx2⟩ := flight_at (HX.out.later hb) hlt
      have HT : Hid (flightE.flat (xs.take (k + 1)) = flightE.flat (xs.take k) ++ flightE.cells xs[k]) := Lib.hid (by rw [List.take_succ_eq_append_getElem hlt, flightE.flat_append, flightE.flat_one])
      have hone := Lib.hid (flight_one [xs[k]])
      have HV := Lib.hid (fun W => of14_any xs[k] W)
      rw [flightE.flat_one] at hone
      unfold flightV at HV
      change Hid (_ = _ ++ [Value.int .i64 (xs[k]).From, Value.int .i64 (xs[k]).To, Value.string (xs[k]).Data]) at HT
      change Hid (∀ u ∈ [Value.int .i64 (xs[k]).From, Value.int .i64 (xs[k]).To, Value.string (xs[k]).Data], _) at hone
      generalize (xs[k]).From = a at hx0 HT hone HV
      generalize (xs[k]).To = b at hx1 HT hone HV
      generalize (xs[k]).Data = d at hx2 HT hone HV
      have h63 := Lib.hid (show k + 1 ≤ maxLen from by unfold maxLen; omega)
      have hby := Lib.hid (show (k + 1) * 32 ≤ 140737488355328 from by omega)
      have HOWN := Lib.hid hown
      clear hown
      go_wp2_with (first | (refine (HV.out _).mono ?_; rintro e w2 ⟨rfl, hb2⟩) | (at_builtin; refine wpList_append_row _ rfl (.tmp 11) (.tmp 17) _ rfl w.heap.size 61 i0 _ 3 32 Try.underlying57 hi hz0 hz1 hz2 rfl (by omega) _ k _ rfl ((own_later' HOWN.out hb2).alloc _) (some ⟨w2.heap.size, 0, none⟩) 1 1 [.int .i64 a, .int .i64 b, .string d] rfl rfl (Row.new w2 _ _) hone.out h63.out hby.out (Nat.le_trans (Nat.le_trans hb.size hb2.size) (by simp)) ?_; intro v5 w5 hown5 hg5 hat5))
      go_roundw
      case rel => exact ⟨k + 1, by omega, by go_num, by rw [HT.out]; exact hown5, ((balloc (bt hb hb2) _).grown hg5 (by have := (bt hb hb2).size; simp; omega) (fun k hk => (HOWN.out.lt k hk).1))⟩
      case measure => simp [intOf]; omega
    · have hge : ¬ ((k : Int) < xs.length) := by omega
      go_wp2
      go_ret
      obtain rfl : k = xs.length := by omega
      rw [List.take_length] at hown
      exact ⟨_, rfl, hown, hb⟩
end Go.Proofs.Ytnebacomafgjjaa
