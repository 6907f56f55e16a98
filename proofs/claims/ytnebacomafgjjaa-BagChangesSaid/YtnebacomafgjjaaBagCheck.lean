/- Flights that are a bag. -/
import Derived.Test.YtnebacomafgjjaaBag
namespace Go.Proofs.Ytnebacomafgjjaa
open Go.RowKit

def bagE (l : List Flight) : Int := if l.all mayF = true then (if 5000 < l.length then 3 else 0) else 2
theorem bagE_not {l : List Flight} (h : l.all mayF = false) : bagE l = 2 := by unfold bagE; rw [h]; rfl
theorem bagE_big {l : List Flight} (h : l.all mayF = true) (g : 5000 < l.length) : bagE l = 3 := by unfold bagE; rw [if_pos h, if_pos g]
theorem bagE_ok {l : List Flight} (h : l.all mayF = true) (g : ¬ 5000 < l.length) : bagE l = 0 := by unfold bagE; rw [if_pos h, if_neg g]
set_option maxRecDepth 100000 in
set_option maxHeartbeats 1000000 in
theorem bagcheck_any (A : Option Addr) (c : Nat) (xs : List Flight) (w : World) (hm : c ≤ maxLen) (hl : xs.length ≤ c) (hx : Row w A (flightE.flat xs)) :
    Calls Try.prog 40 #[.slice A xs.length c] w fun e w' => e = .returned (.int .i64 (bagE xs)) ∧ Below w.heap.size w w' := by
  unfold maxLen at hm
  generalize hR : bagE xs = R
  have HR := Lib.hid hR
  clear hR
  go_enter Try.func40, Try.ntmps40
  go_wp2
  go_loopw [7] (fun i wr => ∃ (k : Nat), k ≤ xs.length ∧ i = .int .i64 k ∧ xs.all mayF = (xs.drop k).all mayF ∧ Below w.heap.size w wr) (fun i _ => xs.length - (intOf i).toNat)
  case atStart => exact ⟨0, by omega, rfl, rfl, Below.refl _ _⟩
  case round =>
    obtain ⟨k, hk, rfl, hall, hb⟩ := hrel
    by_cases hlt : k < xs.length
    · obtain ⟨ad, rfl, hx0, hx1, hx2⟩ := flight_at (hx.later hb) hlt
      rw [List.drop_eq_getElem_cons hlt, List.all_cons] at hall
      clear hx
      generalize xs[k] = a at hx0 hx1 hx2 hall
      have HM := Lib.hid (fun W => bagmay_any a W)
      unfold flightV at HM
      have hb2 := balloc hb (.cells #[.int .i64 a.From, .int .i64 a.To, .string a.Data] 53)
      cases hma : mayF a
      · rw [hma] at hall HM
        have HE := Lib.hid (HR.out.symm.trans (bagE_not hall))
        clear hall hma HR
        go_wp2_with (refine (HM.out _).mono ?_; rintro e w2 ⟨rfl, hb3⟩)
        go_ret
        exact ⟨by rw [HE.out]; rfl, bt hb2 hb3⟩
      · rw [hma] at hall HM
        have HA : Hid (xs.all mayF = (xs.drop (k + 1)).all mayF) := hall
        clear hall hma HR
        go_wp2_with (refine (HM.out _).mono ?_; rintro e w2 ⟨rfl, hb3⟩)
        go_roundw
        case rel => exact ⟨k + 1, by omega, by go_num, HA.out, bt hb2 hb3⟩
        case measure => simp [intOf]; omega
    · have hge : ¬ ((k : Int) < xs.length) := by omega
      rw [List.drop_eq_nil_of_le (by omega)] at hall
      by_cases hbig : 5000 < xs.length
      · have HE := Lib.hid (HR.out.symm.trans (bagE_big hall hbig))
        clear HR hall
        go_wp2
        go_ret
        exact ⟨by rw [HE.out]; rfl, hb⟩
      · have HE := Lib.hid (HR.out.symm.trans (bagE_ok hall hbig))
        clear HR hall
        go_wp2
        go_ret
        exact ⟨by rw [HE.out]; rfl, hb⟩
set_option maxRecDepth 100000 in
set_option maxHeartbeats 1000000 in
theorem refbagcheck_any (A : Option Addr) (c : Nat) (xs : List Flight) (w : World) (hm : c ≤ maxLen) (hl : xs.length ≤ c) (hx : Row w A (flightE.flat xs)) :
    Calls Try.prog 41 #[.slice A xs.length c] w fun e w' => e = .returned (.int .i64 (bagE xs)) ∧ Below w.heap.size w w' := by
  unfold maxLen at hm
  generalize hR : bagE xs = R
  have HR := Lib.hid hR
  clear hR
  go_enter Try.func41, Try.ntmps41
  go_wp2
  go_loopw [3] (fun i wr => ∃ (k : Nat), k ≤ xs.length ∧ i = .int .i64 k ∧ xs.all mayF = (xs.drop k).all mayF ∧ Below w.heap.size w wr) (fun i _ => xs.length - (intOf i).toNat)
  case atStart => exact ⟨0, by omega, rfl, rfl, Below.refl _ _⟩
  case round =>
    obtain ⟨k, hk, rfl, hall, hb⟩ := hrel
    by_cases hlt : k < xs.length
    · obtain ⟨ad, rfl, hx0, hx1, hx2⟩ := flight_at (hx.later hb) hlt
      rw [List.drop_eq_getElem_cons hlt, List.all_cons] at hall
      clear hx
      generalize xs[k] = a at hx0 hx1 hx2 hall
      have HM := Lib.hid (fun W => refmay_any a W)
      unfold flightV at HM
      cases hma : mayF a
      · rw [hma] at hall HM
        have HE := Lib.hid (HR.out.symm.trans (bagE_not hall))
        clear hall hma HR
        go_wp2_with (refine (HM.out _).mono ?_; rintro e w2 ⟨rfl, hb3⟩)
        go_ret
        exact ⟨by rw [HE.out]; rfl, bt hb hb3⟩
      · rw [hma] at hall HM
        have HA : Hid (xs.all mayF = (xs.drop (k + 1)).all mayF) := hall
        clear hall hma HR
        go_wp2_with (refine (HM.out _).mono ?_; rintro e w2 ⟨rfl, hb3⟩)
        go_roundw
        case rel => exact ⟨k + 1, by omega, by go_num, HA.out, bt hb hb3⟩
        case measure => simp [intOf]; omega
    · have hge : ¬ ((k : Int) < xs.length) := by omega
      rw [List.drop_eq_nil_of_le (by omega)] at hall
      by_cases hbig : 5000 < xs.length
      · have HE := Lib.hid (HR.out.symm.trans (bagE_big hall hbig))
        clear HR hall
        go_wp2
        go_ret
        exact ⟨by rw [HE.out]; rfl, hb⟩
      · have HE := Lib.hid (HR.out.symm.trans (bagE_ok hall hbig))
        clear HR hall
        go_wp2
        go_ret
        exact ⟨by rw [HE.out]; rfl, hb⟩
end Go.Proofs.Ytnebacomafgjjaa
