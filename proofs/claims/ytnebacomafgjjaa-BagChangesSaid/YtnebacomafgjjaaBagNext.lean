/- The first flight that is open, and how many are. -/
import Derived.Test.YtnebacomafgjjaaBagOpen
import Derived.Test.YtnebacomafgjjaaLFlightIndex
namespace Go.Proofs.Ytnebacomafgjjaa
open Go.RowKit
def nextB (l : List Flight) (cut : Int) : Bool := decide (0 ≤ idxOf (openB cut) l)
def nextK (l : List Flight) (cut : Int) : Int := if 0 ≤ idxOf (openB cut) l then idxOf (openB cut) l else 0
theorem idxOf_ge {α : Type} (p : α → Bool) (xs : List α) : -1 ≤ idxOf p xs := by
  unfold idxOf
  split <;> omega
set_option maxRecDepth 100000 in
set_option maxHeartbeats 2000000 in
theorem next_any (A : Option Addr) (c : Nat) (l : List Flight) (cut : Int) (w : World) (hm : c ≤ maxLen) (hl : l.length ≤ c) (hx : Row w A (flightE.flat l)) :
    Calls Try.prog 43 #[.slice A l.length c, .int .i64 cut] w fun e w' => e = .returned (.tuple #[.int .i64 (nextK l cut), .bool (nextB l cut)]) ∧ Below w.heap.size w w' := by
  have HI := Lib.hid (indexfunc_flight A c l w hm hl hx _ _ (open_pred cut w))
  have hge := idxOf_ge (openB cut) l
  by_cases h0 : 0 ≤ idxOf (openB cut) l
  · have H1 := Lib.hid (show nextK l cut = idxOf (openB cut) l from by unfold nextK; rw [if_pos h0])
    have H2 := Lib.hid (show nextB l cut = true from decide_eq_true h0)
    generalize idxOf (openB cut) l = i at *
    have hn : ¬ i < 0 := by omega
    go_enter Try.func43, Try.ntmps43
    go_wp2_with fail
    refine (HI.out).mono ?_; rintro e w1 ⟨rfl, hb1⟩
    go_wp2
    go_ret2
    exact ⟨by rw [H1.out, H2.out]; first | rfl | (simp; omega), hb1⟩
  · have H1 := Lib.hid (show nextK l cut = 0 from by unfold nextK; rw [if_neg h0])
    have H2 := Lib.hid (show nextB l cut = false from decide_eq_false h0)
    generalize idxOf (openB cut) l = i at *
    obtain rfl : i = -1 := by omega
    go_enter Try.func43, Try.ntmps43
    go_wp2_with fail
    refine (HI.out).mono ?_; rintro e w1 ⟨rfl, hb1⟩
    go_wp2
    go_ret2
    exact ⟨by rw [H1.out, H2.out]; first | rfl | (simp; omega), hb1⟩
set_option maxRecDepth 100000 in
set_option maxHeartbeats 2000000 in
theorem refnext_any (A : Option Addr) (c : Nat) (l : List Flight) (cut : Int) (w : World) (hm : c ≤ maxLen) (hl : l.length ≤ c) (hx : Row w A (flightE.flat l)) :
    Calls Try.prog 44 #[.slice A l.length c, .int .i64 cut] w fun e w' => e = .returned (.tuple #[.int .i64 (nextK l cut), .bool (nextB l cut)]) ∧ Below w.heap.size w w' := by
  unfold maxLen at hm
  generalize hR : nextK l cut = R
  generalize hS : nextB l cut = S
  have HR := Lib.hid hR
  have HS := Lib.hid hS
  clear hR hS
  go_enter Try.func44, Try.ntmps44
  go_wp2
  go_loopw [6] (fun i wr => ∃ (k : Nat), k ≤ l.length ∧ i = .int .i64 k ∧ (∀ m, ∀ h : m < l.length, m < k → openB cut l[m] = false) ∧ Below w.heap.size w wr) (fun i _ => l.length - (intOf i).toNat)
  case atStart => exact ⟨0, by omega, rfl, fun m _ h => by omega, Below.refl _ _⟩
  case round =>
    obtain ⟨k, hk, rfl, hall, hb⟩ := hrel
    have HALL := Lib.hid hall
    clear hall
    by_cases hlt : k < l.length
    · obtain ⟨ad, rfl, hx0, hx1, hx2⟩ := flight_at (hx.later hb) hlt
      have HO := Lib.hid (fun W => refopen_any cut l[k] W)
      have HH := Lib.hid (fun h : openB cut l[k] = true => idxOf_hit (p := openB cut) hlt HALL.out h)
      have HST := Lib.hid (fun h : openB cut l[k] = false => all_step (p := openB cut) HALL.out (fun _ => h))
      unfold flightV at HO
      clear HALL hx
      generalize l[k] = a at hx0 hx1 hx2 HO HH HST
      cases hpa : openB cut a
      · rw [hpa] at HO HST
        have HS2 := Lib.hid (HST.out rfl)
        clear HST HH hpa
        go_wp2_with (refine (HO.out _).mono ?_; rintro e w2 ⟨rfl, hb2⟩)
        go_roundw
        case rel => exact ⟨k + 1, by omega, by go_num, HS2.out, bt hb hb2⟩
        case measure => simp [intOf]; omega
      · rw [hpa] at HO HH
        have HH2 := HH.out rfl
        have H1 := Lib.hid (show nextK l cut = (k : Int) from by unfold nextK; rw [HH2, if_pos (by omega)])
        have H2 := Lib.hid (show nextB l cut = true from by unfold nextB; rw [HH2]; exact decide_eq_true (by omega))
        clear HST HH hpa HH2
        go_wp2_with (refine (HO.out _).mono ?_; rintro e w2 ⟨rfl, hb2⟩)
        go_ret2
        exact ⟨by rw [← HR.out, ← HS.out, H1.out, H2.out]; rfl, bt hb hb2⟩
    · have hge : ¬ ((k : Int) < l.length) := by omega
      have HE2 := idxOf_none (p := openB cut) (fun m h => HALL.out m h (by omega))
      have H1 := Lib.hid (show nextK l cut = 0 from by unfold nextK; rw [HE2]; rfl)
      have H2 := Lib.hid (show nextB l cut = false from by unfold nextB; rw [HE2]; rfl)
      clear HE2
      go_wp2
      go_ret2
      exact ⟨by rw [← HR.out, ← HS.out, H1.out, H2.out]; rfl, hb⟩
set_option maxRecDepth 100000 in
set_option maxHeartbeats 2000000 in
theorem count_any (A : Option Addr) (c : Nat) (l : List Flight) (cut : Int) (w : World) (hm : c ≤ maxLen) (hl : l.length ≤ c) (hx : Row w A (flightE.flat l)) :
    Calls Try.prog 45 #[.slice A l.length c, .int .i64 cut] w fun e w' => e = .returned (.tuple #[.int .i64 (l.countP (openB cut) : Nat), .int .i64 ((l.length : Int) - (l.countP (openB cut) : Nat))]) ∧ Below w.heap.size w w' := by
  unfold maxLen at hm
  generalize hNN : l.countP (openB cut) = N
  have HNN := Lib.hid hNN
  clear hNN
  go_enter Try.func45, Try.ntmps45
  go_wp2
  go_loopw [4, 10] (fun n i wr => ∃ (k : Nat), k ≤ l.length ∧ i = .int .i64 k ∧ n = .int .i64 ((l.take k).countP (openB cut) : Nat) ∧ Below w.heap.size w wr) (fun _ i _ => l.length - (intOf i).toNat)
  case atStart => exact ⟨0, by omega, rfl, rfl, Below.refl _ _⟩
  case round =>
    obtain ⟨k, hk, rfl, rfl, hb⟩ := hrel
    have hcl : (l.take k).countP (openB cut) ≤ k := Nat.le_trans List.countP_le_length (by rw [List.length_take]; omega)
    by_cases hlt : k < l.length
    · obtain ⟨ad, rfl, hx0, hx1, hx2⟩ := flight_at (hx.later hb) hlt
      have HO := Lib.hid (fun W => bagopen_any cut l[k] W)
      have HN := Lib.hid (show (l.take (k + 1)).countP (openB cut) = (l.take k).countP (openB cut) + (if openB cut l[k] then 1 else 0) from by rw [List.take_succ_eq_append_getElem hlt, List.countP_append, List.countP_cons, List.countP_nil, Nat.zero_add])
      unfold flightV at HO
      clear hx
      generalize l[k] = a at hx0 hx1 hx2 HO HN
      generalize (l.take k).countP (openB cut) = n at *
      have hb1 := balloc hb (.cells #[.int .i64 a.From, .int .i64 a.To, .string a.Data] 53)
      cases hpa : openB cut a
      · rw [hpa] at HO HN
        clear hpa
        go_wp2_with (refine (HO.out _).mono ?_; rintro e w2 ⟨rfl, hb2⟩)
        go_roundw
        case rel => exact ⟨k + 1, by omega, by go_num, by rw [HN.out]; rfl, bt hb1 hb2⟩
        case measure => simp [intOf]; omega
      · rw [hpa] at HO HN
        clear hpa
        go_wp2_with (refine (HO.out _).mono ?_; rintro e w2 ⟨rfl, hb2⟩)
        go_roundw
        case rel => exact ⟨k + 1, by omega, by go_num, by rw [HN.out]; go_num, bt hb1 hb2⟩
        case measure => simp [intOf]; omega
    · have hge : ¬ ((k : Int) < l.length) := by omega
      obtain rfl : k = l.length := by omega
      rw [List.take_length, HNN.out] at hcl ⊢
      go_wp2
      go_ret2
      exact ⟨rfl, hb⟩
end Go.Proofs.Ytnebacomafgjjaa
