/- Doubling a flight. -/
import Derived.Test.YtnebacomafgjjaaBagTake2
namespace Go.Proofs.Ytnebacomafgjjaa
open Go.RowKit
def copyE (l : List Flight) (k : Int) : Int := if thereE l k = 0 then sendE l (takeF l k) else thereE l k
def copyL (l : List Flight) (k : Int) : List Flight := if thereE l k = 0 then sendL l (takeF l k) else []
theorem takeF_at {l : List Flight} {m : Nat} (hm : m < l.length) (h : thereE l (m : Nat) = 0) : takeF l (m : Nat) = l[m] := by
  unfold takeF
  rw [h, if_pos rfl, Int.toNat_natCast, List.getD_eq_getElem?_getD, List.getElem?_eq_getElem hm]
  rfl
theorem BagP.later {w w1 w' : World} {l : List Flight} {x : Int} {e : Ending} (hb : Below w.heap.size w w1) (h : BagP w1 l x e w') : BagP w l x e w' := by
  obtain ⟨v, he, hs, hb2⟩ := h
  exact ⟨v, he, hs, bt hb hb2⟩
set_option maxRecDepth 100000 in
set_option maxHeartbeats 4000000 in
theorem copy_any (A : Option Addr) (c : Nat) (l : List Flight) (k : Int) (w : World) (hm : c ≤ maxLen) (hl : l.length ≤ c) (hx : Row w A (flightE.flat l)) :
    Calls Try.prog 38 #[.slice A l.length c, .int .i64 k] w (BagP w (copyL l k) (copyE l k)) := by
  have HT := Lib.hid (fun W hb => there_any A c l k W hm hl (hx.later (wx := W) hb))
  by_cases h0 : thereE l k = 0
  · obtain ⟨hb, h1, h2⟩ := thereE_zero h0
    obtain ⟨m, rfl⟩ := Int.eq_ofNat_of_zero_le h1
    have hk : m < l.length := by omega
    have e1 : copyE l (m : Nat) = sendE l l[m] := by unfold copyE; rw [if_pos h0, takeF_at hk h0]
    have e2 : copyL l (m : Nat) = sendL l l[m] := by unfold copyL; rw [if_pos h0, takeF_at hk h0]
    rw [e1, e2]
    have HS := Lib.hid (fun W hb => send_any A c l l[m] W hm hl (hx.later (wx := W) hb))
    have HT0 : Hid (∀ W, Below w.heap.size w W → Calls Try.prog 66 #[.slice A l.length c, .int .i64 (m : Nat)] W fun e w' => e = .returned (.int .i64 0) ∧ Below W.heap.size W w') := Lib.hid (fun W hb => by have h := HT.out W hb; rw [h0] at h; exact h)
    obtain ⟨ad, rfl, hx0, hx1, hx2⟩ := flight_at hx hk
    have HC : Hid (∀ W, Below w.heap.size w W → W.cell? (ad.add (m * 3)) = some (.int .i64 l[m].From) ∧ W.cell? ⟨(ad.add (m * 3)).block, (ad.add (m * 3)).off + 1, none⟩ = some (.int .i64 l[m].To) ∧ W.cell? ⟨(ad.add (m * 3)).block, (ad.add (m * 3)).off + 2, none⟩ = some (.string l[m].Data)) := Lib.hid (fun W hb => ⟨cell_later hb hx0, cell_later hb hx1, cell_later hb hx2⟩)
    have hq3 : (m : Int) < (l.length : Int) := by omega
    have hq4 : (0 : Int) ≤ (m : Int) := by omega
    clear h0 hb h2 HT hx0 hx1 hx2 e1 e2 hx
    generalize sendE l l[m] = x at *
    generalize sendL l l[m] = y at *
    unfold flightV at HS
    generalize l[m].From = x0 at *
    generalize l[m].To = x1 at *
    generalize l[m].Data = x2 at *
    go_enter Try.func38, Try.ntmps38
    go_wp2_with fail
    refine (HT0.out _ (Below.refl _ _)).mono ?_; rintro e w1 ⟨rfl, hb1⟩
    obtain ⟨hc0, hc1, hc2⟩ := HC.out _ hb1
    go_wp2_with fail
    refine (HS.out _ hb1).mono ?_; rintro e w2 ⟨v, rfl, hs, hb2⟩
    go_wp2
    go_ret2
    exact ⟨v, rfl, hs, bt hb1 hb2⟩
  · have e1 : copyE l k = thereE l k := by unfold copyE; rw [if_neg h0]
    have e2 : copyL l k = [] := by unfold copyL; rw [if_neg h0]
    rw [e1, e2]
    have hne : (thereE l k != 0) = true := by simpa using h0
    generalize thereE l k = x at *
    clear h0 e1 e2
    go_enter Try.func38, Try.ntmps38
    go_wp2_with fail
    refine (HT.out _ (Below.refl _ _)).mono ?_; rintro e w1 ⟨rfl, hb1⟩
    go_wp2
    go_ret2
    exact ⟨_, rfl, Sl.nil _, hb1⟩
end Go.Proofs.Ytnebacomafgjjaa
