/- Taking and doubling a flight. -/
import Derived.Test.YtnebacomafgjjaaBagTake
namespace Go.Proofs.Ytnebacomafgjjaa
open Go.RowKit
def noFlight : Flight := ⟨0, 0, ⟨#[]⟩⟩
def takeF (l : List Flight) (k : Int) : Flight := if thereE l k = 0 then l.getD k.toNat noFlight else noFlight
def takeL (l : List Flight) (k : Int) : List Flight := if thereE l k = 0 then l.take k.toNat ++ l.drop (k.toNat + 1) else []
theorem thereE_zero {l : List Flight} {k : Int} (h : thereE l k = 0) : bagE l = 0 ∧ 0 ≤ k ∧ k < (l.length : Int) := by
  unfold thereE at h
  by_cases h0 : bagE l ≠ 0
  · rw [if_pos h0] at h
    exact absurd h h0
  · rw [if_neg h0] at h
    by_cases h1 : 0 ≤ k ∧ k < (l.length : Int)
    · exact ⟨by omega, h1⟩
    · rw [if_neg h1] at h
      cases h
theorem TakeP.bad {w w' : World} {l : List Flight} {k x : Int} (h : thereE l k = x) (hx : x ≠ 0) (hb : Below w.heap.size w w') :
    TakeP w (takeF l k) (takeL l k) (thereE l k) (.returned (.tuple #[.agg #[.int .i64 0, .int .i64 0, .string ⟨#[]⟩], .slice none 0 0, .int .i64 x])) w' := by
  have e1 : takeF l k = noFlight := by unfold takeF; rw [h, if_neg hx]
  have e2 : takeL l k = [] := by unfold takeL; rw [h, if_neg hx]
  rw [e1, e2, h]
  exact ⟨_, rfl, Sl.nil _, hb⟩
theorem TakeP.good {w w' : World} {l : List Flight} {m : Nat} {v : Value} (hm : m < l.length) (h : thereE l (m : Nat) = 0) (hv : Sl flightE w' v (l.take m ++ l.drop (m + 1))) (hb : Below w.heap.size w w') :
    TakeP w (takeF l (m : Nat)) (takeL l (m : Nat)) (thereE l (m : Nat)) (.returned (.tuple #[.agg #[.int .i64 l[m].From, .int .i64 l[m].To, .string l[m].Data], v, .int .i64 0])) w' := by
  have e1 : takeF l (m : Nat) = l[m] := by unfold takeF; rw [h, if_pos rfl, Int.toNat_natCast, List.getD_eq_getElem?_getD, List.getElem?_eq_getElem hm]; rfl
  have e2 : takeL l (m : Nat) = l.take m ++ l.drop (m + 1) := by unfold takeL; rw [h, if_pos rfl, Int.toNat_natCast]
  rw [e1, e2, h]
  exact ⟨_, rfl, hv, hb⟩
theorem boxed {w W : World} {t : TypeId} (hb : Below (w.heap.size + 1) (w.alloc (.cells #[.int .i64 0, .int .i64 0, .string ⟨#[]⟩] t)) W) : W.cell? ⟨w.heap.size, 0, none⟩ = some (.int .i64 0) ∧ W.cell? ⟨w.heap.size, 1, none⟩ = some (.int .i64 0) ∧ W.cell? ⟨w.heap.size, 2, none⟩ = some (.string ⟨#[]⟩) ∧ W.frozen? ⟨w.heap.size, 0, none⟩ = false ∧ W.frozen? ⟨w.heap.size, 1, none⟩ = false ∧ W.frozen? ⟨w.heap.size, 2, none⟩ = false := by
  refine ⟨?_, ?_, ?_, ?_, ?_, ?_⟩
  · rw [hb.cell (Nat.lt_succ_self _)]; simp
  · rw [hb.cell (Nat.lt_succ_self _)]; simp
  · rw [hb.cell (Nat.lt_succ_self _)]; simp
  · rw [hb.frozen (Nat.lt_succ_self _)]; simp
  · rw [hb.frozen (Nat.lt_succ_self _)]; simp
  · rw [hb.frozen (Nat.lt_succ_self _)]; simp
set_option maxRecDepth 100000 in
set_option maxHeartbeats 4000000 in
theorem take_any (A : Option Addr) (c : Nat) (l : List Flight) (k : Int) (w : World) (hm : c ≤ maxLen) (hl : l.length ≤ c) (hx : Row w A (flightE.flat l)) :
    Calls Try.prog 36 #[.slice A l.length c, .int .i64 k] w (TakeP w (takeF l k) (takeL l k) (thereE l k)) := by
  have hb0 := balloc (Below.refl w.heap.size w) (.cells #[.int .i64 0, .int .i64 0, .string ⟨#[]⟩] 53)
  have HT := Lib.hid (fun W hb => there_any A c l k W hm hl (hx.later (wx := W) hb))
  have hsz : (w.alloc (.cells #[.int .i64 0, .int .i64 0, .string ⟨#[]⟩] 53)).heap.size = w.heap.size + 1 := by simp
  by_cases h0 : thereE l k = 0
  · obtain ⟨hb, h1, h2⟩ := thereE_zero h0
    have hlen := bagE_len hb
    obtain ⟨m, rfl⟩ := Int.eq_ofNat_of_zero_le h1
    have hk : m < l.length := by omega
    have HO := Lib.hid (fun W hb => out_any A c l m W hm hl (hx.later (wx := W) hb) hlen hk)
    have HG := Lib.hid (fun W v h1 h2 => TakeP.good (w := w) (w' := W) (v := v) hk h0 h1 h2)
    have HT0 : Hid (∀ W, Below w.heap.size w W → Calls Try.prog 66 #[.slice A l.length c, .int .i64 (m : Nat)] W fun e w' => e = .returned (.int .i64 0) ∧ Below W.heap.size W w') := Lib.hid (fun W hb => by have h := HT.out W hb; rw [h0] at h; exact h)
    clear h0 hb h1 h2 HT hsz
    unfold OutP flightV at HO
    have HSZ := Lib.hid (show (w.alloc (.cells #[.int .i64 0, .int .i64 0, .string ⟨#[]⟩] 53)).heap.size = w.heap.size + 1 from by simp)
    generalize l[m].From = x0 at *
    generalize l[m].To = x1 at *
    generalize l[m].Data = x2 at *
    go_enter Try.func36, Try.ntmps36
    go_wp2_with fail
    refine (HT0.out _ hb0).mono ?_; rintro e w1 ⟨rfl, hb1⟩
    go_wp2_with fail
    refine (HO.out _ (bt hb0 hb1)).mono ?_; rintro e w2 ⟨v, rfl, hown, hb2⟩
    have hb3 := bt hb1 hb2
    rw [HSZ.out] at hb3
    have hlt : w.heap.size < w1.heap.size := Nat.lt_of_lt_of_le (Nat.lt_succ_self _) (by have := hb1.size; rw [HSZ.out] at this; exact this)
    have hle : w.heap.size + 1 ≤ w2.heap.size := Nat.le_trans hlt hb2.size
    have hb4 := hb3.alloc hle (.cells #[.int .i64 x0, .int .i64 x1, .string x2] 53)
    obtain ⟨hc0, hc1, hc2, hf0, hf1, hf2⟩ := boxed hb4
    obtain ⟨hv0, hv1, hv2⟩ := Box3.vals ⟨by rw [hc0]; rfl, by rw [hc1]; rfl, by rw [hc2]; rfl, hf0, hf1, hf2⟩ (.int .i64 x0) (.int .i64 x1) (.string x2)
    have hfin := HG.out ((((w2.alloc (.cells #[.int .i64 x0, .int .i64 x1, .string x2] 53)).setCell ⟨w.heap.size, 0, none⟩ (.int .i64 x0)).setCell ⟨w.heap.size, 1, none⟩ (.int .i64 x1)).setCell ⟨w.heap.size, 2, none⟩ (.string x2)) v (Sl.of_own (E := flightE) (own_far (own_far (own_far (hown.alloc _) hlt) hlt) hlt)) ((((hb0.trans (hb4.mono (Nat.le_succ _))).setCell (Nat.le_refl _) _).setCell (Nat.le_refl _) _).setCell (Nat.le_refl _) _)
    go_wp2
    refine bodyPost_ret (v := .tuple #[.agg #[.int .i64 x0, .int .i64 x1, .string x2], v, .int .i64 0]) (by simp [results, Try.results36, go_sem, hv0, hv1, hv2]) rfl ?_
    exact hfin
  · have hne : (thereE l k != 0) = true := by simpa using h0
    have HB := Lib.hid (fun W hb => TakeP.bad (w := w) (w' := W) (l := l) (k := k) (x := thereE l k) rfl h0 hb)
    generalize thereE l k = x at *
    clear h0
    go_enter Try.func36, Try.ntmps36
    go_wp2_with fail
    refine (HT.out _ hb0).mono ?_; rintro e w1 ⟨rfl, hb1⟩
    have hb3 := hb1
    rw [hsz] at hb3
    obtain ⟨hc0, hc1, hc2, hf0, hf1, hf2⟩ := boxed hb3
    have hbx := Box3.vals ⟨by rw [hc0]; rfl, by rw [hc1]; rfl, by rw [hc2]; rfl, hf0, hf1, hf2⟩ (.int .i64 0) (.int .i64 0) (.string ⟨#[]⟩)
    obtain ⟨hv0, hv1, hv2⟩ := hbx
    have hfin := HB.out (((w1.setCell ⟨w.heap.size, 0, none⟩ (.int .i64 0)).setCell ⟨w.heap.size, 1, none⟩ (.int .i64 0)).setCell ⟨w.heap.size, 2, none⟩ (.string ⟨#[]⟩)) ((((hb0.trans (hb3.mono (Nat.le_succ _))).setCell (Nat.le_refl _) _).setCell (Nat.le_refl _) _).setCell (Nat.le_refl _) _)
    go_wp2
    refine bodyPost_ret (v := .tuple #[.agg #[.int .i64 0, .int .i64 0, .string ⟨#[]⟩], .slice none 0 0, .int .i64 x]) (by simp [results, Try.results36, go_sem, hv0, hv1, hv2]) rfl ?_
    exact hfin
end Go.Proofs.Ytnebacomafgjjaa
