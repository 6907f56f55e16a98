/- A flight is taken out. -/
import Derived.Test.YtnebacomafgjjaaBagRefSend
namespace Go.Proofs.Ytnebacomafgjjaa
open Go.RowKit

def thereE (l : List Flight) (k : Int) : Int := if bagE l ≠ 0 then bagE l else if 0 ≤ k ∧ k < (l.length : Int) then 0 else 31
theorem there_any (A : Option Addr) (c : Nat) (l : List Flight) (k : Int) (w : World) (hm : c ≤ maxLen) (hl : l.length ≤ c) (hx : Row w A (flightE.flat l)) :
    Calls Try.prog 66 #[.slice A l.length c, .int .i64 k] w fun e w' => e = .returned (.int .i64 (thereE l k)) ∧ Below w.heap.size w w' := by
  have hmm := hm
  unfold maxLen at hmm
  have HC := Lib.hid (fun W hb => bagcheck_any A c l W hm hl (hx.later (wx := W) hb))
  generalize hR : thereE l k = R
  unfold thereE at hR
  rcases bagE_cases l with h0 | h0
  · rw [h0] at HC
    rw [h0, if_neg (by decide)] at hR
    have hlen := bagE_len h0
    clear h0
    by_cases h1 : 0 ≤ k
    · by_cases h2 : k < (l.length : Int)
      · rw [if_pos ⟨h1, h2⟩] at hR
        have HR := Lib.hid hR
        clear hR
        go_enter Try.func66, Try.ntmps66
        go_wp2_with fail
        refine (HC.out _ (Below.refl _ _)).mono ?_; rintro e w1 ⟨rfl, hb1⟩
        go_wp2
        go_ret
        exact ⟨by rw [← HR.out]; rfl, hb1⟩
      · rw [if_neg (fun h => h2 h.2)] at hR
        have HR := Lib.hid hR
        clear hR
        go_enter Try.func66, Try.ntmps66
        go_wp2_with fail
        refine (HC.out _ (Below.refl _ _)).mono ?_; rintro e w1 ⟨rfl, hb1⟩
        go_wp2
        go_ret
        exact ⟨by rw [← HR.out]; rfl, hb1⟩
    · rw [if_neg (fun h => h1 h.1)] at hR
      have HR := Lib.hid hR
      clear hR
      go_enter Try.func66, Try.ntmps66
      go_wp2_with fail
      refine (HC.out _ (Below.refl _ _)).mono ?_; rintro e w1 ⟨rfl, hb1⟩
      go_wp2
      go_ret
      exact ⟨by rw [← HR.out]; rfl, hb1⟩
  · have hne : (bagE l != 0) = true := by simpa using h0
    rw [if_pos h0] at hR
    subst hR
    generalize bagE l = x at *
    clear h0
    go_enter Try.func66, Try.ntmps66
    go_wp2_with fail
    refine (HC.out _ (Below.refl _ _)).mono ?_; rintro e w1 ⟨rfl, hb1⟩
    go_wp2
    go_ret
    exact ⟨rfl, hb1⟩
/-- What a taking hands back. -/
def TakeP (w : World) (f : Flight) (l : List Flight) (x : Int) (e : Ending) (w' : World) : Prop := ∃ v, e = .returned (.tuple #[flightV f, v, .int .i64 x]) ∧ Sl flightE w' v l ∧ Below w.heap.size w w'
def OutP (w : World) (f : Flight) (l : List Flight) (e : Ending) (w' : World) : Prop := ∃ v, e = .returned (.tuple #[flightV f, v]) ∧ w'.ownsRow w.heap.size 53 3 v l.length (flightE.flat l) ∧ Below w.heap.size w w'
theorem own_base {w : World} {base base' : Nat} {e : TypeId} {size n : Nat} {v : Value} {xs : List Value} (h : w.ownsRow base e size v n xs) (hb : base' ≤ base) : w.ownsRow base' e size v n xs := by
  obtain ⟨h1, h2⟩ := h
  refine ⟨h1, ?_⟩
  rcases h2 with h2 | ⟨g', cap', cur, hv, hb', hh, h3, h4, h5, h6⟩
  · exact .inl h2
  · exact .inr ⟨g', cap', cur, hv, Nat.le_trans hb hb', hh, h3, h4, h5, h6⟩
theorem Row.part {w : World} {ad : Addr} {xs ys zs : List Value} (h : Row w (some ad) (xs ++ ys ++ zs)) : Row w (some (ad.add xs.length)) ys := by
  intro j u hu
  have hj : j < ys.length := (List.getElem?_eq_some_iff.1 hu).1
  obtain ⟨ad', e, hc⟩ := h (xs.length + j) u (by rw [List.append_assoc, List.getElem?_append_right (by omega), List.getElem?_append_left (by omega)]; simpa using hu)
  injection e with e
  subst e
  exact ⟨_, rfl, by rw [add_of_add]; exact hc⟩
theorem Row.front {w : World} {A : Option Addr} {xs ys : List Value} (h : Row w A (xs ++ ys)) : Row w A xs := fun j u hu => h j u (by rw [List.getElem?_append_left (List.getElem?_eq_some_iff.1 hu).1]; exact hu)
theorem flat_split (l : List Flight) (m : Nat) (h : m < l.length) : flightE.flat l = flightE.flat (l.take m) ++ flightE.cells l[m] ++ flightE.flat (l.drop (m + 1)) := by
  rw [← flightE.flat_one, ← flightE.flat_append, ← flightE.flat_append]
  congr 1
  rw [List.append_assoc]
  show l = l.take m ++ ([l[m]] ++ l.drop (m + 1))
  rw [List.singleton_append, ← List.drop_eq_getElem_cons h, List.take_append_drop]
/-- Three cells of block b that may be written. -/
def Box3 (b : Nat) (W : World) : Prop := (W.cell? ⟨b, 0, none⟩).isSome = true ∧ (W.cell? ⟨b, 1, none⟩).isSome = true ∧ (W.cell? ⟨b, 2, none⟩).isSome = true ∧ W.frozen? ⟨b, 0, none⟩ = false ∧ W.frozen? ⟨b, 1, none⟩ = false ∧ W.frozen? ⟨b, 2, none⟩ = false
/-- What lies in a cell, under a name. -/
theorem cell_name (a : Addr) : ∃ C : World → Value, ∀ W : World, (W.cell? a).isSome = true → W.cell? a = some (C W) := ⟨fun W => (W.cell? a).getD undef, fun W h => by obtain ⟨u, hu⟩ := Option.isSome_iff_exists.1 h; simp [hu]⟩
theorem isSome_set {W : World} {b o : Nat} {v : Value} {x : Addr} (h : (W.cell? x).isSome = true) : ((W.setCell ⟨b, o, none⟩ v).cell? x).isSome = true := World.isSome_setCells b [v] o W x h
theorem Box3.store {b : Nat} {W : World} (h : Box3 b W) (v0 v1 v2 : Value) : Box3 b (((W.setCell ⟨b, 0, none⟩ v0).setCell ⟨b, 1, none⟩ v1).setCell ⟨b, 2, none⟩ v2) := by
  obtain ⟨h0, h1, h2, h3, h4, h5⟩ := h
  exact ⟨isSome_set (isSome_set (isSome_set h0)), isSome_set (isSome_set (isSome_set h1)), isSome_set (isSome_set (isSome_set h2)), by simpa using h3, by simpa using h4, by simpa using h5⟩
theorem Box3.vals {b : Nat} {W : World} (h : Box3 b W) (v0 v1 v2 : Value) : (((W.setCell ⟨b, 0, none⟩ v0).setCell ⟨b, 1, none⟩ v1).setCell ⟨b, 2, none⟩ v2).cell? ⟨b, 0, none⟩ = some v0 ∧ (((W.setCell ⟨b, 0, none⟩ v0).setCell ⟨b, 1, none⟩ v1).setCell ⟨b, 2, none⟩ v2).cell? ⟨b, 1, none⟩ = some v1 ∧ (((W.setCell ⟨b, 0, none⟩ v0).setCell ⟨b, 1, none⟩ v1).setCell ⟨b, 2, none⟩ v2).cell? ⟨b, 2, none⟩ = some v2 := by
  obtain ⟨h0, h1, h2, _⟩ := h
  refine ⟨?_, ?_, ?_⟩
  · rw [World.cell?_setCell_other _ _ _ _ (show (⟨b, 2, none⟩ : Addr) ≠ ⟨b, 0, none⟩ from by simp), World.cell?_setCell_other _ _ _ _ (show (⟨b, 1, none⟩ : Addr) ≠ ⟨b, 0, none⟩ from by simp), World.cell?_setCell_same' _ _ _ h0]
  · rw [World.cell?_setCell_other _ _ _ _ (show (⟨b, 2, none⟩ : Addr) ≠ ⟨b, 1, none⟩ from by simp), World.cell?_setCell_same' _ _ _ (isSome_set h1)]
  · rw [World.cell?_setCell_same' _ _ _ (isSome_set (isSome_set h2))]
theorem own_far {w : World} {base : Nat} {e : TypeId} {size n : Nat} {v u : Value} {xs : List Value} {b o : Nat} (h : w.ownsRow base e size v n xs) (hb : b < base) : (w.setCell ⟨b, o, none⟩ u).ownsRow base e size v n xs := by
  obtain ⟨h1, h2⟩ := h
  refine ⟨h1, ?_⟩
  rcases h2 with h2 | ⟨g', cap', cur, hv, hb', hh, h3, h4, h5, h6⟩
  · exact .inl h2
  · exact .inr ⟨g', cap', cur, hv, hb', (Below.heap_setCell w ⟨b, o, none⟩ u g' (by show g' ≠ b; omega)).trans hh, h3, h4, h5, h6⟩
theorem flight_len3 (x : Flight) : (flightE.cells x).length = 3 := flightE.len x
set_option maxRecDepth 100000 in
set_option maxHeartbeats 4000000 in
theorem out_any (A : Option Addr) (c : Nat) (l : List Flight) (m : Nat) (w : World) (hm : c ≤ maxLen) (hl : l.length ≤ c) (hx : Row w A (flightE.flat l)) (hs : l.length ≤ 5000) (hk : m < l.length) :
    Calls Try.prog 67 #[.slice A l.length c, .int .i64 (m : Nat)] w (OutP w l[m] (l.take m ++ l.drop (m + 1))) := by
  obtain ⟨i0, hi, hz0, hz1, hz2⟩ := info_parts info_flight
  obtain ⟨ad, rfl, hx0, hx1, hx2⟩ := flight_at hx hk
  have hmm := hm
  unfold maxLen at hmm
  have HX := Lib.hid hx
  clear hx
  have hk1 : IntKind.i64.wrap ((m : Int) + 1) = (m : Int) + 1 := by rw [IntKind.wrap_i64]; omega
  have hq0 : (0 : Int) ≤ (m : Int) + 1 := by omega
  have hq1 : (m : Int) + 1 ≤ (l.length : Int) := by omega
  have hq2 : (l.length : Int) ≤ (c : Int) := by omega
  have hq3 : (m : Int) < (l.length : Int) := by omega
  have hq4 : (0 : Int) ≤ (m : Int) := by omega
  have HLT := Lib.hid (show (flightE.flat (l.take m)).length = m * 3 from by rw [flightE.flat_length, List.length_take, Nat.min_eq_left (by omega)]; rfl)
  have HLD := Lib.hid (show (flightE.flat (l.drop (m + 1))).length = (l.length - (m + 1)) * 3 from by rw [flightE.flat_length, List.length_drop]; rfl)
  have HP0 : Hid (Row w (some ad) (flightE.flat (l.take m))) := Lib.hid (by
    have h := HX.out
    rw [flat_split l m hk, List.append_assoc] at h
    exact h.front)
  have HP1 : Hid (Row w (if c = m + 1 then some ad else some (ad.add ((m + 1) * 3))) (flightE.flat (l.drop (m + 1)))) := Lib.hid (by
    by_cases hc : c = m + 1
    · rw [List.drop_eq_nil_of_le (by omega)]
      exact Row.nil _ _
    rw [if_neg hc]
    have h := HX.out
    rw [flat_split l m hk, ← List.append_nil (flightE.flat (l.drop (m + 1))), ← List.append_assoc] at h
    have h2 := h.part
    rw [List.length_append, HLT.out, flight_len3, show m * 3 + 3 = (m + 1) * 3 from by omega] at h2
    exact h2)
  have HO0 := Lib.hid (flight_one (l.take m))
  have HO1 := Lib.hid (flight_one (l.drop (m + 1)))
  have h63 := Lib.hid (show 0 + m ≤ maxLen from by unfold maxLen; omega)
  have hby := Lib.hid (show (0 + m) * 32 ≤ 140737488355328 from by omega)
  have h63b := Lib.hid (show m + (l.length - (m + 1)) ≤ maxLen from by unfold maxLen; omega)
  have hbyb := Lib.hid (show (m + (l.length - (m + 1))) * 32 ≤ 140737488355328 from by omega)
  have HF := Lib.hid (flightE.flat_append (l.take m) (l.drop (m + 1)))
  have HLL := Lib.hid (show (l.take m ++ l.drop (m + 1)).length = m + (l.length - (m + 1)) from by rw [List.length_append, List.length_take, List.length_drop, Nat.min_eq_left (by omega)])
  have HFIN : Hid (∀ (W : World) v, W.ownsRow (w.heap.size + 1) 53 3 v (l.take m ++ l.drop (m + 1)).length (flightE.flat (l.take m ++ l.drop (m + 1))) → Below w.heap.size w W → OutP w l[m] (l.take m ++ l.drop (m + 1)) (.returned (.tuple #[.agg #[.int .i64 l[m].From, .int .i64 l[m].To, .string l[m].Data], v])) W) := Lib.hid (fun W v h1 h2 => ⟨v, rfl, own_base h1 (Nat.le_succ _), h2⟩)
  generalize l[m].From = x0 at *
  generalize l[m].To = x1 at *
  generalize l[m].Data = x2 at *
  go_enter Try.func67, Try.ntmps67
  have hw0 : Below w.heap.size w (w.alloc (.cells #[.int .i64 0, .int .i64 0, .string ⟨#[]⟩] 53)) := balloc (Below.refl _ _) _
  have SZ : Hid (∀ W, Below (w.heap.size + 1) (w.alloc (.cells #[.int .i64 0, .int .i64 0, .string ⟨#[]⟩] 53)) W → Box3 w.heap.size W ∧ Below w.heap.size w W) := Lib.hid (by
    intro W hb
    refine ⟨⟨?_, ?_, ?_, ?_, ?_, ?_⟩, hw0.trans (hb.mono (Nat.le_succ _))⟩
    · rw [hb.cell (Nat.lt_succ_self _)]; simp
    · rw [hb.cell (Nat.lt_succ_self _)]; simp
    · rw [hb.cell (Nat.lt_succ_self _)]; simp
    · rw [hb.frozen (Nat.lt_succ_self _)]; simp
    · rw [hb.frozen (Nat.lt_succ_self _)]; simp
    · rw [hb.frozen (Nat.lt_succ_self _)]; simp)
  obtain ⟨C0, hC0⟩ := cell_name ⟨w.heap.size, 0, none⟩
  obtain ⟨C1, hC1⟩ := cell_name ⟨w.heap.size, 1, none⟩
  obtain ⟨C2, hC2⟩ := cell_name ⟨w.heap.size, 2, none⟩
  have SK : Hid (∀ W, Box3 w.heap.size W ∧ Below w.heap.size w W → (W.cell? (ad.add (m * 3)) = some (.int .i64 x0) ∧ W.cell? ⟨(ad.add (m * 3)).block, (ad.add (m * 3)).off + 1, none⟩ = some (.int .i64 x1) ∧ W.cell? ⟨(ad.add (m * 3)).block, (ad.add (m * 3)).off + 2, none⟩ = some (.string x2)) ∧ (W.cell? ⟨w.heap.size, 0, none⟩ = some (C0 W) ∧ W.cell? ⟨w.heap.size, 1, none⟩ = some (C1 W) ∧ W.cell? ⟨w.heap.size, 2, none⟩ = some (C2 W) ∧ W.frozen? ⟨w.heap.size, 0, none⟩ = false ∧ W.frozen? ⟨w.heap.size, 1, none⟩ = false ∧ W.frozen? ⟨w.heap.size, 2, none⟩ = false) ∧ Below w.heap.size w W) := Lib.hid (fun W h => ⟨⟨cell_later h.2 hx0, cell_later h.2 hx1, cell_later h.2 hx2⟩, ⟨hC0 W h.1.1, hC1 W h.1.2.1, hC2 W h.1.2.2.1, h.1.2.2.2⟩, h.2⟩)
  have HB3 : Hid (∀ W, Box3 w.heap.size W ∧ Below w.heap.size w W → Box3 w.heap.size (((W.setCell ⟨w.heap.size, 0, none⟩ (.int .i64 x0)).setCell ⟨w.heap.size, 1, none⟩ (.int .i64 x1)).setCell ⟨w.heap.size, 2, none⟩ (.string x2)) ∧ Below w.heap.size w (((W.setCell ⟨w.heap.size, 0, none⟩ (.int .i64 x0)).setCell ⟨w.heap.size, 1, none⟩ (.int .i64 x1)).setCell ⟨w.heap.size, 2, none⟩ (.string x2))) := Lib.hid (fun W h => ⟨h.1.store _ _ _, ((h.2.setCell (Nat.le_refl _) _).setCell (Nat.le_refl _) _).setCell (Nat.le_refl _) _⟩)
  go_wp2_with (first | (at_make; refine wpList_make_own _ rfl _ _ 51 rfl (w.heap.size + 1) 53 i0 _ 3 Try.underlying51 hi hz0 hz1 .i64 .i64 _ l.length rfl rfl rfl (by rw [hz2]; omega) (by unfold maxLen; omega) (by simp) ?_; intro w1 hown1 hg1; have hw1 : Below (w.heap.size + 1) (w.alloc (.cells #[.int .i64 0, .int .i64 0, .string ⟨#[]⟩] 53)) w1 := (Below.refl _ _).grown hg1 (by simp) (fun k hk => by cases hk); have hown1' : w1.ownsRow (w.heap.size + 1) 53 3 (.slice (some ⟨w.heap.size + 1, 0, none⟩) 0 l.length) 0 [] := (by simpa using hown1); have hs1 : w.heap.size + 1 ≤ w1.heap.size := Nat.le_trans (by simp) hw1.size; have hp1 := HP0.out.later (hw0.trans (hw1.mono (Nat.le_succ _)))) | (at_builtin; refine wpList_append_row _ rfl (.tmp 10) (.tmp 13) _ rfl (w.heap.size + 1) 53 i0 _ 3 32 Try.underlying51 hi hz0 hz1 hz2 rfl (by omega) (.slice (some ⟨w.heap.size + 1, 0, none⟩) 0 l.length) 0 [] rfl hown1' (some ad) m c (flightE.flat (l.take m)) rfl HLT.out hp1 HO0.out h63.out hby.out hs1 ?_; intro v2 w2 hown2 hg2 hat2; have hw2 := hw1.grown hg2 hs1 (fun k hk => Nat.le_of_eq (Option.some.inj hk)); rw [Nat.zero_add, List.nil_append] at hown2))
  have hs2 : w.heap.size + 1 ≤ w2.heap.size := Nat.le_trans hs1 (hg2.size)
  have hk2 := SK.out _ (SZ.out _ hw2.drew)
  have hown2' := own_later' hown2 (bdrew (a := w2))
  have hp2 := HP1.out.later (hw0.trans (hw2.drew.mono (Nat.le_succ _)))
  clear hC0 hC1 hC2 hx0 hx1 hx2 hw1 hg1 hown1 hown1' hp1 hg2
  go_region_held3 (fun W => (W.cell? (ad.add (m * 3)) = some (.int .i64 x0) ∧ W.cell? ⟨(ad.add (m * 3)).block, (ad.add (m * 3)).off + 1, none⟩ = some (.int .i64 x1) ∧ W.cell? ⟨(ad.add (m * 3)).block, (ad.add (m * 3)).off + 2, none⟩ = some (.string x2)) ∧ (W.cell? ⟨w.heap.size, 0, none⟩ = some (C0 W) ∧ W.cell? ⟨w.heap.size, 1, none⟩ = some (C1 W) ∧ W.cell? ⟨w.heap.size, 2, none⟩ = some (C2 W) ∧ W.frozen? ⟨w.heap.size, 0, none⟩ = false ∧ W.frozen? ⟨w.heap.size, 1, none⟩ = false ∧ W.frozen? ⟨w.heap.size, 2, none⟩ = false) ∧ Below w.heap.size w W) (first | assumption | exact SK.out _ (SZ.out _ hw5) | exact SK.out _ (HB3.out _ (SZ.out _ hw5))) (first | (refine step_append_row _ rfl (.tmp 19) (.tmp 23) _ (by rfl) (w.heap.size + 1) 53 i0 _ 3 32 Try.underlying51 hi hz0 hz1 hz2 rfl (by omega) v2 m (flightE.flat (l.take m)) (by rfl) hown2' (if c = m + 1 then some ad else some (ad.add ((m + 1) * 3))) (l.length - (m + 1)) (c - (m + 1)) (flightE.flat (l.drop (m + 1))) (by rfl) HLD.out hp2 HO1.out h63b.out hbyb.out hs2 ?_; intro v5 w5 hown5 hg5 hat5; have hw5 := hw2.drew.grown hg5 hs2 (fun k hk => (hown2.lt k hk).1)) | fail)
  have hv := Box3.vals (SZ.out _ hw5).1 (.int .i64 x0) (.int .i64 x1) (.string x2)
  obtain ⟨hv0, hv1, hv2⟩ := hv
  have hfin := HFIN.out _ v5 (by rw [HF.out, HLL.out]; exact own_far (own_far (own_far hown5 (Nat.lt_succ_self _)) (Nat.lt_succ_self _)) (Nat.lt_succ_self _)) ((HB3.out _ (SZ.out _ hw5)).2)
  go_wp2
  all_goals (refine bodyPost_ret (v := .tuple #[.agg #[.int .i64 x0, .int .i64 x1, .string x2], v5]) (by simp [results, Try.results67, go_sem, hv0, hv1, hv2]) rfl ?_; exact hfin)
end Go.Proofs.Ytnebacomafgjjaa
