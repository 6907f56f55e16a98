/- A flight is sent: the document's answer. -/
import Derived.Test.YtnebacomafgjjaaBagSend
namespace Go.Proofs.Ytnebacomafgjjaa
open Go.RowKit
theorem Row.far {w w' : World} {g : Nat} {cs : List Value} {r : Option Nat} (h : Row w (some ⟨g, 0, none⟩) cs) (hg : w.grownBy w' r) (hlt : g < w.heap.size) (hne : some g ≠ r) : Row w' (some ⟨g, 0, none⟩) cs := by
  intro j u hu
  obtain ⟨ad, e, hc⟩ := h j u hu
  refine ⟨ad, e, ?_⟩
  injection e with e
  subst e
  rw [hg.cell_far _ (by rw [block_of_add]; exact hlt) (by rw [block_of_add]; exact hne)]
  exact hc
set_option maxRecDepth 100000 in
set_option maxHeartbeats 4000000 in
theorem refsend_any (A : Option Addr) (c : Nat) (l : List Flight) (f : Flight) (w : World) (hm : c ≤ maxLen) (hl : l.length ≤ c) (hx : Row w A (flightE.flat l)) :
    Calls Try.prog 33 #[.slice A l.length c, flightV f] w (BagP w (sendL l f) (sendE l f)) := by
  obtain ⟨i0, hi, hz0, hz1, hz2⟩ := info_parts info_refflight
  have hmm := hm
  unfold maxLen at hmm
  have hb0 := balloc (Below.refl w.heap.size w) (.cells #[.int .i64 f.From, .int .i64 f.To, .string f.Data] 61)
  have HC := Lib.hid (fun W hb => refbagcheck_any A c l W hm hl (hx.later (wx := W) hb))
  have HM := Lib.hid (fun W => refmay_any f W)
  rcases bagE_cases l with h0 | h0
  · rw [h0] at HC
    have hlen := bagE_len h0
    cases h1 : mayF f
    · have HB := Lib.hid (fun W hb => BagP.bad (w := w) (w' := W) (l := l) (f := f) (x := 2) (by unfold sendE; rw [if_neg (by rw [h0]; decide), if_pos h1]) (by decide) hb)
      rw [h1] at HM
      unfold flightV at HM ⊢
      clear h0 h1
      go_enter Try.func33, Try.ntmps33
      go_wp2_with fail
      refine (HC.out _ hb0).mono ?_; rintro e w1 ⟨rfl, hb1⟩
      have hx0 : w1.cell? ⟨w.heap.size, 0, none⟩ = some (.int .i64 f.From) := cell_later hb1 (by rw [World.cell?_alloc_new]; rfl)
      have hx1 : w1.cell? ⟨w.heap.size, 1, none⟩ = some (.int .i64 f.To) := cell_later hb1 (by rw [World.cell?_alloc_new]; rfl)
      have hx2 : w1.cell? ⟨w.heap.size, 2, none⟩ = some (.string f.Data) := cell_later hb1 (by rw [World.cell?_alloc_new]; rfl)
      go_wp2_with (refine (HM.out _).mono ?_; rintro e w2 ⟨rfl, hb2⟩)
      go_ret2
      exact HB.out _ (bt (bt hb0 hb1) hb2)
    · rw [h1] at HM
      by_cases h2 : 5000 ≤ l.length
      · have HB := Lib.hid (fun W hb => BagP.bad (w := w) (w' := W) (l := l) (f := f) (x := 8) (by unfold sendE; rw [if_neg (by rw [h0]; decide), if_neg (by rw [h1]; decide), if_pos h2]) (by decide) hb)
        unfold flightV at HM ⊢
        clear h0 h1
        go_enter Try.func33, Try.ntmps33
        go_wp2_with fail
        refine (HC.out _ hb0).mono ?_; rintro e w1 ⟨rfl, hb1⟩
        have hx0 : w1.cell? ⟨w.heap.size, 0, none⟩ = some (.int .i64 f.From) := cell_later hb1 (by rw [World.cell?_alloc_new]; rfl)
        have hx1 : w1.cell? ⟨w.heap.size, 1, none⟩ = some (.int .i64 f.To) := cell_later hb1 (by rw [World.cell?_alloc_new]; rfl)
        have hx2 : w1.cell? ⟨w.heap.size, 2, none⟩ = some (.string f.Data) := cell_later hb1 (by rw [World.cell?_alloc_new]; rfl)
        go_wp2_with (refine (HM.out _).mono ?_; rintro e w2 ⟨rfl, hb2⟩)
        go_ret2
        exact HB.out _ (bt (bt hb0 hb1) hb2)
      · have HB := Lib.hid (fun W v hv hb => BagP.good (w := w) (w' := W) (l := l) (f := f) (v := v) (by unfold sendE; rw [if_neg (by rw [h0]; decide), if_neg (by rw [h1]; decide), if_neg h2]) hv hb)
        have HF := Lib.hid (show flightE.flat (l ++ [f]) = flightE.flat l ++ [Value.int .i64 f.From, Value.int .i64 f.To, Value.string f.Data] from by rw [flightE.flat_append, flightE.flat_one]; rfl)
        have hone := Lib.hid (show ∀ u ∈ [Value.int .i64 f.From, Value.int .i64 f.To, Value.string f.Data], u.oneCell' = true from flight_one [f])
        have h63 := Lib.hid (show l.length + 1 ≤ maxLen from by unfold maxLen; omega)
        have hby := Lib.hid (show (l.length + 1) * 32 ≤ 140737488355328 from by omega)
        have hll : (l ++ [f]).length = l.length + 1 := by simp
        have HLL := Lib.hid hll
        clear hll
        unfold flightV at HM ⊢
        clear h0 h1
        generalize f.From = a at *
        generalize f.To = b at *
        generalize f.Data = d at *
        go_enter Try.func33, Try.ntmps33
        go_wp2_with fail
        refine (HC.out _ hb0).mono ?_; rintro e w1 ⟨rfl, hb1⟩
        have hx0 : w1.cell? ⟨w.heap.size, 0, none⟩ = some (.int .i64 a) := cell_later hb1 (by rw [World.cell?_alloc_new]; rfl)
        have hx1 : w1.cell? ⟨w.heap.size, 1, none⟩ = some (.int .i64 b) := cell_later hb1 (by rw [World.cell?_alloc_new]; rfl)
        have hx2 : w1.cell? ⟨w.heap.size, 2, none⟩ = some (.string d) := cell_later hb1 (by rw [World.cell?_alloc_new]; rfl)
        have HB1 := Lib.hid (bt hb0 hb1)
        clear hb0 hb1
        go_wp2_with (refine (HM.out _).mono ?_; rintro e w2 ⟨rfl, hb2⟩)
        have SK : Hid (∀ W, Below w2.heap.size w2 W → W.cell? ⟨w.heap.size, 0, none⟩ = some (.int .i64 a) ∧ W.cell? ⟨w.heap.size, 1, none⟩ = some (.int .i64 b) ∧ W.cell? ⟨w.heap.size, 2, none⟩ = some (.string d) ∧ Below w2.heap.size w2 W) := fun W hb => ⟨cell_later (bt hb2 hb) hx0, cell_later (bt hb2 hb) hx1, cell_later (bt hb2 hb) hx2, hb⟩
        have HB2 := Lib.hid (bt HB1.out hb2)
        clear hx0 hx1 hx2 hb2
        have hk0 := SK.out _ (bdrew (a := w2))
        have hflen := Lib.hid (flightE.flat_length l)
        have hlone := Lib.hid (flight_one l)
        have h63b := Lib.hid (show 0 + l.length ≤ maxLen from by unfold maxLen; omega)
        have hbyb := Lib.hid (show (0 + l.length) * 32 ≤ 140737488355328 from by omega)
        have hxl := Lib.hid (fun W hb => (hx.later HB2.out).later (wx := W) hb)
        have HO3 : Hid (((w2.alloc (.cells #[.int .i64 a, .int .i64 b, .string d] 61)).alloc (.cells #[] 61)).drew.ownsRow w2.heap.size 61 3 (.slice (some ⟨w2.heap.size + 1, 0, none⟩) 0 0) 0 []) := Lib.hid (by
          have h := own_later' (World.ownsRow_lit (base := w2.heap.size) (e := 61) (size := 3) (w2.alloc (.cells #[.int .i64 a, .int .i64 b, .string d] 61)) #[] 0 (World.alloc_size_le _ _) (Nat.zero_le _) rfl) bdrew
          simpa using h)
        have HR2 : Hid (Row ((w2.alloc (.cells #[] 61)).alloc (.cells #[.int .i64 a, .int .i64 b, .string d] 61)).drew (some ⟨w2.heap.size + 1, 0, none⟩) [.int .i64 a, .int .i64 b, .string d]) := Lib.hid (by
          have h := Row.later (Row.new (w2.alloc (.cells #[] 61)) [.int .i64 a, .int .i64 b, .string d] 61) bdrew
          simpa using h)
        go_region_held3 (fun W => W.cell? ⟨w.heap.size, 0, none⟩ = some (.int .i64 a) ∧ W.cell? ⟨w.heap.size, 1, none⟩ = some (.int .i64 b) ∧ W.cell? ⟨w.heap.size, 2, none⟩ = some (.string d) ∧ Below w2.heap.size w2 W) (first | assumption | exact SK.out _ (by first | exact bdrew | exact hb5 | exact hb4 | exact balloc hb4 _ | exact (balloc (Below.refl _ _) _).drew | exact (balloc (balloc (Below.refl _ _) _) _).drew)) (first | (refine step_append_row _ rfl (.tmp 18) (.tmp 19) _ (by rfl) w2.heap.size 61 i0 _ 3 32 Try.underlying57 hi hz0 hz1 hz2 rfl (by omega) (.slice (some ⟨w2.heap.size, 0, none⟩) 0 0) 0 [] (by rfl) (own_later' (World.ownsRow_lit w2 #[] 0 (Nat.le_refl _) (Nat.zero_le _) rfl) bdrew) A l.length c (flightE.flat l) (by rfl) hflen.out (hxl.out _ ((balloc (Below.refl w2.heap.size w2) _).drew)) hlone.out h63b.out hbyb.out ((balloc (Below.refl w2.heap.size w2) _).drew).size ?_; intro v4 w4 hown4 hg4 hat4; have hb4 : Below w2.heap.size w2 w4 := ((balloc (Below.refl w2.heap.size w2) _).drew).grown hg4 ((balloc (Below.refl w2.heap.size w2) _).drew).size (fun k hk => by have := Option.some.inj hk; simp at this; omega); rw [Nat.zero_add, List.nil_append] at hown4) | (refine step_append_row _ rfl (.tmp 18) (.tmp 19) _ (by rfl) w2.heap.size 61 i0 _ 3 32 Try.underlying57 hi hz0 hz1 hz2 rfl (by omega) (.slice (some ⟨w2.heap.size, 0, none⟩) 0 0) 0 [] (by rfl) (own_later' (World.ownsRow_lit w2 #[] 0 (Nat.le_refl _) (Nat.zero_le _) rfl) (balloc (Below.refl _ _) _).drew) A l.length c (flightE.flat l) (by rfl) hflen.out (hxl.out _ ((balloc (balloc (Below.refl w2.heap.size w2) _) _).drew)) hlone.out h63b.out hbyb.out ((balloc (balloc (Below.refl w2.heap.size w2) _) _).drew).size ?_; intro v4 w4 hown4 hg4 hat4; have hb4 : Below w2.heap.size w2 w4 := ((balloc (balloc (Below.refl w2.heap.size w2) _) _).drew).grown hg4 ((balloc (balloc (Below.refl w2.heap.size w2) _) _).drew).size (fun k hk => by have := Option.some.inj hk; simp at this; omega); rw [Nat.zero_add, List.nil_append] at hown4; have hrow := Row.far HR2.out hg4 (by simp) (by simp [Value.ownBlock])) | (refine step_append_row _ rfl (.tmp 20) (.tmp 22) _ (by rfl) w2.heap.size 61 i0 _ 3 32 Try.underlying57 hi hz0 hz1 hz2 rfl (by omega) v4 l.length (flightE.flat l) (by rfl) (hown4.alloc _) (some ⟨w4.heap.size, 0, none⟩) 1 1 [.int .i64 a, .int .i64 b, .string d] (by rfl) rfl (Row.new w4 _ _) hone.out h63.out hby.out (balloc hb4 _).size ?_; intro v5 w5 hown5 hg5 hat5; have hb5 : Below w2.heap.size w2 w5 := (balloc hb4 _).grown hg5 (balloc hb4 _).size (fun k hk => (hown4.lt k hk).1)) | (refine step_append_row _ rfl (.tmp 20) (.tmp 22) _ (by rfl) w2.heap.size 61 i0 _ 3 32 Try.underlying57 hi hz0 hz1 hz2 rfl (by omega) v4 l.length (flightE.flat l) (by rfl) (hown4) (some ⟨w2.heap.size + 1, 0, none⟩) 1 1 [.int .i64 a, .int .i64 b, .string d] (by rfl) rfl (hrow) hone.out h63.out hby.out (hb4).size ?_; intro v5 w5 hown5 hg5 hat5; have hb5 : Below w2.heap.size w2 w5 := (hb4).grown hg5 (hb4).size (fun k hk => (hown4.lt k hk).1)) | (refine step_append_row _ rfl (.tmp 20) (.tmp 22) _ (by rfl) w2.heap.size 61 i0 _ 3 32 Try.underlying57 hi hz0 hz1 hz2 rfl (by omega) v4 l.length (flightE.flat l) (by rfl) (hown4) (some ⟨w2.heap.size, 0, none⟩) 1 1 [.int .i64 a, .int .i64 b, .string d] (by rfl) rfl (hrow) hone.out h63.out hby.out (hb4).size ?_; intro v5 w5 hown5 hg5 hat5; have hb5 : Below w2.heap.size w2 w5 := (hb4).grown hg5 (hb4).size (fun k hk => (hown4.lt k hk).1)) | (refine step_append_row _ rfl (.tmp 18) (.tmp 19) _ (by rfl) w2.heap.size 61 i0 _ 3 32 Try.underlying57 hi hz0 hz1 hz2 rfl (by omega) (.slice (some ⟨w2.heap.size + 1, 0, none⟩) 0 0) 0 [] (by rfl) (HO3.out) A l.length c (flightE.flat l) (by rfl) hflen.out (hxl.out _ ((balloc (balloc (Below.refl w2.heap.size w2) _) _).drew)) hlone.out h63b.out hbyb.out ((balloc (balloc (Below.refl w2.heap.size w2) _) _).drew).size ?_; intro v4 w4 hown4 hg4 hat4; have hb4 : Below w2.heap.size w2 w4 := ((balloc (balloc (Below.refl w2.heap.size w2) _) _).drew).grown hg4 ((balloc (balloc (Below.refl w2.heap.size w2) _) _).drew).size (fun k hk => by have := Option.some.inj hk; simp at this; omega); rw [Nat.zero_add, List.nil_append] at hown4; have hrow := Row.far (Row.later (Row.new w2 [.int .i64 a, .int .i64 b, .string d] 61) (balloc (Below.refl _ _) (.cells #[] 61)).drew) hg4 (by simp; omega) (by simp [Value.ownBlock])))
        all_goals go_wp2
        all_goals go_ret2
        all_goals exact HB.out _ _ (Sl.of_own (E := flightE) (base := _) (e := 61) (by rw [HF.out, HLL.out]; exact hown5)) (bt HB2.out hb5)
  · have H0 := Lib.hid h0
    have HB := Lib.hid (fun W hb => BagP.bad (w := w) (w' := W) (l := l) (f := f) (x := bagE l) (by unfold sendE; rw [if_pos h0]) h0 hb)
    have hne : (bagE l != 0) = true := by simpa using h0
    generalize bagE l = x at *
    unfold flightV
    clear h0
    go_enter Try.func33, Try.ntmps33
    go_wp2_with fail
    refine (HC.out _ hb0).mono ?_; rintro e w1 ⟨rfl, hb1⟩
    go_wp2
    go_ret2
    exact HB.out _ (bt hb0 hb1)
end Go.Proofs.Ytnebacomafgjjaa
