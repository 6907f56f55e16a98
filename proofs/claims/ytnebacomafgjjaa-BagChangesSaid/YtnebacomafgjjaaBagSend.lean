/- A flight is sent. -/
import Derived.Test.YtnebacomafgjjaaBagAll
import Derived.Test.YtnebacomafgjjaaLFlightClone
import Derived.Test.YtnebacomafgjjaaStep
namespace Go.Proofs.Ytnebacomafgjjaa
open Go.RowKit

def sendE (l : List Flight) (f : Flight) : Int := if bagE l ≠ 0 then bagE l else if mayF f = false then 2 else if 5000 ≤ l.length then 8 else 0
def sendL (l : List Flight) (f : Flight) : List Flight := if sendE l f = 0 then l ++ [f] else []
/-- What a sending hands back. -/
def BagP (w : World) (l : List Flight) (x : Int) (e : Ending) (w' : World) : Prop := ∃ v, e = .returned (.tuple #[v, .int .i64 x]) ∧ Sl flightE w' v l ∧ Below w.heap.size w w'
theorem BagP.bad {w w' : World} {l : List Flight} {f : Flight} {x : Int} (h : sendE l f = x) (hx : x ≠ 0) (hb : Below w.heap.size w w') :
    BagP w (sendL l f) (sendE l f) (.returned (.tuple #[.slice none 0 0, .int .i64 x])) w' := by
  have e2 : sendL l f = [] := by unfold sendL; rw [h, if_neg hx]
  rw [e2, h]
  exact ⟨_, rfl, Sl.nil _, hb⟩
theorem BagP.good {w w' : World} {l : List Flight} {f : Flight} {v : Value} (h : sendE l f = 0) (hv : Sl flightE w' v (l ++ [f])) (hb : Below w.heap.size w w') :
    BagP w (sendL l f) (sendE l f) (.returned (.tuple #[v, .int .i64 0])) w' := by
  have e2 : sendL l f = l ++ [f] := by unfold sendL; rw [h, if_pos rfl]
  rw [e2, h]
  exact ⟨_, rfl, hv, hb⟩
theorem World.alloc_size_le (w : World) (o : Obj) : w.heap.size ≤ (w.alloc o).heap.size := by simp
theorem bagE_cases (l : List Flight) : bagE l = 0 ∨ (bagE l ≠ 0) := by omega
theorem bagE_len {l : List Flight} (h : bagE l = 0) : l.length ≤ 5000 := by
  unfold bagE at h
  split at h
  · split at h
    · cases h
    · omega
  · cases h
set_option maxRecDepth 100000 in
set_option maxHeartbeats 4000000 in
theorem send_any (A : Option Addr) (c : Nat) (l : List Flight) (f : Flight) (w : World) (hm : c ≤ maxLen) (hl : l.length ≤ c) (hx : Row w A (flightE.flat l)) :
    Calls Try.prog 32 #[.slice A l.length c, flightV f] w (BagP w (sendL l f) (sendE l f)) := by
  obtain ⟨i0, hi, hz0, hz1, hz2⟩ := info_parts info_flight
  have hmm := hm
  unfold maxLen at hmm
  have hb0 := balloc (Below.refl w.heap.size w) (.cells #[.int .i64 f.From, .int .i64 f.To, .string f.Data] 53)
  have HC := Lib.hid (fun W hb => bagcheck_any A c l W hm hl (hx.later (wx := W) hb))
  have HM := Lib.hid (fun W => bagmay_any f W)
  rcases bagE_cases l with h0 | h0
  · rw [h0] at HC
    have hlen := bagE_len h0
    cases h1 : mayF f
    · have HB := Lib.hid (fun W hb => BagP.bad (w := w) (w' := W) (l := l) (f := f) (x := 2) (by unfold sendE; rw [if_neg (by rw [h0]; decide), if_pos h1]) (by decide) hb)
      rw [h1] at HM
      unfold flightV at HM ⊢
      clear h0 h1
      go_enter Try.func32, Try.ntmps32
      go_wp2_with fail
      refine (HC.out _ hb0).mono ?_; rintro e w1 ⟨rfl, hb1⟩
      have hx0 : w1.cell? ⟨w.heap.size, 0, none⟩ = some (.int .i64 f.From) := cell_later hb1 (by rw [World.cell?_alloc_new]; rfl)
      have hx1 : w1.cell? ⟨w.heap.size, 1, none⟩ = some (.int .i64 f.To) := cell_later hb1 (by rw [World.cell?_alloc_new]; rfl)
      have hx2 : w1.cell? ⟨w.heap.size, 2, none⟩ = some (.string f.Data) := cell_later hb1 (by rw [World.cell?_alloc_new]; rfl)
      go_wp2_with (refine (HM.out _).mono ?_; rintro e w2 ⟨rfl, hb2⟩)
      go_ret2
      exact HB.out _ (bt (bt hb0 hb1) hb2)
    · rw [h1] at HM
      by_cases h2 : 5000 ≤ l.length
      · have HB := Lib.hid (fun W hb => BagP.bad (w := w) (w' := W) (l := l) (f := f) (x := 8) (by unfold sendE; rw [if_neg (by rw [h0]; decide), if_neg (by rw [h1]; decide), if_pos h2]) (by decide) hb)
        unfold flightV at HM ⊢
        clear h0 h1
        go_enter Try.func32, Try.ntmps32
        go_wp2_with fail
        refine (HC.out _ hb0).mono ?_; rintro e w1 ⟨rfl, hb1⟩
        have hx0 : w1.cell? ⟨w.heap.size, 0, none⟩ = some (.int .i64 f.From) := cell_later hb1 (by rw [World.cell?_alloc_new]; rfl)
        have hx1 : w1.cell? ⟨w.heap.size, 1, none⟩ = some (.int .i64 f.To) := cell_later hb1 (by rw [World.cell?_alloc_new]; rfl)
        have hx2 : w1.cell? ⟨w.heap.size, 2, none⟩ = some (.string f.Data) := cell_later hb1 (by rw [World.cell?_alloc_new]; rfl)
        go_wp2_with (refine (HM.out _).mono ?_; rintro e w2 ⟨rfl, hb2⟩)
        go_ret2
        exact HB.out _ (bt (bt hb0 hb1) hb2)
      · have HB := Lib.hid (fun W v hv hb => BagP.good (w := w) (w' := W) (l := l) (f := f) (v := v) (by unfold sendE; rw [if_neg (by rw [h0]; decide), if_neg (by rw [h1]; decide), if_neg h2]) hv hb)
        have HCL := Lib.hid (fun W hb => clone_flight A c l W hm hl (hx.later (wx := W) hb) (by omega))
        have HF := Lib.hid (show flightE.flat (l ++ [f]) = flightE.flat l ++ [Value.int .i64 f.From, Value.int .i64 f.To, Value.string f.Data] from by rw [flightE.flat_append, flightE.flat_one]; rfl)
        have hone := Lib.hid (show ∀ u ∈ [Value.int .i64 f.From, Value.int .i64 f.To, Value.string f.Data], u.oneCell' = true from flight_one [f])
        have h63 := Lib.hid (show l.length + 1 ≤ maxLen from by unfold maxLen; omega)
        have hby := Lib.hid (show (l.length + 1) * 32 ≤ 140737488355328 from by omega)
        have hll : (l ++ [f]).length = l.length + 1 := by simp
        have HLL := Lib.hid hll
        clear hll
        unfold flightV at HM ⊢
        clear h0 h1
        generalize f.From = a at *
        generalize f.To = b at *
        generalize f.Data = d at *
        go_enter Try.func32, Try.ntmps32
        go_wp2_with fail
        refine (HC.out _ hb0).mono ?_; rintro e w1 ⟨rfl, hb1⟩
        have hx0 : w1.cell? ⟨w.heap.size, 0, none⟩ = some (.int .i64 a) := cell_later hb1 (by rw [World.cell?_alloc_new]; rfl)
        have hx1 : w1.cell? ⟨w.heap.size, 1, none⟩ = some (.int .i64 b) := cell_later hb1 (by rw [World.cell?_alloc_new]; rfl)
        have hx2 : w1.cell? ⟨w.heap.size, 2, none⟩ = some (.string d) := cell_later hb1 (by rw [World.cell?_alloc_new]; rfl)
        have HB1 := Lib.hid (bt hb0 hb1)
        clear hb0 hb1
        go_wp2_with (refine (HM.out _).mono ?_; rintro e w2 ⟨rfl, hb2⟩)
        have SK : Hid (∀ W, Below w2.heap.size w2 W → W.cell? ⟨w.heap.size, 0, none⟩ = some (.int .i64 a) ∧ W.cell? ⟨w.heap.size, 1, none⟩ = some (.int .i64 b) ∧ W.cell? ⟨w.heap.size, 2, none⟩ = some (.string d) ∧ Below w2.heap.size w2 W) := fun W hb => ⟨cell_later (bt hb2 hb) hx0, cell_later (bt hb2 hb) hx1, cell_later (bt hb2 hb) hx2, hb⟩
        have HB2 := Lib.hid (bt HB1.out hb2)
        clear hx0 hx1 hx2 hb2
        have hk0 := SK.out _ (bdrew (a := w2))
        go_region_held3 (fun W => W.cell? ⟨w.heap.size, 0, none⟩ = some (.int .i64 a) ∧ W.cell? ⟨w.heap.size, 1, none⟩ = some (.int .i64 b) ∧ W.cell? ⟨w.heap.size, 2, none⟩ = some (.string d) ∧ Below w2.heap.size w2 W) (first | assumption | exact SK.out _ (by first | exact bdrew | exact hb3' | exact (balloc (Below.refl _ _) _).drew | exact balloc bdrew _ | exact balloc hb3' _ | exact hb5)) (first | (go_at_call 64; refine (HCL.out _ (bt HB2.out (by first | exact bdrew | exact (balloc (Below.refl _ _) _).drew | exact balloc bdrew _))).mono ?_; rintro e w3 ⟨v3, rfl, hown3, hb3⟩; have hb3' : Below w2.heap.size w2 w3 := (by first | exact bt bdrew hb3 | exact bt (balloc (Below.refl _ _) _).drew hb3 | exact bt (balloc (bdrew (a := w2)) _) hb3)) | (refine step_append_row _ rfl (.tmp 21) (.tmp 23) _ (by rfl) _ 53 i0 _ 3 32 Try.underlying51 hi hz0 hz1 hz2 rfl (by omega) v3 l.length (flightE.flat l) (by rfl) (hown3.alloc _) (some ⟨w3.heap.size, 0, none⟩) 1 1 [.int .i64 a, .int .i64 b, .string d] (by rfl) rfl (Row.new w3 _ _) hone.out h63.out hby.out (Nat.le_trans hb3.size (World.alloc_size_le _ _)) ?_; intro v5 w5 hown5 hg5 hat5; have hb5 : Below w2.heap.size w2 w5 := (balloc hb3' _).grown hg5 (Nat.le_trans hb3'.size (World.alloc_size_le _ _)) (fun k hk => (hown3.lt k hk).1)) | (refine step_append_row _ rfl (.tmp 21) (.tmp 23) _ (by rfl) _ 53 i0 _ 3 32 Try.underlying51 hi hz0 hz1 hz2 rfl (by omega) v3 l.length (flightE.flat l) (by rfl) hown3 (some ⟨w2.heap.size, 0, none⟩) 1 1 [.int .i64 a, .int .i64 b, .string d] (by rfl) rfl (Row.later (Row.new w2 _ 53) (bt bdrew hb3)) hone.out h63.out hby.out hb3.size ?_; intro v5 w5 hown5 hg5 hat5; have hb5 : Below w2.heap.size w2 w5 := hb3'.grown hg5 hb3'.size (fun k hk => Nat.le_trans (World.alloc_size_le w2 _) (hown3.lt k hk).1)))
        all_goals go_wp2
        all_goals go_ret2
        all_goals exact HB.out _ _ (Sl.of_own (E := flightE) (base := _) (e := 53) (by rw [HF.out, HLL.out]; exact hown5)) (bt HB2.out hb5)
  · have H0 := Lib.hid h0
    have HB := Lib.hid (fun W hb => BagP.bad (w := w) (w' := W) (l := l) (f := f) (x := bagE l) (by unfold sendE; rw [if_pos h0]) h0 hb)
    have hne : (bagE l != 0) = true := by simpa using h0
    generalize bagE l = x at *
    unfold flightV
    clear h0
    go_enter Try.func32, Try.ntmps32
    go_wp2_with fail
    refine (HC.out _ hb0).mono ?_; rintro e w1 ⟨rfl, hb1⟩
    go_wp2
    go_ret2
    exact HB.out _ (bt hb0 hb1)
end Go.Proofs.Ytnebacomafgjjaa
