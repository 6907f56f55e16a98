/- Which flights a cut opens. -/
import Derived.Test.YtnebacomafgjjaaHas
namespace Go.Proofs.Ytnebacomafgjjaa
open Go.RowKit
def openB (cut : Int) (f : Flight) : Bool := hasB cut f.From == hasB cut f.To
set_option maxRecDepth 100000 in
set_option maxHeartbeats 2000000 in
theorem sideopen_any (cut : Int) (f : Flight) (w : World) : Calls Try.prog 68 #[.int .i64 cut, flightV f] w fun e w' => e = .returned (.bool (openB cut f)) ∧ Below w.heap.size w w' := by
  have hb0 := balloc (Below.refl w.heap.size w) (.cells #[.int .i64 f.From, .int .i64 f.To, .string f.Data] 53)
  have HH := Lib.hid (fun r W => has_any cut r W)
  obtain ⟨a, b, d⟩ := f
  unfold openB flightV
  simp only at hb0 ⊢
  generalize h0 : hasB cut a = p
  generalize h1 : hasB cut b = q
  have HA : Hid (∀ W, Calls Try.prog 76 #[.int .i64 cut, .int .i64 a] W fun e w' => e = .returned (.bool p) ∧ w' = W) := Lib.hid (fun W => by rw [← h0]; exact (HH.out a W).mono fun e w' h => ⟨h.1, h.2.symm⟩)
  have HB : Hid (∀ W, Calls Try.prog 76 #[.int .i64 cut, .int .i64 b] W fun e w' => e = .returned (.bool q) ∧ w' = W) := Lib.hid (fun W => by rw [← h1]; exact (HH.out b W).mono fun e w' h => ⟨h.1, h.2.symm⟩)
  clear h0 h1 HH
  go_enter Try.func68, Try.ntmps68
  go_wp2_with fail
  go_quiet (first | (go_at_call_of 76 (a); exact Calls.quiet_of_same (HA.out _)) | (go_at_call_of 76 (b); exact Calls.quiet_of_same (HB.out _)))
  go_wp2
  go_ret
  exact ⟨rfl, bdrewN hb0 _⟩
theorem bagopen_any (cut : Int) (f : Flight) (w : World) : Calls Try.prog 46 #[.int .i64 cut, flightV f] w fun e w' => e = .returned (.bool (openB cut f)) ∧ Below w.heap.size w w' := by
  have hb0 := balloc (Below.refl w.heap.size w) (.cells #[.int .i64 f.From, .int .i64 f.To, .string f.Data] 53)
  have HH := Lib.hid (fun W => sideopen_any cut f W)
  obtain ⟨a, b, d⟩ := f
  unfold flightV at HH ⊢
  simp only at hb0 HH ⊢
  generalize openB cut ⟨a, b, d⟩ = R at *
  go_enter Try.func46, Try.ntmps46
  go_wp2_with fail
  refine (HH.out _).mono ?_; rintro e w1 ⟨rfl, hb1⟩
  go_wp2
  go_ret
  exact ⟨rfl, bt hb0 hb1⟩
theorem refopen_any (cut : Int) (f : Flight) (w : World) : Calls Try.prog 47 #[.int .i64 cut, flightV f] w fun e w' => e = .returned (.bool (openB cut f)) ∧ Below w.heap.size w w' := by
  have hb0 := balloc (Below.refl w.heap.size w) (.cells #[.int .i64 f.From, .int .i64 f.To, .string f.Data] 61)
  have HH := Lib.hid (fun r W => refhas_any cut r W)
  obtain ⟨a, b, d⟩ := f
  have HX : Hid (∀ W, Below (w.alloc (.cells #[.int .i64 a, .int .i64 b, .string d] 61)).heap.size (w.alloc (.cells #[.int .i64 a, .int .i64 b, .string d] 61)) W → W.cell? ⟨w.heap.size, 0, none⟩ = some (.int .i64 a) ∧ W.cell? ⟨w.heap.size, 1, none⟩ = some (.int .i64 b)) := Lib.hid (fun W hb => ⟨cell_later hb (by rw [World.cell?_alloc_new]; rfl), cell_later hb (by rw [World.cell?_alloc_new]; rfl)⟩)
  unfold openB flightV
  simp only at hb0 ⊢
  generalize h0 : hasB cut a = p
  generalize h1 : hasB cut b = q
  have HA : Hid (∀ W, Calls Try.prog 70 #[.int .i64 cut, .int .i64 a] W fun e w' => e = .returned (.bool p) ∧ Below W.heap.size W w') := Lib.hid (fun W => by rw [← h0]; exact HH.out a W)
  have HB : Hid (∀ W, Calls Try.prog 70 #[.int .i64 cut, .int .i64 b] W fun e w' => e = .returned (.bool q) ∧ Below W.heap.size W w') := Lib.hid (fun W => by rw [← h1]; exact HH.out b W)
  clear h0 h1 HH
  cases p
  · cases q
    · go_enter Try.func47, Try.ntmps47
      go_wp2_with fail
      refine (HA.out _).mono ?_; rintro e w1 ⟨rfl, hb1⟩
      obtain ⟨hc0, hc1⟩ := HX.out _ hb1
      go_wp2_with fail
      refine (HA.out _).mono ?_; rintro e w2 ⟨rfl, hb2⟩
      obtain ⟨hd0, hd1⟩ := HX.out _ (bt hb1 hb2)
      go_wp2_with fail
      refine (HB.out _).mono ?_; rintro e w3 ⟨rfl, hb3⟩
      go_wp2
      go_ret
      exact ⟨rfl, bt hb0 (bt hb1 (bt hb2 hb3))⟩
    · go_enter Try.func47, Try.ntmps47
      go_wp2_with fail
      refine (HA.out _).mono ?_; rintro e w1 ⟨rfl, hb1⟩
      obtain ⟨hc0, hc1⟩ := HX.out _ hb1
      go_wp2_with fail
      refine (HA.out _).mono ?_; rintro e w2 ⟨rfl, hb2⟩
      obtain ⟨hd0, hd1⟩ := HX.out _ (bt hb1 hb2)
      go_wp2_with fail
      refine (HB.out _).mono ?_; rintro e w3 ⟨rfl, hb3⟩
      go_wp2
      go_ret
      exact ⟨rfl, bt hb0 (bt hb1 (bt hb2 hb3))⟩
  · cases q
    · go_enter Try.func47, Try.ntmps47
      go_wp2_with fail
      refine (HA.out _).mono ?_; rintro e w1 ⟨rfl, hb1⟩
      obtain ⟨hc0, hc1⟩ := HX.out _ hb1
      go_wp2_with fail
      refine (HB.out _).mono ?_; rintro e w2 ⟨rfl, hb2⟩
      obtain ⟨hd0, hd1⟩ := HX.out _ (bt hb1 hb2)
      go_wp2_with fail
      refine (HA.out _).mono ?_; rintro e w3 ⟨rfl, hb3⟩
      go_wp2
      go_ret
      exact ⟨rfl, bt hb0 (bt hb1 (bt hb2 hb3))⟩
    · go_enter Try.func47, Try.ntmps47
      go_wp2_with fail
      refine (HA.out _).mono ?_; rintro e w1 ⟨rfl, hb1⟩
      obtain ⟨hc0, hc1⟩ := HX.out _ hb1
      go_wp2_with fail
      refine (HB.out _).mono ?_; rintro e w2 ⟨rfl, hb2⟩
      go_wp2
      go_ret
      exact ⟨rfl, bt hb0 (bt hb1 hb2)⟩
theorem open_pred (cut : Int) (w : World) : IsPred Try.prog w (.func (.func 68) #[.int .i64 cut] #[]) flightV (openB cut) :=
  ⟨68, #[.int .i64 cut], #[], rfl, enters_of Try.func68 (by kernel_rfl) (by kernel_rfl), fun a w1 hb => sideopen_any cut a w1⟩
end Go.Proofs.Ytnebacomafgjjaa
