/- Package slices at rubato/bag.Flight. -/
import Derived.Test.YtnebacomafgjjaaLFlight
import Derived.Test.YtnebacomafgjjaaOpen
namespace Go.Proofs.Ytnebacomafgjjaa
open Go.RowKit Go.ChangeShapes Go.WideShapes
theorem flight_cellsOf : Try.prog.cellsOf 53 = 3 := by kernel_rfl
theorem flight_cells {w : World} : CellsOf Try.prog w 53 flightE := by
  intro H enc base spare held fuel cs x h
  obtain ⟨hl, hf⟩ := open_fields Try.underlying53 (by kernel_rfl) flight_cellsOf h
  obtain ⟨u0, y0, n0, hu0, ht0⟩ := hf 0 _ rfl
  obtain ⟨z0, hz0, _, _⟩ := DataW.trod_int Try.underlying3 ht0
  injection hz0 with hz0 _
  subst hz0
  obtain ⟨u1, y1, n1, hu1, ht1⟩ := hf 1 _ rfl
  obtain ⟨z1, hz1, _, _⟩ := DataW.trod_int Try.underlying3 ht1
  injection hz1 with hz1 _
  subst hz1
  obtain ⟨u2, y2, n2, hu2, ht2⟩ := hf 2 _ rfl
  obtain ⟨z2, hz2, _, _⟩ := DataW.trod_string Try.underlying9 ht2
  injection hz2 with hz2 _
  subst hz2
  refine ⟨⟨z0, z1, z2⟩, ?_⟩
  apply List.ext_getElem?
  intro j
  rcases (by omega : j = 0 ∨ j = 1 ∨ j = 2 ∨ 3 ≤ j) with rfl | rfl | rfl | hj
  · exact hu0
  · exact hu1
  · exact hu2
  · rw [List.getElem?_eq_none (by have : cs.length = 3 := hl; omega), List.getElem?_eq_none (by show 3 ≤ j; exact hj)]
end Go.Proofs.Ytnebacomafgjjaa
