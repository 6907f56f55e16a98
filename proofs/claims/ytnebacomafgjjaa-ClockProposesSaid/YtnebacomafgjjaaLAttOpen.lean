/- Package slices at rubato/api.Att. -/
import Derived.Test.YtnebacomafgjjaaLAtt
import Derived.Test.YtnebacomafgjjaaOpen
namespace Go.Proofs.Ytnebacomafgjjaa
open Go.RowKit Go.ChangeShapes Go.WideShapes
theorem att_cellsOf : Try.prog.cellsOf 48 = 2 := by kernel_rfl
theorem att_cells {w : World} : CellsOf Try.prog w 48 attE := by
  intro H enc base spare held fuel cs x h
  obtain ⟨hl, hf⟩ := open_fields Try.underlying48 (by kernel_rfl) att_cellsOf h
  obtain ⟨u0, y0, n0, hu0, ht0⟩ := hf 0 _ rfl
  obtain ⟨z0, hz0, _, _⟩ := DataW.trod_int Try.underlying3 ht0
  injection hz0 with hz0 _
  subst hz0
  obtain ⟨u1, y1, n1, hu1, ht1⟩ := hf 1 _ rfl
  obtain ⟨z1, hz1, _, _⟩ := DataW.trod_int Try.underlying3 ht1
  injection hz1 with hz1 _
  subst hz1
  refine ⟨⟨z0, z1⟩, ?_⟩
  apply List.ext_getElem?
  intro j
  rcases (by omega : j = 0 ∨ j = 1 ∨ 2 ≤ j) with rfl | rfl | hj
  · exact hu0
  · exact hu1
  · rw [List.getElem?_eq_none (by have : cs.length = 2 := hl; omega), List.getElem?_eq_none (by show 2 ≤ j; exact hj)]
end Go.Proofs.Ytnebacomafgjjaa
