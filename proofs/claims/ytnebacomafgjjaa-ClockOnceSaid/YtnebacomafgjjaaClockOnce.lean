/-
  The Go function ClockOnce returns true for every input, and each argument reads behind the call as it read before: the statement 'Rows.ClockOnceSaid'.
  It bears no condition.
-/
import Derived.Test.YtnebacomafgjjaaRows
import Derived.WalkKit
import Derived.ProofKit
import Derived.OpenShut
import Derived.ShutString
import Derived.ChangeOld
import Derived.Below
import Derived.Test.YtnebacomafgjjaaClockOnceW
import Derived.Test.YtnebacomafgjjaaOpen
namespace Go.Proofs.Ytnebacomafgjjaa.clockOnce
open Go.ChangeShapes Go.WideShapes Go.ChangeAt Go.RowKit
open Go.ChangeMaps (open_string shut_string)
set_option linter.unusedVariables false
theorem own : ownKnob Try.prog.godebug = none := by kernel_rfl
theorem laidOut : laidOutB Try.prog = true := by kernel_rfl
theorem pair_cellsOf : Try.prog.cellsOf 45 = 2 := by kernel_rfl
theorem pair_cells {w : World} : CellsOf Try.prog w 45 pairE := by
  intro H enc base spare held fuel cs x h
  obtain ⟨hl, hz⟩ := open_ints_arr Try.underlying45 Try.underlying3 (by kernel_rfl) (by kernel_rfl) h
  obtain ⟨z0, h0⟩ := hz 0 (by omega)
  obtain ⟨z1, h1⟩ := hz 1 (by omega)
  refine ⟨⟨z0, z1⟩, List.ext_getElem? fun j => ?_⟩
  rcases (by omega : j = 0 ∨ j = 1 ∨ 2 ≤ j) with rfl | rfl | hj
  · exact h0
  · exact h1
  · rw [List.getElem?_eq_none (by omega), List.getElem?_eq_none (by show 2 ≤ j; exact hj)]
set_option maxRecDepth 100000 in
theorem lifted (os : Os) (started : os.Started) (H : Type) (enc : TypeId × Value → H) :
    ReturnsInHanded {} Try.checked os 7 .any (Rows.clockOnceSpec.pre6 enc Try.prog Try.f7 Rows.clockOnceRow.domain false) (Rows.clockOnceSpec.post enc Try.prog Try.f7 false true false false) := by
  refine returnsInHanded_of_change (C := Try.checked) own started (by kernel_rfl) Try.func7
    (ChangeSpec.witness6 (enc := enc) (C := Try.checked) false ⟨#[], #[.slice none 0 0], []⟩ 8 (by kernel_rfl) (by kernel_rfl) (by kernel_rfl) (by kernel_rfl)) ?_
  intro W base args ds gs before hval0 hW hcnd _
  have hval : ∀ (j : Nat) t v, Try.f7.params[j]? = some t → args[j]? = some v → Value.okWide Try.prog W .any base t v := hval0
  have hW' := hW
  obtain ⟨p, q, hA0, hV, rfl, hfz, hnd⟩ := hW
  have hA : DataW.TrodAll enc Try.prog W 0 (fun _ => true) true Try.f7.params.toList args.toList ds p := hA0
  rw [Try.params7] at hA hval
  obtain ⟨v0, vs0, d0, ds0, p0, q0, hargs, rfl, rfl, h0, r0⟩ := trodAll_cons hA
  obtain ⟨rfl, rfl, rfl⟩ := trodAll_nil r0
  obtain rfl : args = #[v0] := by cases args; simp_all
  obtain ⟨rfl, rfl⟩ := trodVars_none hV
  have hv0 := hval 0 44 v0 rfl rfl
  have k0 := h0
  have lt0 : ∀ x ∈ p0, x.block < W.heap.size := by obtain ⟨m, hm⟩ := k0; exact DataW.trod_lt m _ _ _ hm
  clear hA0 hval0
  obtain ⟨A0, c0, l, rfl, hl0, hm0, hr0⟩ := open_sl Try.underlying44 pair_cellsOf pair_cells (okWide_slice Try.underlying44 hv0) h0
  have hcall := clockonce_any A0 c0 l W hm0 hl0 hr0
  refine hcall.mono fun e W' ⟨he, bel⟩ => ?_
  subst he
  exact ⟨_, rfl, _, _, _, [], p0 ++ [], [], hW', trodAll_mk1 (shut_bool Try.underlying4 _), (trodAll_cons_mk (Below.trod laidOut (by kernel_rfl) (of_decide_eq_true (by kernel_rfl)) k0 bel lt0) trodAll_mk0), rfl, bel.frame _, fun h => by cases h⟩
theorem over : Rows.clockOnceRow.holds Try.pinned (OpenSpec.ofChange Rows.clockOnceSpec) :=
  OpenClaim.holds_of_wide 7 Try.f7 rfl rfl rfl rfl rfl rfl rfl ⟨rfl, rfl, rfl, rfl, rfl⟩ rfl rfl rfl rfl rfl (by kernel_rfl) Try.func7 (by kernel_rfl)
    (of_decide_eq_true (by kernel_rfl)) (by unfold Func.isWrapper; first | (rw [if_pos (by decide +kernel)]; kernel_rfl) | (rw [if_neg (by decide +kernel)]; exact ⟨rfl, rfl⟩))
    (fun os started H enc _ => lifted os started H enc)
theorem proved : Rows.ClockOnceSaid := over
#print axioms proved
end Go.Proofs.Ytnebacomafgjjaa.clockOnce
