/-
  The Go function ClockProposes returns true for every input, and each argument reads behind the call as it read before: the statement 'Rows.ClockProposesSaid'.
  It bears no condition.
-/
import Derived.Test.YtnebacomafgjjaaRows
import Derived.WalkKit
import Derived.ProofKit
import Derived.OpenShut
import Derived.ShutString
import Derived.ChangeOld
import Derived.Below
import Derived.Test.YtnebacomafgjjaaClockProposesW
import Derived.Test.YtnebacomafgjjaaLAttOpen
namespace Go.Proofs.Ytnebacomafgjjaa.clockProposes
open Go.ChangeShapes Go.WideShapes Go.ChangeAt Go.RowKit
open Go.ChangeMaps (open_string shut_string)
set_option linter.unusedVariables false
theorem own : ownKnob Try.prog.godebug = none := by kernel_rfl
theorem laidOut : laidOutB Try.prog = true := by kernel_rfl
set_option maxRecDepth 100000 in
theorem lifted (os : Os) (started : os.Started) (H : Type) (enc : TypeId × Value → H) :
    ReturnsInHanded {} Try.checked os 6 .any (Rows.clockProposesSpec.pre6 enc Try.prog Try.f6 Rows.clockProposesRow.domain false) (Rows.clockProposesSpec.post enc Try.prog Try.f6 false true false false) := by
  refine returnsInHanded_of_change (C := Try.checked) own started (by kernel_rfl) Try.func6
    (ChangeSpec.witness6 (enc := enc) (C := Try.checked) false ⟨#[], #[.int .i64 0, .slice none 0 0, .agg #[.int .i64 0, .int .i64 0, .int .i64 0]], []⟩ 8 (by kernel_rfl) (by kernel_rfl) (by kernel_rfl) (by kernel_rfl)) ?_
  intro W base args ds gs before hval0 hW hcnd _
  have hval : ∀ (j : Nat) t v, Try.f6.params[j]? = some t → args[j]? = some v → Value.okWide Try.prog W .any base t v := hval0
  have hW' := hW
  obtain ⟨p, q, hA0, hV, rfl, hfz, hnd⟩ := hW
  have hA : DataW.TrodAll enc Try.prog W 0 (fun _ => true) true Try.f6.params.toList args.toList ds p := hA0
  rw [Try.params6] at hA hval
  obtain ⟨v0, vs0, d0, ds0, p0, q0, hargs, rfl, rfl, h0, r0⟩ := trodAll_cons hA
  obtain ⟨v1, vs1, d1, ds1, p1, q1, rfl, rfl, rfl, h1, r1⟩ := trodAll_cons r0
  obtain ⟨v2, vs2, d2, ds2, p2, q2, rfl, rfl, rfl, h2, r2⟩ := trodAll_cons r1
  obtain ⟨rfl, rfl, rfl⟩ := trodAll_nil r2
  obtain rfl : args = #[v0, v1, v2] := by cases args; simp_all
  obtain ⟨rfl, rfl⟩ := trodVars_none hV
  have hv0 := hval 0 3 v0 rfl rfl
  have k0 := h0
  have lt0 : ∀ x ∈ p0, x.block < W.heap.size := by obtain ⟨m, hm⟩ := k0; exact DataW.trod_lt m _ _ _ hm
  have hv1 := hval 1 34 v1 rfl rfl
  have k1 := h1
  have lt1 : ∀ x ∈ p1, x.block < W.heap.size := by obtain ⟨m, hm⟩ := k1; exact DataW.trod_lt m _ _ _ hm
  have hv2 := hval 2 35 v2 rfl rfl
  have k2 := h2
  have lt2 : ∀ x ∈ p2, x.block < W.heap.size := by obtain ⟨m, hm⟩ := k2; exact DataW.trod_lt m _ _ _ hm
  clear hA0 hval0
  obtain ⟨now, rfl, _, _, _⟩ := open_int Try.underlying3 hv0 h0
  obtain ⟨A1, c1, own, rfl, hl1, hm1, hr1⟩ := open_sl Try.underlying34 att_cellsOf att_cells (okWide_slice Try.underlying34 hv1) h1
  obtain ⟨x0, x1, x2, rfl⟩ : ∃ x0 x1 x2 : Int, v2 = .agg #[.int .i64 x0, .int .i64 x1, .int .i64 x2] := by
    obtain ⟨cs, hcs, hsz⟩ := okWide_array Try.underlying35 hv2
    subst hcs
    obtain ⟨fuel, hf⟩ := h2
    obtain ⟨hl, hz⟩ := open_ints_arr Try.underlying35 Try.underlying3 (by kernel_rfl) (by kernel_rfl) hf
    obtain ⟨x0, hz0⟩ := hz 0 (by omega)
    obtain ⟨x1, hz1⟩ := hz 1 (by omega)
    obtain ⟨x2, hz2⟩ := hz 2 (by omega)
    refine ⟨x0, x1, x2, congrArg Value.agg (Array.ext' (List.ext_getElem? fun j => ?_))⟩
    rcases (by omega : j = 0 ∨ j = 1 ∨ j = 2 ∨ 3 ≤ j) with rfl | rfl | rfl | hj
    · exact hz0
    · exact hz1
    · exact hz2
    · rw [List.getElem?_eq_none (by have : cs.toList.length = 3 := hl; omega), List.getElem?_eq_none (by show 3 ≤ j; exact hj)]
  have hcall := clockproposes_any now A1 c1 own x0 x1 x2 W hm1 hl1 hr1
  refine hcall.mono fun e W' ⟨he, bel⟩ => ?_
  subst he
  exact ⟨_, rfl, _, _, _, [], p0 ++ (p1 ++ (p2 ++ [])), [], hW', trodAll_mk1 (shut_bool Try.underlying4 _), (trodAll_cons_mk (Below.trod laidOut (by kernel_rfl) (of_decide_eq_true (by kernel_rfl)) k0 bel lt0) (trodAll_cons_mk (Below.trod laidOut (by kernel_rfl) (of_decide_eq_true (by kernel_rfl)) k1 bel lt1) (trodAll_cons_mk (Below.trod laidOut (by kernel_rfl) (of_decide_eq_true (by kernel_rfl)) k2 bel lt2) trodAll_mk0))), rfl, bel.frame _, fun h => by cases h⟩
theorem over : Rows.clockProposesRow.holds Try.pinned (OpenSpec.ofChange Rows.clockProposesSpec) :=
  OpenClaim.holds_of_wide 6 Try.f6 rfl rfl rfl rfl rfl rfl rfl ⟨rfl, rfl, rfl, rfl, rfl⟩ rfl rfl rfl rfl rfl (by kernel_rfl) Try.func6 (by kernel_rfl)
    (of_decide_eq_true (by kernel_rfl)) (by unfold Func.isWrapper; first | (rw [if_pos (by decide +kernel)]; kernel_rfl) | (rw [if_neg (by decide +kernel)]; exact ⟨rfl, rfl⟩))
    (fun os started H enc _ => lifted os started H enc)
theorem proved : Rows.ClockProposesSaid := over
#print axioms proved
end Go.Proofs.Ytnebacomafgjjaa.clockProposes
