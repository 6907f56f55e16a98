/- Layer 22: what comes in. -/
import Derived.Test.YtlicjlahnbebcaaS18
import Derived.Test.YtlicjlahnbebcaaS42
namespace Go.Proofs.Ytlicjlahnbebcaa
open Go.RowKit Go.ChangeShapes Go.WideShapes Go.Deep
set_option linter.unusedSimpArgs false
set_option linter.unusedVariables false
def okU (x : Int) : Prop := 0 ≤ x ∧ x ≤ 255
theorem reads_u8 {P : Program} {w : World} {t : TypeId} (ht : P.underlying t = some (.int .u8)) : Reads P w t okU (fun x => [PV.v (.int .u8 x)]) := fun enc base spare held fuel cs x h => by
  obtain ⟨n, rfl, _, hw⟩ := DataW.trod_int ht h
  simp only [Lit.wf, Bool.and_eq_true, decide_eq_true_eq] at hw
  refine ⟨n, ?_, ⟨_, _, rfl, rfl, rfl⟩, fun u hu => by rw [List.mem_singleton] at hu; subst hu; rfl⟩
  have h1 : IntKind.u8.min = 0 := by decide
  have h2 : IntKind.u8.max = 255 := by decide
  unfold okU
  omega
theorem u9_ok {a1 a2 a3 a4 a5 a6 a7 a8 a9 : Int} (h1 : okU a1) (h2 : okU a2) (h3 : okU a3) (h4 : okU a4) (h5 : okU a5) (h6 : okU a6) (h7 : okU a7) (h8 : okU a8) (h9 : okU a9) : [a1, a2, a3, a4, a5, a6, a7, a8, a9].length = 9 ∧ ∀ x ∈ [a1, a2, a3, a4, a5, a6, a7, a8, a9], 0 ≤ x ∧ x ≤ 255 := by
  refine ⟨rfl, fun x hx => ?_⟩
  simp only [List.mem_cons, List.not_mem_nil, or_false] at hx
  rcases hx with rfl | rfl | rfl | rfl | rfl | rfl | rfl | rfl | rfl <;> assumption
theorem reads_b {w : World} : Reads Try.prog w 5 okU (fun x => [PV.v (.int .u8 x)]) := reads_u8 Try.underlying5
theorem reads_u9 {w : World} : Reads Try.prog w 50 (fun u : List Int => u.length = 9 ∧ ∀ x ∈ u, 0 ≤ x ∧ x ≤ 255) u8L :=
  Reads.map (reads_array Try.underlying50 (by kernel_rfl) (readsL_cons reads_b (readsL_cons reads_b (readsL_cons reads_b (readsL_cons reads_b (readsL_cons reads_b (readsL_cons reads_b (readsL_cons reads_b (readsL_cons reads_b (readsL_cons reads_b readsL_nil)))))))))) (fun x => [x.1, x.2.1, x.2.2.1, x.2.2.2.1, x.2.2.2.2.1, x.2.2.2.2.2.1, x.2.2.2.2.2.2.1, x.2.2.2.2.2.2.2.1, x.2.2.2.2.2.2.2.2.1]) (fun _ => rfl) (fun a ha => u9_ok ha.1 ha.2.1 ha.2.2.1 ha.2.2.2.1 ha.2.2.2.2.1 ha.2.2.2.2.2.1 ha.2.2.2.2.2.2.1 ha.2.2.2.2.2.2.2.1 ha.2.2.2.2.2.2.2.2.1)
theorem reads_i3 {w : World} : Reads Try.prog w 49 (fun _ : Int × Int × Int => True) (fun x => [PV.int x.1, PV.int x.2.1, PV.int x.2.2]) :=
  Reads.map (reads_array Try.underlying49 (by kernel_rfl) (readsL_cons (reads_int Try.underlying3) (readsL_cons (reads_int Try.underlying3) (readsL_cons (reads_int Try.underlying3) readsL_nil)))) (fun x => (x.1, x.2.1, x.2.2.1)) (fun _ => rfl) (fun _ _ => trivial)
theorem fastTold_c (a : Int × Int × Int) (u : List Int) (hu : u.length = 9 ∧ ∀ x ∈ u, 0 ≤ x ∧ x ≤ 255) (g : Int) : HasSpec Try.prog 8 [.agg [PV.int a.1, PV.int a.2.1, PV.int a.2.2], .agg (u8L u), PV.int g] (.v (.bool true)) := fastTold_spec a.1 a.2.1 a.2.2 g u hu.1 hu.2
end Go.Proofs.Ytlicjlahnbebcaa
