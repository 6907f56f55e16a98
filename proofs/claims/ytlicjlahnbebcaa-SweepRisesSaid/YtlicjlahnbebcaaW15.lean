/- Layer 18: what comes in. -/
import Derived.Test.YtlicjlahnbebcaaS18
import Derived.Test.YtlicjlahnbebcaaW14
namespace Go.Proofs.Ytlicjlahnbebcaa
open Go.RowKit
set_option linter.unusedSimpArgs false
set_option linter.unusedVariables false
theorem reads_ints {w : World} : Reads Try.prog w 40 (fun l : List Int => ∀ x ∈ l, okI x) (fun l => [PV.ints l]) :=
  reads_slice (f := ics) Try.underlying40 (by kernel_rfl) (fun _ => rfl) (reads_int Try.underlying3)
theorem reads_told18 {w : World} : Reads Try.prog w 59 (fun _ : Told18 => True) Told18.cs :=
  Reads.map (reads_struct Try.underlying59 (by kernel_rfl) (by kernel_rfl) (readsL_cons (reads_int Try.underlying3) (readsL_cons reads_ints (readsL_cons (reads_int Try.underlying3) readsL_nil)))) (fun x => Told18.mk x.1 x.2.1 x.2.2.1) (fun _ => rfl) (fun _ _ => trivial)
theorem reads_told2 {w : World} : Reads Try.prog w 78 (fun _ : Told18 × Told18 => True) (fun x => x.1.cs ++ x.2.cs) :=
  Reads.map (reads_array Try.underlying78 (by kernel_rfl) (readsL_cons reads_told18 (readsL_cons reads_told18 readsL_nil))) (fun x => (x.1, x.2.1)) (fun x => by simp) (fun _ _ => trivial)
theorem sweepRises_c (m : List (List Int)) (n : Int) (x : Told18 × Told18) : HasSpec Try.prog 12 [PV.tab m, PV.int n, .agg (x.1.cs ++ x.2.cs)] (.v (.bool true)) := sweepRises_spec m n x.1 x.2
end Go.Proofs.Ytlicjlahnbebcaa
