/- Layer 23: what comes in. -/
import Derived.Test.YtlicjlahnbebcaaS18
import Derived.Test.YtlicjlahnbebcaaV08
namespace Go.Proofs.Ytlicjlahnbebcaa
open Go.RowKit
set_option linter.unusedSimpArgs false
set_option linter.unusedVariables false
theorem reads_act {w : World} : Reads Try.prog w 107 (fun _ : Act3 => True) Act3.cs :=
  Reads.map (reads_struct Try.underlying107 (by kernel_rfl) (by kernel_rfl) (readsL_cons (reads_int Try.underlying3) (readsL_cons (reads_int Try.underlying3) (readsL_cons (reads_int Try.underlying3) readsL_nil)))) (fun x => Act3.mk x.1 x.2.1 x.2.2.1) (fun _ => rfl) (fun _ _ => trivial)
theorem reads_acts {w : World} : Reads Try.prog w 104 (fun l : List Act3 => ∀ x ∈ l, True) (fun l => [.sl 3 (l.map Act3.cs)]) :=
  reads_slice (f := Act3.cs) Try.underlying104 (by kernel_rfl) (fun _ => rfl) reads_act
end Go.Proofs.Ytlicjlahnbebcaa
