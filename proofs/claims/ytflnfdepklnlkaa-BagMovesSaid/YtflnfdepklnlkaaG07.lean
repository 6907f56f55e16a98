/- Layer 14: what comes in. -/
import Derived.Test.YtflnfdepklnlkaaG06
namespace Go.Proofs.Ytflnfdepklnlkaa
open Go.RowKit
set_option linter.unusedSimpArgs false
set_option linter.unusedVariables false
theorem reads_fli {w : World} : Reads Try.prog w 35 (fun _ : Fli => True) Fli.cs :=
  Reads.map (reads_struct Try.underlying35 (by kernel_rfl) (by kernel_rfl) (readsL_cons (reads_int Try.underlying3) (readsL_cons (reads_int Try.underlying3) (readsL_cons (reads_string Try.underlying9) readsL_nil)))) (fun x => Fli.mk x.1 x.2.1 x.2.2.1) (fun _ => rfl) (fun _ _ => trivial)
theorem reads_flis {w : World} : Reads Try.prog w 22 (fun l : List Fli => ∀ x ∈ l, True) (fun l => [PV.bag l]) :=
  reads_slice (sz := 3) (f := Fli.cs) Try.underlying22 (by kernel_rfl) (fun _ => rfl) reads_fli
end Go.Proofs.Ytflnfdepklnlkaa
