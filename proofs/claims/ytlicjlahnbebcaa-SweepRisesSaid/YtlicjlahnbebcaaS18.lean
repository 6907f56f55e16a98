/- Layer 20: what comes in. -/
import Derived.Test.YtlicjlahnbebcaaD01
import Derived.Test.YtlicjlahnbebcaaPC
namespace Go.Proofs.Ytlicjlahnbebcaa
set_option linter.unusedSectionVars false
open Go.RowKit
set_option linter.unusedSimpArgs false
set_option linter.unusedVariables false
theorem reads_ack {w : World} : Reads Try.prog w 28 (fun _ : Ack => True) Ack.cs :=
  Reads.map (reads_struct Try.underlying28 (by kernel_rfl) (by kernel_rfl) (readsL_cons (reads_int Try.underlying3) (readsL_cons (reads_int Try.underlying3) (readsL_cons (reads_int Try.underlying3) (readsL_cons (reads_int Try.underlying3) (readsL_cons (reads_int Try.underlying3) (readsL_cons (reads_int Try.underlying3) readsL_nil))))))) (fun x => Ack.mk x.1 x.2.1 x.2.2.1 x.2.2.2.1 x.2.2.2.2.1 x.2.2.2.2.2.1) (fun _ => rfl) (fun _ _ => trivial)
theorem reads_acks {w : World} : Reads Try.prog w 22 (fun l : List Ack => ∀ x ∈ l, True) (fun l => [.sl 6 (l.map Ack.cs)]) :=
  reads_slice (f := Ack.cs) Try.underlying22 (by kernel_rfl) (fun _ => rfl) reads_ack
theorem reads_ent {w : World} : Reads Try.prog w 81 (fun _ : Ent => True) Ent.cs :=
  Reads.map (reads_struct Try.underlying81 (by kernel_rfl) (by kernel_rfl) (readsL_cons (reads_int Try.underlying3) (readsL_cons (reads_int Try.underlying3) (readsL_cons (reads_int Try.underlying3) (readsL_cons (reads_int Try.underlying3) (readsL_cons (reads_int Try.underlying3) (readsL_cons (reads_int Try.underlying3) (readsL_cons (reads_int Try.underlying3) (readsL_cons (reads_int Try.underlying3) (readsL_cons (reads_string Try.underlying9) (readsL_cons reads_acks readsL_nil))))))))))) (fun x => Ent.mk x.1 x.2.1 x.2.2.1 x.2.2.2.1 x.2.2.2.2.1 x.2.2.2.2.2.1 x.2.2.2.2.2.2.1 x.2.2.2.2.2.2.2.1 x.2.2.2.2.2.2.2.2.1 x.2.2.2.2.2.2.2.2.2.1) (fun _ => rfl) (fun _ _ => trivial)
end Go.Proofs.Ytlicjlahnbebcaa
