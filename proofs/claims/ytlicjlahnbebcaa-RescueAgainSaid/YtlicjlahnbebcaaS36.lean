/- Layer 24: what comes in. -/
import Derived.Test.YtlicjlahnbebcaaS18
import Derived.Test.YtlicjlahnbebcaaS33
namespace Go.Proofs.Ytlicjlahnbebcaa
open Go.RowKit
set_option linter.unusedSimpArgs false
set_option linter.unusedVariables false
structure Case24 where
  n : Int
  f : Int
  q : Int
  id : Int
def Case24.cs (c : Case24) : List PV := [PV.int c.n, PV.int c.f, PV.int c.q, PV.int c.id]
theorem reads_case {w : World} : Reads Try.prog w 53 (fun _ : Case24 => True) Case24.cs :=
  Reads.map (reads_struct Try.underlying53 (by kernel_rfl) (by kernel_rfl) (readsL_cons (reads_int Try.underlying3) (readsL_cons (reads_int Try.underlying3) (readsL_cons (reads_int Try.underlying3) (readsL_cons (reads_int Try.underlying3) readsL_nil))))) (g := fun x => (⟨x.1, x.2.1, x.2.2.1, x.2.2.2.1⟩ : Case24)) (fun _ => rfl) (fun _ _ => trivial)
theorem rescueAgain_c (c : Case24) (l : List Ack) : HasSpec Try.prog 9 [.agg c.cs, .sl 6 (l.map Ack.cs)] (.v (.bool true)) := rescueAgain_spec c.n c.f c.q c.id l
end Go.Proofs.Ytlicjlahnbebcaa
