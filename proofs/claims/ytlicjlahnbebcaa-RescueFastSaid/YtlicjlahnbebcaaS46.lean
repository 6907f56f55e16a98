/- Layer 24: a play that comes in. -/
import Derived.Test.YtlicjlahnbebcaaS18
import Derived.Test.YtlicjlahnbebcaaS43
import Derived.Test.YtlicjlahnbebcaaS45
namespace Go.Proofs.Ytlicjlahnbebcaa
open Go.RowKit
set_option linter.unusedSimpArgs false
set_option linter.unusedVariables false
structure Play24 where
  n : Int
  f : Int
  c : Int
  t : Int
  ab : List Int
  ot : List Int
  g : Int
def Play24.cs (p : Play24) : List PV := [PV.int p.n, PV.int p.f, PV.int p.c, PV.int p.t] ++ (u8L p.ab ++ (u8L p.ot ++ [PV.int p.g]))
def Play24.ok (p : Play24) : Prop := (p.ab.length = 9 ∧ ∀ x ∈ p.ab, 0 ≤ x ∧ x ≤ 255) ∧ (p.ot.length = 9 ∧ ∀ x ∈ p.ot, 0 ≤ x ∧ x ≤ 255)
theorem nine {l : List Int} (h : l.length = 9) : ∃ a1 a2 a3 a4 a5 a6 a7 a8 a9, l = [a1, a2, a3, a4, a5, a6, a7, a8, a9] := by
  match l, h with
  | [a1, a2, a3, a4, a5, a6, a7, a8, a9], _ => exact ⟨a1, a2, a3, a4, a5, a6, a7, a8, a9, rfl⟩
theorem reads_play {w : World} : Reads Try.prog w 99 Play24.ok Play24.cs :=
  Reads.map (reads_struct Try.underlying99 (by kernel_rfl) (by kernel_rfl) (readsL_cons (reads_int Try.underlying3) (readsL_cons (reads_int Try.underlying3) (readsL_cons (reads_int Try.underlying3) (readsL_cons (reads_int Try.underlying3) (readsL_cons reads_u9 (readsL_cons reads_u9 (readsL_cons (reads_int Try.underlying3) readsL_nil)))))))) (fun x => Play24.mk x.1 x.2.1 x.2.2.1 x.2.2.2.1 x.2.2.2.2.1 x.2.2.2.2.2.1 x.2.2.2.2.2.2.1) (fun _ => rfl) (fun a ha => ⟨ha.2.2.2.2.1, ha.2.2.2.2.2.1⟩)
theorem rescueMost_c (p : Play24) (h : p.ok) (co : Bool) : HasSpec Try.prog 17 [.agg p.cs, .v (.bool co)] (.v (.bool true)) := by
  obtain ⟨n, f, c, t, ab, ot, g⟩ := p
  obtain ⟨⟨h1, h2⟩, h3, h4⟩ := h
  dsimp only at h1 h2 h3 h4
  obtain ⟨a1, a2, a3, a4, a5, a6, a7, a8, a9, rfl⟩ := nine h1
  obtain ⟨b1, b2, b3, b4, b5, b6, b7, b8, b9, rfl⟩ := nine h3
  exact rescueMost_spec n f c t a1 a2 a3 a4 a5 a6 a7 a8 a9 b1 b2 b3 b4 b5 b6 b7 b8 b9 g co fun x hx => (List.mem_append.1 hx).elim (h2 x) (h4 x)
end Go.Proofs.Ytlicjlahnbebcaa
