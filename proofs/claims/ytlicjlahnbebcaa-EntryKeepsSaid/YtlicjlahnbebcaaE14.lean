/- The steps of a walk, in short. -/
import Derived.Test.YtlicjlahnbebcaaE13
namespace Go.Proofs.Ytlicjlahnbebcaa
open Go.RowKit
section
variable {P : Program} {X : XF} {w0 : World} {nt d : Nat} {env : List (Nat × PV)} {lh : List (Nat × LB)} {op : Op} {ty : TypeId} {pos : String} {after : Array Edge} {l : List Oper} {ops : Array Oper} {K : St → Prop}
theorem RW.sB (hn : look d lh = none) (h : ∃ p b, OpOK P ⟨some d, op, ty, pos, after, none⟩ ⟨nt, env, lh⟩ p [(d, b)] ∧ RW P X w0 ops l ⟨nt, (d, p) :: env, (d, b) :: lh⟩ K) : RW P X w0 ops (⟨some d, op, ty, pos, after, none⟩ :: l) ⟨nt, env, lh⟩ K := by
  obtain ⟨p, b, h1, h3⟩ := h
  exact RW.stB h1 hn h3
theorem DW.s {i : Nat} (hi : ((⟨nt, env, lh⟩ : St).ids ⟨some d, op, ty, pos, after, none⟩).all (okId ops.toList i) = true) (h : ∃ p, OpOK P ⟨some d, op, ty, pos, after, none⟩ ⟨nt, env, lh⟩ p [] ∧ DW P ops (i + 1) l ⟨nt, (d, p) :: env, lh⟩ K) : DW P ops i (⟨some d, op, ty, pos, after, none⟩ :: l) ⟨nt, env, lh⟩ K := by
  obtain ⟨p, h1, h3⟩ := h
  exact DW.st h1 hi h3
theorem DW.sB {i : Nat} (hn : look d lh = none) (hi : ((⟨nt, env, lh⟩ : St).ids ⟨some d, op, ty, pos, after, none⟩).all (okId ops.toList i) = true) (h : ∃ p b, OpOK P ⟨some d, op, ty, pos, after, none⟩ ⟨nt, env, lh⟩ p [(d, b)] ∧ DW P ops (i + 1) l ⟨nt, (d, p) :: env, (d, b) :: lh⟩ K) : DW P ops i (⟨some d, op, ty, pos, after, none⟩ :: l) ⟨nt, env, lh⟩ K := by
  obtain ⟨p, b, h1, h3⟩ := h
  exact DW.stB h1 hn hi h3
theorem DW.g {i j t : Nat} {want : Bool} {oj : Oper} (hj : ops[j]? = some oj) (hd : oj.dst = some t) (hb : look t env = some (.v (.bool want))) (hi : ((⟨nt, env, lh⟩ : St).ids ⟨some d, op, ty, pos, after, none⟩).all (okId ops.toList i) = true)
    (h : ∃ p, OpOK P ⟨some d, op, ty, pos, after, none⟩ ⟨nt, env, lh⟩ p [] ∧ DW P ops (i + 1) l ⟨nt, (d, p) :: env, lh⟩ K) : DW P ops i (⟨some d, op, ty, pos, after, some (j, want)⟩ :: l) ⟨nt, env, lh⟩ K := by
  obtain ⟨p, h1, h3⟩ := h
  exact DW.gdY hj hd hb h1 hi h3
end
/-- How the facts of a branch are put. -/
theorem sB : (∀ p : Prop, (tst p = true) = p) ∧ (∀ p : Prop, (tst p = false) = ¬ p) ∧ (∀ b : Bool, ((!b) = true) = (b = false)) ∧ (∀ b : Bool, ((!b) = false) = (b = true)) ∧ (∀ a b : Int, (¬ a < b) = (b ≤ a)) ∧ (∀ a b : Int, (¬ a ≤ b) = (b < a)) ∧ (∀ (α : Type) (f : α → List PV) (l : List α), (l.map f).length = l.length) ∧ ((!true) = false) ∧ ((!false) = true) ∧ ((true = false) = False) ∧ ((false = true) = False) ∧ ((¬ True) = False) ∧ ((¬ False) = True) ∧ (∀ p : Prop, (p ∧ True) = p) ∧ (∀ p : Prop, (True ∧ p) = p) ∧ (∀ p : Prop, (p ∧ False) = False) ∧ (∀ p : Prop, (False ∧ p) = False) ∧ (∀ b : Bool, (b == b) = true) ∧ (∀ h : Decidable True, @decide True h = true) ∧ (∀ h : Decidable False, @decide False h = false) := by
  refine ⟨fun p => propext tst_true, fun p => propext tst_false, ?_, ?_, fun a b => propext Int.not_lt, fun a b => propext Int.not_le, fun _ _ _ => List.length_map .., rfl, rfl, ?_, ?_, ?_, ?_, ?_, ?_, ?_, ?_, ?_, ?_, ?_⟩ <;> simp
end Go.Proofs.Ytlicjlahnbebcaa
