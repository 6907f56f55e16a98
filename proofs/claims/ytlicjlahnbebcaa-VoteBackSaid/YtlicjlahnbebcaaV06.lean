/- Layer 23: the laws' helpers. -/
import Derived.Test.YtlicjlahnbebcaaV05
namespace Go.Proofs.Ytlicjlahnbebcaa
open Go.RowKit
set_option linter.unusedSimpArgs false
set_option linter.unusedVariables false
set_option maxRecDepth 100000
set_option maxHeartbeats 1000000
theorem doX0 {e : Ent} {a : Act3} (h : a.kind = 0) : doX e a = propX e a.t := by unfold doX; rw [if_pos h]
theorem doE0 {e : Ent} {a : Act3} (h : a.kind = 0) : doE e a = propE e a.t := by unfold doE; rw [if_pos h]
theorem doX1 {e : Ent} {a : Act3} (h : a.kind = 1) : doX e a = accX e a.t a.bal := by unfold doX; rw [if_neg (by omega), if_pos h]
theorem doE1 {e : Ent} {a : Act3} (h : a.kind = 1) : doE e a = accE e a.t a.bal := by unfold doE; rw [if_neg (by omega), if_pos h]
theorem doX2 {e : Ent} {a : Act3} (h : a.kind = 2) : doX e a = promX e a.bal a.t := by unfold doX; rw [if_neg (by omega), if_neg (by omega), if_pos h]
theorem doE2 {e : Ent} {a : Act3} (h : a.kind = 2) : doE e a = promE e a.bal a.t := by unfold doE; rw [if_neg (by omega), if_neg (by omega), if_pos h]
theorem doX3 {e : Ent} {a : Act3} (h : a.kind = 3) : doX e a = commX e a.t := by unfold doX; rw [if_neg (by omega), if_neg (by omega), if_neg (by omega), if_pos h]
theorem doE3 {e : Ent} {a : Act3} (h : a.kind = 3) : doE e a = commE e a.t := by unfold doE; rw [if_neg (by omega), if_neg (by omega), if_neg (by omega), if_pos h]
theorem doX4 {e : Ent} {a : Act3} (h : ¬ a.kind = 0) (h1 : ¬ a.kind = 1) (h2 : ¬ a.kind = 2) (h3 : ¬ a.kind = 3) : doX e a = execX e := by unfold doX; rw [if_neg h, if_neg h1, if_neg h2, if_neg h3]
theorem doE4 {e : Ent} {a : Act3} (h : ¬ a.kind = 0) (h1 : ¬ a.kind = 1) (h2 : ¬ a.kind = 2) (h3 : ¬ a.kind = 3) : doE e a = execE e := by unfold doE; rw [if_neg h, if_neg h1, if_neg h2, if_neg h3]
instance do_spec (e : Ent) (a : Act3) : HasSpec Try.prog 82 [.agg e.cs, .agg a.cs] (.tup [.agg (doE e a).cs, PV.int (doX e a)]) := by
  refine ⟨?_⟩; refine Spec.ofR (h := fun F w0 => ?_)
  repeat' ((conv => whnf); first | refine Stk.yes ?_ | refine Stk.ld rfl ?_ | refine Stk.no ?_ | refine Stk.is (by first | assumption | ((try simp only [lE]); first | done | assumption | omega)) ?_ | refine Stk.isnt (by first | assumption | ((try simp only [lE]); first | done | assumption | omega)) ?_ | (refine Stk.both (fun hb => ?_) (fun hb => ?_) <;> (try simp only [lE] at hb)) | refine Stk.wrap (by omega) (by omega) ?_ | refine Stk.wrapU (by omega) (by omega) ?_ | refine Stk.cutT (by omega) ?_ | refine Stk.cutD (by omega) ?_ | refine Stk.eqsE [_, _] [_, _] rfl rfl rfl rfl ?_ | refine Stk.eqsN [_, _] [_, _] rfl rfl rfl rfl ?_ | refine Stk.eqsE [_, _, _] [_, _, _] rfl rfl rfl rfl ?_ | refine Stk.eqsN [_, _, _] [_, _, _] rfl rfl rfl rfl ?_ | refine Stk.eqsE [_, _, _, _, _, _] [_, _, _, _, _, _] rfl rfl rfl rfl ?_ | refine Stk.eqsN [_, _, _, _, _, _] [_, _, _, _, _, _] rfl rfl rfl rfl ?_ | refine Stk.len ?_ | refine Stk.ixN (by omega) ?_ | refine Stk.ixI (by omega) (by omega) ?_ | refine Stk.ix _ (by decide) rfl ?_ | refine Stk.quo (by omega) (by omega) (by omega) ?_ | refine Stk.rem (by omega) (by omega) ?_ | refine Stk.need (by first | kernel_rfl | omega) ?_ | refine Stk.ar _ (by omega) (by omega) rfl ?_ | refine Stk.call (h := ?_) | refine Stk.callO (h := ?_) | refine Stk.divA (by decide) ?_ | refine Stk.lenA ?_ | refine Stk.wrapA ?_); all_goals (conv => whnf)
  · rw [doX0 ‹_›, doE0 ‹_›]
    ((refine FinK.of (h := ?_)); (repeat' (first | exact FinL.nil | refine FinL.cons ?_ ?_ | refine Fin'.tup ?_ | exact Fin'.row rfl (by first | rfl | exact all_map_closed (fun _ => rfl) _ | (rw [List.all_append, all_map_closed (fun _ => rfl)]; rfl) | (simp [closedL, PV.closed]; done)) | exact Fin'.sub rfl (.refl _) | exact Fin'.sub rfl (.nil _) | exact Fin'.sub (by first | rfl | exact all_map_closed (fun _ => rfl) _ | (rw [List.all_append, all_map_closed (fun _ => rfl)]; rfl) | (simp [closedL, PV.closed]; done)) (.refl _) | refine Fin'.vb ?_ | refine Fin'.vi ?_ | refine Fin'.agg ?_)))
  · rw [doX1 ‹_›, doE1 ‹_›]
    ((refine FinK.of (h := ?_)); (repeat' (first | exact FinL.nil | refine FinL.cons ?_ ?_ | refine Fin'.tup ?_ | exact Fin'.row rfl (by first | rfl | exact all_map_closed (fun _ => rfl) _ | (rw [List.all_append, all_map_closed (fun _ => rfl)]; rfl) | (simp [closedL, PV.closed]; done)) | exact Fin'.sub rfl (.refl _) | exact Fin'.sub rfl (.nil _) | exact Fin'.sub (by first | rfl | exact all_map_closed (fun _ => rfl) _ | (rw [List.all_append, all_map_closed (fun _ => rfl)]; rfl) | (simp [closedL, PV.closed]; done)) (.refl _) | refine Fin'.vb ?_ | refine Fin'.vi ?_ | refine Fin'.agg ?_)))
  · rw [doX2 ‹_›, doE2 ‹_›]
    ((refine FinK.of (h := ?_)); (repeat' (first | exact FinL.nil | refine FinL.cons ?_ ?_ | refine Fin'.tup ?_ | exact Fin'.row rfl (by first | rfl | exact all_map_closed (fun _ => rfl) _ | (rw [List.all_append, all_map_closed (fun _ => rfl)]; rfl) | (simp [closedL, PV.closed]; done)) | exact Fin'.sub rfl (.refl _) | exact Fin'.sub rfl (.nil _) | exact Fin'.sub (by first | rfl | exact all_map_closed (fun _ => rfl) _ | (rw [List.all_append, all_map_closed (fun _ => rfl)]; rfl) | (simp [closedL, PV.closed]; done)) (.refl _) | refine Fin'.vb ?_ | refine Fin'.vi ?_ | refine Fin'.agg ?_)))
  · rw [doX3 ‹_›, doE3 ‹_›]
    ((refine FinK.of (h := ?_)); (repeat' (first | exact FinL.nil | refine FinL.cons ?_ ?_ | refine Fin'.tup ?_ | exact Fin'.row rfl (by first | rfl | exact all_map_closed (fun _ => rfl) _ | (rw [List.all_append, all_map_closed (fun _ => rfl)]; rfl) | (simp [closedL, PV.closed]; done)) | exact Fin'.sub rfl (.refl _) | exact Fin'.sub rfl (.nil _) | exact Fin'.sub (by first | rfl | exact all_map_closed (fun _ => rfl) _ | (rw [List.all_append, all_map_closed (fun _ => rfl)]; rfl) | (simp [closedL, PV.closed]; done)) (.refl _) | refine Fin'.vb ?_ | refine Fin'.vi ?_ | refine Fin'.agg ?_)))
  · rw [doX4 ‹_› ‹_› ‹_› ‹_›, doE4 ‹_› ‹_› ‹_› ‹_›]
    ((refine FinK.of (h := ?_)); (repeat' (first | exact FinL.nil | refine FinL.cons ?_ ?_ | refine Fin'.tup ?_ | exact Fin'.row rfl (by first | rfl | exact all_map_closed (fun _ => rfl) _ | (rw [List.all_append, all_map_closed (fun _ => rfl)]; rfl) | (simp [closedL, PV.closed]; done)) | exact Fin'.sub rfl (.refl _) | exact Fin'.sub rfl (.nil _) | exact Fin'.sub (by first | rfl | exact all_map_closed (fun _ => rfl) _ | (rw [List.all_append, all_map_closed (fun _ => rfl)]; rfl) | (simp [closedL, PV.closed]; done)) (.refl _) | refine Fin'.vb ?_ | refine Fin'.vi ?_ | refine Fin'.agg ?_)))
def wonB (e : Ent) (b f : Int) : Bool := entB e && decide (1 ≤ b ∧ e.bal = b ∧ e.abal = b ∧ 1 ≤ f ∧ f ≤ 4 ∧ f < ((listS (whoN e 2 b : Nat) 9).length : Int))
theorem won_spec (e : Ent) (b f : Int) (hl : e.acks.length ≤ 1000000) : HasSpec Try.prog 138 [.agg e.cs, PV.int b, PV.int f] (.v (.bool (wonB e b f))) := by
  have i1 := fun k t => who_spec e k t hl
  cases hE : entB e with
  | false =>
    have j0 := chk_no hE
    rw [show wonB e b f = false by unfold wonB; rw [hE]; rfl]
    refine ⟨?_⟩; refine Spec.ofR (h := fun F w0 => ?_)
    repeat' ((conv => whnf); first | refine Stk.yes ?_ | refine Stk.ld rfl ?_ | refine Stk.no ?_ | refine Stk.is (by first | assumption | ((try simp only [lE]); first | done | assumption | omega)) ?_ | refine Stk.isnt (by first | assumption | ((try simp only [lE]); first | done | assumption | omega)) ?_ | (refine Stk.both (fun hb => ?_) (fun hb => ?_) <;> (try simp only [lE] at hb)) | refine Stk.wrap (by omega) (by omega) ?_ | refine Stk.wrapU (by omega) (by omega) ?_ | refine Stk.cutT (by omega) ?_ | refine Stk.cutD (by omega) ?_ | refine Stk.eqsE [_, _] [_, _] rfl rfl rfl rfl ?_ | refine Stk.eqsN [_, _] [_, _] rfl rfl rfl rfl ?_ | refine Stk.eqsE [_, _, _] [_, _, _] rfl rfl rfl rfl ?_ | refine Stk.eqsN [_, _, _] [_, _, _] rfl rfl rfl rfl ?_ | refine Stk.eqsE [_, _, _, _, _, _] [_, _, _, _, _, _] rfl rfl rfl rfl ?_ | refine Stk.eqsN [_, _, _, _, _, _] [_, _, _, _, _, _] rfl rfl rfl rfl ?_ | refine Stk.len ?_ | refine Stk.ixN (by omega) ?_ | refine Stk.ixI (by omega) (by omega) ?_ | refine Stk.ix _ (by decide) rfl ?_ | refine Stk.quo (by omega) (by omega) (by omega) ?_ | refine Stk.rem (by omega) (by omega) ?_ | refine Stk.need (by first | kernel_rfl | omega) ?_ | refine Stk.ar _ (by omega) (by omega) rfl ?_ | refine Stk.call (h := ?_) | refine Stk.callO (h := ?_) | refine Stk.divA (by decide) ?_ | refine Stk.lenA ?_ | refine Stk.wrapA ?_); all_goals (conv => whnf)
    all_goals ((refine FinK.of (h := ?_)); (repeat' (first | exact FinL.nil | refine FinL.cons ?_ ?_ | refine Fin'.tup ?_ | exact Fin'.row rfl (by first | rfl | exact all_map_closed (fun _ => rfl) _ | (rw [List.all_append, all_map_closed (fun _ => rfl)]; rfl) | (simp [closedL, PV.closed]; done)) | exact Fin'.sub rfl (.refl _) | exact Fin'.sub rfl (.nil _) | exact Fin'.sub (by first | rfl | exact all_map_closed (fun _ => rfl) _ | (rw [List.all_append, all_map_closed (fun _ => rfl)]; rfl) | (simp [closedL, PV.closed]; done)) (.refl _) | refine Fin'.vb ?_ | refine Fin'.vi ?_ | refine Fin'.agg ?_)))
  | true =>
    have j0 := chk_yes hE
    rw [show wonB e b f = decide (1 ≤ b ∧ e.bal = b ∧ e.abal = b ∧ 1 ≤ f ∧ f ≤ 4 ∧ f < ((listS (whoN e 2 b : Nat) 9).length : Int)) by unfold wonB; rw [hE]; rfl]
    refine ⟨?_⟩; refine Spec.ofR (h := fun F w0 => ?_)
    repeat' ((conv => whnf); first | refine Stk.yes ?_ | refine Stk.ld rfl ?_ | refine Stk.no ?_ | refine Stk.is (by first | assumption | ((try simp only [lE]); first | done | assumption | omega)) ?_ | refine Stk.isnt (by first | assumption | ((try simp only [lE]); first | done | assumption | omega)) ?_ | (refine Stk.both (fun hb => ?_) (fun hb => ?_) <;> (try simp only [lE] at hb)) | refine Stk.wrap (by omega) (by omega) ?_ | refine Stk.wrapU (by omega) (by omega) ?_ | refine Stk.cutT (by omega) ?_ | refine Stk.cutD (by omega) ?_ | refine Stk.eqsE [_, _] [_, _] rfl rfl rfl rfl ?_ | refine Stk.eqsN [_, _] [_, _] rfl rfl rfl rfl ?_ | refine Stk.eqsE [_, _, _] [_, _, _] rfl rfl rfl rfl ?_ | refine Stk.eqsN [_, _, _] [_, _, _] rfl rfl rfl rfl ?_ | refine Stk.eqsE [_, _, _, _, _, _] [_, _, _, _, _, _] rfl rfl rfl rfl ?_ | refine Stk.eqsN [_, _, _, _, _, _] [_, _, _, _, _, _] rfl rfl rfl rfl ?_ | refine Stk.len ?_ | refine Stk.ixN (by omega) ?_ | refine Stk.ixI (by omega) (by omega) ?_ | refine Stk.ix _ (by decide) rfl ?_ | refine Stk.quo (by omega) (by omega) (by omega) ?_ | refine Stk.rem (by omega) (by omega) ?_ | refine Stk.need (by first | kernel_rfl | omega) ?_ | refine Stk.ar _ (by omega) (by omega) rfl ?_ | refine Stk.call (h := ?_) | refine Stk.callO (h := ?_) | refine Stk.divA (by decide) ?_ | refine Stk.lenA ?_ | refine Stk.wrapA ?_); all_goals (conv => whnf)
    all_goals ((refine FinK.of (h := ?_)); (repeat' (first | exact FinL.nil | refine FinL.cons ?_ ?_ | refine Fin'.tup ?_ | exact Fin'.row rfl (by first | rfl | exact all_map_closed (fun _ => rfl) _ | (rw [List.all_append, all_map_closed (fun _ => rfl)]; rfl) | (simp [closedL, PV.closed]; done)) | exact Fin'.sub rfl (.refl _) | exact Fin'.sub rfl (.nil _) | exact Fin'.sub (by first | rfl | exact all_map_closed (fun _ => rfl) _ | (rw [List.all_append, all_map_closed (fun _ => rfl)]; rfl) | (simp [closedL, PV.closed]; done)) (.refl _) | refine Fin'.vb ?_ | refine Fin'.vi ?_ | refine Fin'.agg ?_)))
    all_goals ((first | rfl | (rw [Bool.eq_iff_iff]; simp only [tst_true, tst_false, lE, decide_eq_true_eq, decide_eq_false_iff_not, Bool.and_eq_true, Bool.or_eq_true, Bool.not_eq_true', Bool.not_eq_false', Bool.false_eq_true, Bool.true_eq_false, true_iff, iff_true, false_iff, iff_false, true_and, and_true, false_and, and_false, not_false_eq_true, not_true_eq_false]; try omega)))
def hearE (e : Ent) (b : Int) : Ent := if entB e = true ∧ timeB b = true then { e with seen := max e.seen b } else e
instance hear_spec (e : Ent) (b : Int) : HasSpec Try.prog 140 [.agg e.cs, PV.int b] (.agg (hearE e b).cs) := by
  cases hE : entB e with
  | false =>
    have j0 := chk_no hE
    rw [show hearE e b = e from if_neg (by rw [hE]; simp)]
    refine ⟨?_⟩; refine Spec.ofR (h := fun F w0 => ?_)
    repeat' ((conv => whnf); first | refine Stk.yes ?_ | refine Stk.ld rfl ?_ | refine Stk.no ?_ | refine Stk.is (by first | assumption | ((try simp only [lE]); first | done | assumption | omega)) ?_ | refine Stk.isnt (by first | assumption | ((try simp only [lE]); first | done | assumption | omega)) ?_ | (refine Stk.both (fun hb => ?_) (fun hb => ?_) <;> (try simp only [lE] at hb)) | refine Stk.wrap (by omega) (by omega) ?_ | refine Stk.wrapU (by omega) (by omega) ?_ | refine Stk.cutT (by omega) ?_ | refine Stk.cutD (by omega) ?_ | refine Stk.eqsE [_, _] [_, _] rfl rfl rfl rfl ?_ | refine Stk.eqsN [_, _] [_, _] rfl rfl rfl rfl ?_ | refine Stk.eqsE [_, _, _] [_, _, _] rfl rfl rfl rfl ?_ | refine Stk.eqsN [_, _, _] [_, _, _] rfl rfl rfl rfl ?_ | refine Stk.eqsE [_, _, _, _, _, _] [_, _, _, _, _, _] rfl rfl rfl rfl ?_ | refine Stk.eqsN [_, _, _, _, _, _] [_, _, _, _, _, _] rfl rfl rfl rfl ?_ | refine Stk.len ?_ | refine Stk.ixN (by omega) ?_ | refine Stk.ixI (by omega) (by omega) ?_ | refine Stk.ix _ (by decide) rfl ?_ | refine Stk.quo (by omega) (by omega) (by omega) ?_ | refine Stk.rem (by omega) (by omega) ?_ | refine Stk.need (by first | kernel_rfl | omega) ?_ | refine Stk.ar _ (by omega) (by omega) rfl ?_ | refine Stk.call (h := ?_) | refine Stk.callO (h := ?_) | refine Stk.divA (by decide) ?_ | refine Stk.lenA ?_ | refine Stk.wrapA ?_); all_goals (conv => whnf)
    all_goals ((refine FinK.of (h := ?_)); (repeat' (first | exact FinL.nil | refine FinL.cons ?_ ?_ | refine Fin'.tup ?_ | exact Fin'.row rfl (by first | rfl | exact all_map_closed (fun _ => rfl) _ | (rw [List.all_append, all_map_closed (fun _ => rfl)]; rfl) | (simp [closedL, PV.closed]; done)) | exact Fin'.sub rfl (.refl _) | exact Fin'.sub rfl (.nil _) | exact Fin'.sub (by first | rfl | exact all_map_closed (fun _ => rfl) _ | (rw [List.all_append, all_map_closed (fun _ => rfl)]; rfl) | (simp [closedL, PV.closed]; done)) (.refl _) | refine Fin'.vb ?_ | refine Fin'.vi ?_ | refine Fin'.agg ?_)))
  | true =>
    have j0 := chk_yes hE
    cases hb : timeB b with
    | false =>
      rw [show hearE e b = e from if_neg (by rw [hb]; simp)]
      refine ⟨?_⟩; refine Spec.ofR (h := fun F w0 => ?_)
      repeat' ((conv => whnf); first | refine Stk.yes ?_ | refine Stk.ld rfl ?_ | refine Stk.no ?_ | refine Stk.is (by first | assumption | ((try simp only [lE]); first | done | assumption | omega)) ?_ | refine Stk.isnt (by first | assumption | ((try simp only [lE]); first | done | assumption | omega)) ?_ | (refine Stk.both (fun hb => ?_) (fun hb => ?_) <;> (try simp only [lE] at hb)) | refine Stk.wrap (by omega) (by omega) ?_ | refine Stk.wrapU (by omega) (by omega) ?_ | refine Stk.cutT (by omega) ?_ | refine Stk.cutD (by omega) ?_ | refine Stk.eqsE [_, _] [_, _] rfl rfl rfl rfl ?_ | refine Stk.eqsN [_, _] [_, _] rfl rfl rfl rfl ?_ | refine Stk.eqsE [_, _, _] [_, _, _] rfl rfl rfl rfl ?_ | refine Stk.eqsN [_, _, _] [_, _, _] rfl rfl rfl rfl ?_ | refine Stk.eqsE [_, _, _, _, _, _] [_, _, _, _, _, _] rfl rfl rfl rfl ?_ | refine Stk.eqsN [_, _, _, _, _, _] [_, _, _, _, _, _] rfl rfl rfl rfl ?_ | refine Stk.len ?_ | refine Stk.ixN (by omega) ?_ | refine Stk.ixI (by omega) (by omega) ?_ | refine Stk.ix _ (by decide) rfl ?_ | refine Stk.quo (by omega) (by omega) (by omega) ?_ | refine Stk.rem (by omega) (by omega) ?_ | refine Stk.need (by first | kernel_rfl | omega) ?_ | refine Stk.ar _ (by omega) (by omega) rfl ?_ | refine Stk.call (h := ?_) | refine Stk.callO (h := ?_) | refine Stk.divA (by decide) ?_ | refine Stk.lenA ?_ | refine Stk.wrapA ?_); all_goals (conv => whnf)
      all_goals ((refine FinK.of (h := ?_)); (repeat' (first | exact FinL.nil | refine FinL.cons ?_ ?_ | refine Fin'.tup ?_ | exact Fin'.row rfl (by first | rfl | exact all_map_closed (fun _ => rfl) _ | (rw [List.all_append, all_map_closed (fun _ => rfl)]; rfl) | (simp [closedL, PV.closed]; done)) | exact Fin'.sub rfl (.refl _) | exact Fin'.sub rfl (.nil _) | exact Fin'.sub (by first | rfl | exact all_map_closed (fun _ => rfl) _ | (rw [List.all_append, all_map_closed (fun _ => rfl)]; rfl) | (simp [closedL, PV.closed]; done)) (.refl _) | refine Fin'.vb ?_ | refine Fin'.vi ?_ | refine Fin'.agg ?_)))
    | true =>
      rw [show hearE e b = { e with seen := max e.seen b } from if_pos ⟨hE, hb⟩]
      refine ⟨?_⟩; refine Spec.ofR (h := fun F w0 => ?_)
      repeat' ((conv => whnf); first | refine Stk.yes ?_ | refine Stk.ld rfl ?_ | refine Stk.no ?_ | refine Stk.is (by first | assumption | ((try simp only [lE]); first | done | assumption | omega)) ?_ | refine Stk.isnt (by first | assumption | ((try simp only [lE]); first | done | assumption | omega)) ?_ | (refine Stk.both (fun hb => ?_) (fun hb => ?_) <;> (try simp only [lE] at hb)) | refine Stk.wrap (by omega) (by omega) ?_ | refine Stk.wrapU (by omega) (by omega) ?_ | refine Stk.cutT (by omega) ?_ | refine Stk.cutD (by omega) ?_ | refine Stk.eqsE [_, _] [_, _] rfl rfl rfl rfl ?_ | refine Stk.eqsN [_, _] [_, _] rfl rfl rfl rfl ?_ | refine Stk.eqsE [_, _, _] [_, _, _] rfl rfl rfl rfl ?_ | refine Stk.eqsN [_, _, _] [_, _, _] rfl rfl rfl rfl ?_ | refine Stk.eqsE [_, _, _, _, _, _] [_, _, _, _, _, _] rfl rfl rfl rfl ?_ | refine Stk.eqsN [_, _, _, _, _, _] [_, _, _, _, _, _] rfl rfl rfl rfl ?_ | refine Stk.len ?_ | refine Stk.ixN (by omega) ?_ | refine Stk.ixI (by omega) (by omega) ?_ | refine Stk.ix _ (by decide) rfl ?_ | refine Stk.quo (by omega) (by omega) (by omega) ?_ | refine Stk.rem (by omega) (by omega) ?_ | refine Stk.need (by first | kernel_rfl | omega) ?_ | refine Stk.ar _ (by omega) (by omega) rfl ?_ | refine Stk.call (h := ?_) | refine Stk.callO (h := ?_) | refine Stk.divA (by decide) ?_ | refine Stk.lenA ?_ | refine Stk.wrapA ?_); all_goals (conv => whnf)
      all_goals ((refine FinK.of (h := ?_)); (repeat' (first | exact FinL.nil | refine FinL.cons ?_ ?_ | refine Fin'.tup ?_ | exact Fin'.row rfl (by first | rfl | exact all_map_closed (fun _ => rfl) _ | (rw [List.all_append, all_map_closed (fun _ => rfl)]; rfl) | (simp [closedL, PV.closed]; done)) | exact Fin'.sub rfl (.refl _) | exact Fin'.sub rfl (.nil _) | exact Fin'.sub (by first | rfl | exact all_map_closed (fun _ => rfl) _ | (rw [List.all_append, all_map_closed (fun _ => rfl)]; rfl) | (simp [closedL, PV.closed]; done)) (.refl _) | refine Fin'.vb ?_ | refine Fin'.vi ?_ | refine Fin'.agg ?_)))
abbrev pNo : ByteArray := ⟨#[]⟩
def fr0 : Ent := ⟨11, 1, 7, 0, 0, 0, 0, 0, pNo, []⟩
def vA : Ent := ⟨11, 1, 7, 9, 4, 4, 0, 0, pNo, []⟩
def vB : Ent := ⟨11, 1, 7, 9, 6, 4, 0, 0, pNo, []⟩
def vD : Ent := ⟨11, 4, 7, 3, 6, 0, 0, 0, pNo, []⟩
def vX : Ent := ⟨11, 2, 7, 5, 0, 0, 0, 0, pNo, []⟩
def vY : Ent := ⟨11, 3, 7, 5, 6, 0, 0, 0, pNo, []⟩
def vZ : Ent := ⟨11, 5, 7, 7, 6, 0, 0, 0, pNo, []⟩
def vW : Ent := ⟨11, 6, 7, 7, 6, 0, 0, 0, pNo, []⟩
def vN : Ent := ⟨11, 1, 7, 9, 4, 4, 0, 0, pNo, [⟨2, 1, 4, 0, 0, 0⟩, ⟨2, 2, 4, 0, 0, 0⟩]⟩
instance fresh_spec : HasSpec Try.prog 83 [] (.agg fr0.cs) := by
  refine ⟨?_⟩; refine Spec.ofR (h := fun F w0 => ?_)
  repeat' ((conv => whnf); first | refine Stk.yes ?_ | refine Stk.ld rfl ?_ | refine Stk.no ?_ | refine Stk.is (by first | assumption | ((try simp only [lE]); first | done | assumption | omega)) ?_ | refine Stk.isnt (by first | assumption | ((try simp only [lE]); first | done | assumption | omega)) ?_ | (refine Stk.both (fun hb => ?_) (fun hb => ?_) <;> (try simp only [lE] at hb)) | refine Stk.wrap (by omega) (by omega) ?_ | refine Stk.wrapU (by omega) (by omega) ?_ | refine Stk.cutT (by omega) ?_ | refine Stk.cutD (by omega) ?_ | refine Stk.eqsE [_, _] [_, _] rfl rfl rfl rfl ?_ | refine Stk.eqsN [_, _] [_, _] rfl rfl rfl rfl ?_ | refine Stk.eqsE [_, _, _] [_, _, _] rfl rfl rfl rfl ?_ | refine Stk.eqsN [_, _, _] [_, _, _] rfl rfl rfl rfl ?_ | refine Stk.eqsE [_, _, _, _, _, _] [_, _, _, _, _, _] rfl rfl rfl rfl ?_ | refine Stk.eqsN [_, _, _, _, _, _] [_, _, _, _, _, _] rfl rfl rfl rfl ?_ | refine Stk.len ?_ | refine Stk.ixN (by omega) ?_ | refine Stk.ixI (by omega) (by omega) ?_ | refine Stk.ix _ (by decide) rfl ?_ | refine Stk.quo (by omega) (by omega) (by omega) ?_ | refine Stk.rem (by omega) (by omega) ?_ | refine Stk.need (by first | kernel_rfl | omega) ?_ | refine Stk.ar _ (by omega) (by omega) rfl ?_ | refine Stk.call (h := ?_) | refine Stk.callO (h := ?_) | refine Stk.divA (by decide) ?_ | refine Stk.lenA ?_ | refine Stk.wrapA ?_); all_goals (conv => whnf)
  ((refine FinK.of (h := ?_)); (repeat' (first | exact FinL.nil | refine FinL.cons ?_ ?_ | refine Fin'.tup ?_ | exact Fin'.row rfl (by first | rfl | exact all_map_closed (fun _ => rfl) _ | (rw [List.all_append, all_map_closed (fun _ => rfl)]; rfl) | (simp [closedL, PV.closed]; done)) | exact Fin'.sub rfl (.refl _) | exact Fin'.sub rfl (.nil _) | exact Fin'.sub (by first | rfl | exact all_map_closed (fun _ => rfl) _ | (rw [List.all_append, all_map_closed (fun _ => rfl)]; rfl) | (simp [closedL, PV.closed]; done)) (.refl _) | refine Fin'.vb ?_ | refine Fin'.vi ?_ | refine Fin'.agg ?_)))
instance av1 : HasSpec Try.prog 133 [.agg fr0.cs, PV.int 9, PV.int 4] (.tup [.agg vA.cs, PV.int 0]) := by
  have h := accept_spec fr0 9 4
  rw [show accE fr0 9 4 = vA from if_pos (by decide), show accX fr0 9 4 = 0 by decide] at h
  exact h
instance av2 : HasSpec Try.prog 134 [.agg vA.cs, PV.int 6, PV.int 0] (.tup [.agg vB.cs, PV.int 0]) := by
  have h := promise_spec vA 6 0
  rw [show promE vA 6 0 = vB from (if_pos (by decide)).trans (by rw [if_neg (by decide), if_neg (by decide)]; rfl), show promX vA 6 0 = 0 by decide] at h
  exact h
instance av3 : HasSpec Try.prog 133 [.agg vB.cs, PV.int 8, PV.int 4] (.tup [.agg vB.cs, PV.int 45]) := by
  have h := accept_spec vB 8 4
  rw [show accE vB 8 4 = vB from if_neg (by decide), show accX vB 8 4 = 45 by decide] at h
  exact h
instance av4 : HasSpec Try.prog 134 [.agg fr0.cs, PV.int 6, PV.int 3] (.tup [.agg vD.cs, PV.int 0]) := by
  have h := promise_spec fr0 6 3
  rw [show promE fr0 6 3 = vD from (if_pos (by decide)).trans (by rw [if_pos (by decide), if_pos (by decide)]; rfl), show promX fr0 6 3 = 0 by decide] at h
  exact h
instance av5 : HasSpec Try.prog 135 [.agg fr0.cs, PV.int 5] (.tup [.agg vX.cs, PV.int 0]) := by
  have h := propose_spec fr0 5
  rw [show propE fr0 5 = vX from if_pos (by decide), show propX fr0 5 = 0 by decide] at h
  exact h
instance av6 : HasSpec Try.prog 134 [.agg vX.cs, PV.int 6, PV.int 0] (.tup [.agg vY.cs, PV.int 0]) := by
  have h := promise_spec vX 6 0
  rw [show promE vX 6 0 = vY from (if_pos (by decide)).trans (by rw [if_pos (by decide), if_neg (by decide)]; rfl), show promX vX 6 0 = 0 by decide] at h
  exact h
instance av7 : HasSpec Try.prog 136 [.agg vY.cs, PV.int 7] (.tup [.agg vZ.cs, PV.int 0]) := by
  have h := commit_spec vY 7
  rw [show commE vY 7 = vZ from if_pos (by decide), show commX vY 7 = 0 by decide] at h
  exact h
instance av8 : HasSpec Try.prog 136 [.agg vZ.cs, PV.int 7] (.tup [.agg vZ.cs, PV.int 33]) := by
  have h := commit_spec vZ 7
  rw [show commE vZ 7 = vZ from if_neg (by decide), show commX vZ 7 = 33 by decide] at h
  exact h
instance av9 : HasSpec Try.prog 137 [.agg vZ.cs] (.tup [.agg vW.cs, PV.int 0]) := by
  have h := execute_spec vZ
  rw [show execE vZ = vW from if_pos (by decide), show execX vZ = 0 by decide] at h
  exact h
instance av10 : HasSpec Try.prog 138 [.agg [PV.int vA.id, PV.int vA.phase, PV.int vA.quorum, PV.int vA.t, PV.int vA.bal, PV.int vA.abal, PV.int vA.seen, PV.int vA.age, .v (.string vA.payload), .sl 6 [[PV.int 2, PV.int 1, PV.int 4, PV.int 0, PV.int 0, PV.int 0], [PV.int 2, PV.int 2, PV.int 4, PV.int 0, PV.int 0, PV.int 0]]], PV.int 4, PV.int 1] (.v (.bool true)) := by
  have h := won_spec vN 4 1 (by decide)
  rw [show wonB vN 4 1 = true by decide] at h
  exact h
instance av11 : HasSpec Try.prog 138 [.agg [PV.int vA.id, PV.int vA.phase, PV.int vA.quorum, PV.int vA.t, PV.int vA.bal, PV.int vA.abal, PV.int vA.seen, PV.int vA.age, .v (.string vA.payload), .sl 6 [[PV.int 2, PV.int 1, PV.int 4, PV.int 0, PV.int 0, PV.int 0], [PV.int 2, PV.int 2, PV.int 4, PV.int 0, PV.int 0, PV.int 0]]], PV.int 4, PV.int 2] (.v (.bool false)) := by
  have h := won_spec vN 4 2 (by decide)
  rw [show wonB vN 4 2 = false by decide] at h
  exact h
instance av12 : HasSpec Try.prog 139 [.agg fr0.cs] (.v (.bool true)) := by
  have h := needs_spec fr0
  rw [show needsB fr0 = true by decide] at h
  exact h
instance av13 : HasSpec Try.prog 139 [.agg vX.cs] (.v (.bool false)) := by
  have h := needs_spec vX
  rw [show needsB vX = false by decide] at h
  exact h
instance av14 : HasSpec Try.prog 70 [.agg vB.cs, .agg vB.cs] (.v (.bool true)) := by
  have h := refentsame_spec vB vB
  rw [Ent.same_iff.2 rfl] at h
  exact h
def vH : Ent := ⟨11, 2, 7, 5, 0, 0, 9, 0, pNo, []⟩
instance av15 : HasSpec Try.prog 140 [.agg vX.cs, PV.int 9] (.agg vH.cs) := by
  have h := hear_spec vX 9
  rw [show hearE vX 9 = vH from if_pos (by decide)] at h
  exact h
instance awake23_spec : HasSpec Try.prog 81 [] (.v (.bool true)) := by
  have f1 : vB.t = 9 := rfl
  have f2 : vB.abal = 4 := rfl
  have f3 : vB.bal = 6 := rfl
  have f4 : vD.phase = 4 := rfl
  have f5 : vD.t = 3 := rfl
  have f6 : vX.t = 5 := rfl
  have f7 : vY.phase = 3 := rfl
  have f8 : vY.t = 5 := rfl
  have f9 : vZ.t = 7 := rfl
  have f10 : vW.phase = 6 := rfl
  have f11 : vH.seen = 9 := rfl
  refine ⟨?_⟩; refine Spec.ofR (h := fun F w0 => ?_)
  repeat' ((conv => whnf); first | refine Stk.yes ?_ | refine Stk.ld rfl ?_ | refine Stk.no ?_ | refine Stk.is (by first | assumption | ((try simp only [lE]); first | done | assumption | omega)) ?_ | refine Stk.isnt (by first | assumption | ((try simp only [lE]); first | done | assumption | omega)) ?_ | (refine Stk.both (fun hb => ?_) (fun hb => ?_) <;> (try simp only [lE] at hb)) | refine Stk.wrap (by omega) (by omega) ?_ | refine Stk.wrapU (by omega) (by omega) ?_ | refine Stk.cutT (by omega) ?_ | refine Stk.cutD (by omega) ?_ | refine Stk.eqsE [_, _] [_, _] rfl rfl rfl rfl ?_ | refine Stk.eqsN [_, _] [_, _] rfl rfl rfl rfl ?_ | refine Stk.eqsE [_, _, _] [_, _, _] rfl rfl rfl rfl ?_ | refine Stk.eqsN [_, _, _] [_, _, _] rfl rfl rfl rfl ?_ | refine Stk.eqsE [_, _, _, _, _, _] [_, _, _, _, _, _] rfl rfl rfl rfl ?_ | refine Stk.eqsN [_, _, _, _, _, _] [_, _, _, _, _, _] rfl rfl rfl rfl ?_ | refine Stk.len ?_ | refine Stk.ixN (by omega) ?_ | refine Stk.ixI (by omega) (by omega) ?_ | refine Stk.ix _ (by decide) rfl ?_ | refine Stk.quo (by omega) (by omega) (by omega) ?_ | refine Stk.rem (by omega) (by omega) ?_ | refine Stk.need (by first | kernel_rfl | omega) ?_ | refine Stk.ar _ (by omega) (by omega) rfl ?_ | refine Stk.call (h := ?_) | refine Stk.callO (h := ?_) | refine Stk.divA (by decide) ?_ | refine Stk.lenA ?_ | refine Stk.wrapA ?_); all_goals (conv => whnf)
  all_goals ((refine FinK.of (h := ?_)); (repeat' (first | exact FinL.nil | refine FinL.cons ?_ ?_ | refine Fin'.tup ?_ | exact Fin'.row rfl (by first | rfl | exact all_map_closed (fun _ => rfl) _ | (rw [List.all_append, all_map_closed (fun _ => rfl)]; rfl) | (simp [closedL, PV.closed]; done)) | exact Fin'.sub rfl (.refl _) | exact Fin'.sub rfl (.nil _) | exact Fin'.sub (by first | rfl | exact all_map_closed (fun _ => rfl) _ | (rw [List.all_append, all_map_closed (fun _ => rfl)]; rfl) | (simp [closedL, PV.closed]; done)) (.refl _) | refine Fin'.vb ?_ | refine Fin'.vi ?_ | refine Fin'.agg ?_)))
  rw [tst_eq]
  exact decide_eq_true f11
end Go.Proofs.Ytlicjlahnbebcaa
