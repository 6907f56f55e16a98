/- Layer 20: the laws' helpers. -/
import Derived.Test.YtlicjlahnbebcaaS15
namespace Go.Proofs.Ytlicjlahnbebcaa
set_option linter.unusedSectionVars false
open Go.RowKit
set_option linter.unusedSimpArgs false
set_option linter.unusedVariables false
set_option maxRecDepth 100000
set_option maxHeartbeats 1000000
def fewB (e : Ent) : Bool := decide (e.acks.length ≤ 100 ∧ e.payload.size ≤ 1000)
instance few_spec (e : Ent) : HasSpec Try.prog 62 [.agg e.cs] (.v (.bool (fewB e))) := by
  refine ⟨?_⟩; refine Spec.ofR (h := fun F w0 => ?_)
  repeat' ((conv => whnf); first | refine Stk.yes ?_ | refine Stk.ld rfl ?_ | refine Stk.no ?_ | refine Stk.is (by first | assumption | ((try simp only [lD]); first | done | assumption | omega)) ?_ | refine Stk.isnt (by first | assumption | ((try simp only [lD]); first | done | assumption | omega)) ?_ | (refine Stk.both (fun hb => ?_) (fun hb => ?_) <;> (try simp only [lD] at hb)) | refine Stk.wrap (by omega) (by omega) ?_ | refine Stk.wrapU (by omega) (by omega) ?_ | refine Stk.cutT (by omega) ?_ | refine Stk.cutD (by omega) ?_ | refine Stk.eqsE [_, _] [_, _] rfl rfl rfl rfl ?_ | refine Stk.eqsN [_, _] [_, _] rfl rfl rfl rfl ?_ | refine Stk.eqsE [_, _, _] [_, _, _] rfl rfl rfl rfl ?_ | refine Stk.eqsN [_, _, _] [_, _, _] rfl rfl rfl rfl ?_ | refine Stk.eqsE [_, _, _, _, _, _] [_, _, _, _, _, _] rfl rfl rfl rfl ?_ | refine Stk.eqsN [_, _, _, _, _, _] [_, _, _, _, _, _] rfl rfl rfl rfl ?_ | refine Stk.len ?_ | refine Stk.ixN (by omega) ?_ | refine Stk.ixI (by omega) (by omega) ?_ | refine Stk.ix _ (by decide) rfl ?_ | refine Stk.quo (by omega) (by omega) (by omega) ?_ | refine Stk.rem (by omega) (by omega) ?_ | refine Stk.need (by first | kernel_rfl | omega) ?_ | refine Stk.ar _ (by omega) (by omega) rfl ?_ | refine Stk.call (h := ?_) | refine Stk.callO (h := ?_) | refine Stk.divA (by decide) ?_ | refine Stk.lenA ?_ | refine Stk.wrapA ?_); all_goals (conv => whnf)
  all_goals ((refine FinK.of (h := ?_)); (repeat' (first | exact FinL.nil | refine FinL.cons ?_ ?_ | refine Fin'.tup ?_ | exact Fin'.row rfl (by first | rfl | exact all_map_closed (fun _ => rfl) _ | (rw [List.all_append, all_map_closed (fun _ => rfl)]; rfl) | (simp [closedL, PV.closed]; done)) | exact Fin'.sub rfl (.refl _) | exact Fin'.sub rfl (.nil _) | exact Fin'.sub (by first | rfl | exact all_map_closed (fun _ => rfl) _ | (rw [List.all_append, all_map_closed (fun _ => rfl)]; rfl) | (simp [closedL, PV.closed]; done)) (.refl _) | refine Fin'.vb ?_ | refine Fin'.vi ?_ | refine Fin'.agg ?_)))
  all_goals unfold fewB
  all_goals ((first | rfl | (rw [Bool.eq_iff_iff]; simp only [tst_true, tst_false, decide_eq_true_eq, decide_eq_false_iff_not, Bool.and_eq_true, Bool.or_eq_true, Bool.not_eq_true', Bool.not_eq_false', Bool.false_eq_true, Bool.true_eq_false, true_iff, iff_true, false_iff, iff_false, true_and, and_true, false_and, and_false, not_false_eq_true, not_true_eq_false]; try omega)))
abbrev pHi : ByteArray := ⟨#[104, 105]⟩
def h1 : Ent := ⟨11, 1, 7, 0, 0, 0, 0, 0, pHi, []⟩
def h2 : Ent := ⟨11, 1, 7, 0, 0, 0, 0, 0, pHi, [⟨2, 2, 4, 0, 0, 0⟩]⟩
def h3 : Ent := ⟨11, 1, 7, 0, 0, 0, 0, 0, pHi, [⟨2, 2, 4, 0, 0, 0⟩, ⟨2, 3, 5, 0, 0, 0⟩]⟩
instance aw_n1 : HasSpec Try.prog 66 [PV.int 11, PV.int 7, .v (.string pHi)] (.tup [.agg h1.cs, PV.int 0]) := by
  have h := entrynew_spec 11 7 pHi
  rw [show newR 11 7 pHi = h1 by unfold newR; exact if_pos (by decide), show entB (Ent.new 11 7 pHi) = true by decide] at h
  exact h
instance aw_n2 : HasSpec Try.prog 66 [PV.int 10, PV.int 7, .v (.string pHi)] (.tup [.agg Ent.zero.cs, PV.int 2]) := by
  have h := entrynew_spec 10 7 pHi
  rw [show newR 10 7 pHi = .zero by unfold newR; exact if_neg (by decide), show entB (Ent.new 10 7 pHi) = false by decide] at h
  exact h
instance aw_a1 : HasSpec Try.prog 64 [.agg h1.cs, .agg [PV.int 2, PV.int 2, PV.int 4, PV.int 0, PV.int 0, PV.int 0]] (.tup [.agg h2.cs, .v (.bool true)]) := by
  have h := entryack_spec h1 ⟨2, 2, 4, 0, 0, 0⟩
  rw [ackR_yes (show ackB h1 ⟨2, 2, 4, 0, 0, 0⟩ = true by decide), show ackB h1 ⟨2, 2, 4, 0, 0, 0⟩ = true by decide] at h
  exact h
instance aw_a2 : HasSpec Try.prog 64 [.agg h2.cs, .agg [PV.int 2, PV.int 2, PV.int 4, PV.int 9, PV.int 0, PV.int 0]] (.tup [.agg h2.cs, .v (.bool false)]) := by
  have h := entryack_spec h2 ⟨2, 2, 4, 9, 0, 0⟩
  rw [ackR_no (show ackB h2 ⟨2, 2, 4, 9, 0, 0⟩ = false by decide), show ackB h2 ⟨2, 2, 4, 9, 0, 0⟩ = false by decide] at h
  exact h
instance aw_a3 : HasSpec Try.prog 64 [.agg h2.cs, .agg [PV.int 2, PV.int 3, PV.int 5, PV.int 0, PV.int 0, PV.int 0]] (.tup [.agg h3.cs, .v (.bool true)]) := by
  have h := entryack_spec h2 ⟨2, 3, 5, 0, 0, 0⟩
  rw [ackR_yes (show ackB h2 ⟨2, 3, 5, 0, 0, 0⟩ = true by decide), show ackB h2 ⟨2, 3, 5, 0, 0, 0⟩ = true by decide] at h
  exact h
instance aw_c1 : HasSpec Try.prog 68 [.agg h3.cs] (PV.int 0) := by
  have h := entrycheck_spec h3
  rw [show entB h3 = true by decide] at h
  exact h
instance aw_c2 : HasSpec Try.prog 68 [.agg [PV.int 0, PV.int 0, PV.int 0, PV.int 0, PV.int 0, PV.int 0, PV.int 0, PV.int 0, .v (.string ⟨#[]⟩), .v (.slice none 0 0)]] (PV.int 2) := by
  have h := HasSpec.sub (ent_lit .zero rfl) (entrycheck_spec .zero)
  rw [show entB Ent.zero = false by decide] at h
  exact h
instance aw_w : HasSpec Try.prog 71 [.agg h3.cs, PV.int 2, PV.int 4] (PV.int 2) := by
  have h := who_spec h3 2 4 (by decide)
  rw [show whoN h3 2 4 = 2 by decide] at h
  exact h
instance aw_s1 : HasSpec Try.prog 77 [.agg h2.cs, .agg h2.cs] (.v (.bool true)) := by
  have h := entrysame_spec h2 h2
  rw [Ent.same_iff.2 rfl] at h
  exact h
instance aw_s2 : HasSpec Try.prog 77 [.agg h2.cs, .agg h3.cs] (.v (.bool false)) := by
  have h := entrysame_spec h2 h3
  rw [Ent.same_no (show h2 ≠ h3 from fun e => by have := congrArg (fun e => e.acks.length) e; simp [h2, h3] at this)] at h
  exact h
instance aw_of : HasSpec Try.prog 74 [.agg h3.cs, PV.int 2, PV.int 5] (.sl 6 (List.map Ack.cs [⟨2, 3, 5, 0, 0, 0⟩])) := by
  have h := entof_spec h3 2 5 (by decide)
  rw [show ofL h3.acks 2 5 = [⟨2, 3, 5, 0, 0, 0⟩] by decide] at h
  exact h
instance awake20_spec : HasSpec Try.prog 63 [] (.v (.bool true)) := by
  refine ⟨?_⟩; refine Spec.ofR (h := fun F w0 => ?_)
  repeat' ((conv => whnf); first | refine Stk.yes ?_ | refine Stk.ld rfl ?_ | refine Stk.no ?_ | refine Stk.is (by first | assumption | ((try simp only [lD]); first | done | assumption | omega)) ?_ | refine Stk.isnt (by first | assumption | ((try simp only [lD]); first | done | assumption | omega)) ?_ | (refine Stk.both (fun hb => ?_) (fun hb => ?_) <;> (try simp only [lD] at hb)) | refine Stk.wrap (by omega) (by omega) ?_ | refine Stk.wrapU (by omega) (by omega) ?_ | refine Stk.cutT (by omega) ?_ | refine Stk.cutD (by omega) ?_ | refine Stk.eqsE [_, _] [_, _] rfl rfl rfl rfl ?_ | refine Stk.eqsN [_, _] [_, _] rfl rfl rfl rfl ?_ | refine Stk.eqsE [_, _, _] [_, _, _] rfl rfl rfl rfl ?_ | refine Stk.eqsN [_, _, _] [_, _, _] rfl rfl rfl rfl ?_ | refine Stk.eqsE [_, _, _, _, _, _] [_, _, _, _, _, _] rfl rfl rfl rfl ?_ | refine Stk.eqsN [_, _, _, _, _, _] [_, _, _, _, _, _] rfl rfl rfl rfl ?_ | refine Stk.len ?_ | refine Stk.ixN (by omega) ?_ | refine Stk.ixI (by omega) (by omega) ?_ | refine Stk.ix _ (by decide) rfl ?_ | refine Stk.quo (by omega) (by omega) (by omega) ?_ | refine Stk.rem (by omega) (by omega) ?_ | refine Stk.need (by first | kernel_rfl | omega) ?_ | refine Stk.ar _ (by omega) (by omega) rfl ?_ | refine Stk.call (h := ?_) | refine Stk.callO (h := ?_) | refine Stk.divA (by decide) ?_ | refine Stk.lenA ?_ | refine Stk.wrapA ?_); all_goals (conv => whnf)
  all_goals first | exact absurd rfl ‹¬ h1.phase = 1› | exact absurd rfl ‹¬ (h3.clear.acks.length : Int) = 0› | ((refine FinK.of (h := ?_)); (repeat' (first | exact FinL.nil | refine FinL.cons ?_ ?_ | refine Fin'.tup ?_ | exact Fin'.row rfl (by first | rfl | exact all_map_closed (fun _ => rfl) _ | (rw [List.all_append, all_map_closed (fun _ => rfl)]; rfl) | (simp [closedL, PV.closed]; done)) | exact Fin'.sub rfl (.refl _) | exact Fin'.sub rfl (.nil _) | exact Fin'.sub (by first | rfl | exact all_map_closed (fun _ => rfl) _ | (rw [List.all_append, all_map_closed (fun _ => rfl)]; rfl) | (simp [closedL, PV.closed]; done)) (.refl _) | refine Fin'.vb ?_ | refine Fin'.vi ?_ | refine Fin'.agg ?_)))
end Go.Proofs.Ytlicjlahnbebcaa
