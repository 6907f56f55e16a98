/- Layer 1: the laws that tell. -/
import Derived.Test.YtlicjlahnbebcaaS05
namespace Go.Proofs.Ytlicjlahnbebcaa
open Go.RowKit
set_option maxRecDepth 100000
set_option maxHeartbeats 1000000
instance sizeawake_spec : HasSpec Try.prog 36 [] (.v (.bool true)) := by
  refine ⟨?_⟩; refine Spec.ofR (h := fun F w0 => ?_)
  repeat' ((conv => whnf); first | refine Stk.yes ?_ | refine Stk.ld rfl ?_ | refine Stk.no ?_ | (refine Stk.both (fun hb => ?_) (fun hb => ?_) <;> (try simp only [lC] at hb) <;> (try (exfalso; omega))) | refine Stk.wrap (by omega) (by omega) ?_ | refine Stk.wrapU (by omega) (by omega) ?_ | refine Stk.len ?_ | refine Stk.ixN (by omega) ?_ | refine Stk.ixI (by omega) (by omega) ?_ | refine Stk.ix _ (by decide) rfl ?_ | refine Stk.quo (by omega) (by omega) (by omega) ?_ | refine Stk.rem (by omega) (by omega) ?_ | refine Stk.need (by first | kernel_rfl | omega) ?_ | refine Stk.ar _ (by omega) (by omega) rfl ?_ | refine Stk.call (h := ?_) | refine Stk.callO (h := ?_) | refine Stk.divA (by decide) ?_ | refine Stk.lenA ?_ | refine Stk.wrapA ?_); all_goals (conv => whnf)
  refine Stk.by (refsame_spec (listS (ringS 5 1 4) 9) [1, 4, 5]) (h := ?_)
  rw [show decide (listS (ringS 5 1 4) 9 = [1, 4, 5]) = true from by decide +kernel]
  repeat' ((conv => whnf); first | refine Stk.yes ?_ | refine Stk.ld rfl ?_ | refine Stk.no ?_ | (refine Stk.both (fun hb => ?_) (fun hb => ?_) <;> (try simp only [lC] at hb) <;> (try (exfalso; omega))) | refine Stk.wrap (by omega) (by omega) ?_ | refine Stk.wrapU (by omega) (by omega) ?_ | refine Stk.len ?_ | refine Stk.ixN (by omega) ?_ | refine Stk.ixI (by omega) (by omega) ?_ | refine Stk.ix _ (by decide) rfl ?_ | refine Stk.quo (by omega) (by omega) (by omega) ?_ | refine Stk.rem (by omega) (by omega) ?_ | refine Stk.need (by first | kernel_rfl | omega) ?_ | refine Stk.ar _ (by omega) (by omega) rfl ?_ | refine Stk.call (h := ?_) | refine Stk.callO (h := ?_) | refine Stk.divA (by decide) ?_ | refine Stk.lenA ?_ | refine Stk.wrapA ?_); all_goals (conv => whnf)
  refine Stk.by (set_spec [1, 3, 3, 0]) (h := ?_)
  repeat' ((conv => whnf); first | refine Stk.yes ?_ | refine Stk.ld rfl ?_ | refine Stk.no ?_ | (refine Stk.both (fun hb => ?_) (fun hb => ?_) <;> (try simp only [lC] at hb) <;> (try (exfalso; omega))) | refine Stk.wrap (by omega) (by omega) ?_ | refine Stk.wrapU (by omega) (by omega) ?_ | refine Stk.len ?_ | refine Stk.ixN (by omega) ?_ | refine Stk.ixI (by omega) (by omega) ?_ | refine Stk.ix _ (by decide) rfl ?_ | refine Stk.quo (by omega) (by omega) (by omega) ?_ | refine Stk.rem (by omega) (by omega) ?_ | refine Stk.need (by first | kernel_rfl | omega) ?_ | refine Stk.ar _ (by omega) (by omega) rfl ?_ | refine Stk.call (h := ?_) | refine Stk.callO (h := ?_) | refine Stk.divA (by decide) ?_ | refine Stk.lenA ?_ | refine Stk.wrapA ?_); all_goals (conv => whnf)
  all_goals first | (exfalso; revert hb; decide +kernel) | skip
  (refine FinK.of (h := ?_)); repeat' (first | exact FinL.nil | refine FinL.cons ?_ ?_ | refine Fin'.tup ?_ | exact Fin'.row rfl (by first | rfl | exact all_map_closed (fun _ => rfl) _ | (simp [closedL, PV.closed]; done)) | exact Fin'.sub rfl (.refl _) | exact Fin'.sub rfl (.nil _) | refine Fin'.vb ?_ | refine Fin'.vi ?_ | refine Fin'.agg ?_)
  rw [tst_eq]
  decide +kernel
theorem errI_ne {b : Bool} (h : ¬ errI b 2 = 2) : b = true := by cases b with
  | true => rfl
  | false => exact absurd rfl h
instance sizetells_spec (n f self : Int) : HasSpec Try.prog 4 [PV.int n, PV.int f, PV.int self] (.v (.bool true)) := by
  refine ⟨?_⟩; refine Spec.ofR (h := fun F w0 => ?_)
  repeat' ((conv => whnf); first | refine Stk.yes ?_ | refine Stk.ld rfl ?_ | refine Stk.no ?_ | (refine Stk.both (fun hb => ?_) (fun hb => ?_) <;> (try simp only [lC] at hb) <;> (try (exfalso; omega))) | refine Stk.wrap (by omega) (by omega) ?_ | refine Stk.wrapU (by omega) (by omega) ?_ | refine Stk.len ?_ | refine Stk.ixN (by omega) ?_ | refine Stk.ixI (by omega) (by omega) ?_ | refine Stk.ix _ (by decide) rfl ?_ | refine Stk.quo (by omega) (by omega) (by omega) ?_ | refine Stk.rem (by omega) (by omega) ?_ | refine Stk.need (by first | kernel_rfl | omega) ?_ | refine Stk.ar _ (by omega) (by omega) rfl ?_ | refine Stk.call (h := ?_) | refine Stk.callO (h := ?_) | refine Stk.divA (by decide) ?_ | refine Stk.lenA ?_ | refine Stk.wrapA ?_); all_goals (conv => whnf)
  all_goals ((refine FinK.of (h := ?_)); repeat' (first | exact FinL.nil | refine FinL.cons ?_ ?_ | refine Fin'.tup ?_ | exact Fin'.row rfl (by first | rfl | exact all_map_closed (fun _ => rfl) _ | (simp [closedL, PV.closed]; done)) | exact Fin'.sub rfl (.refl _) | exact Fin'.sub rfl (.nil _) | refine Fin'.vb ?_ | refine Fin'.vi ?_ | refine Fin'.agg ?_))
  · exfalso
    have h := sizeB_iff.1 (errI_ne ‹¬ errI (sizeB n f) 2 = 2›)
    rw [if_pos h] at *
    omega
instance sizesets_spec (l : List Int) (set r : Int) : HasSpec Try.prog 5 [PV.ints l, PV.int set, PV.int r] (.v (.bool true)) := by
  refine ⟨?_⟩; refine Spec.ofR (h := fun F w0 => ?_)
  repeat' ((conv => whnf); first | refine Stk.yes ?_ | refine Stk.ld rfl ?_ | refine Stk.no ?_ | (refine Stk.both (fun hb => ?_) (fun hb => ?_) <;> (try simp only [lC] at hb) <;> (try (exfalso; omega))) | refine Stk.wrap (by omega) (by omega) ?_ | refine Stk.wrapU (by omega) (by omega) ?_ | refine Stk.len ?_ | refine Stk.ixN (by omega) ?_ | refine Stk.ixI (by omega) (by omega) ?_ | refine Stk.ix _ (by decide) rfl ?_ | refine Stk.quo (by omega) (by omega) (by omega) ?_ | refine Stk.rem (by omega) (by omega) ?_ | refine Stk.need (by first | kernel_rfl | omega) ?_ | refine Stk.ar _ (by omega) (by omega) rfl ?_ | refine Stk.call (h := ?_) | refine Stk.callO (h := ?_) | refine Stk.divA (by decide) ?_ | refine Stk.lenA ?_ | refine Stk.wrapA ?_); all_goals (conv => whnf)
  all_goals ((refine FinK.of (h := ?_)); repeat' (first | exact FinL.nil | refine FinL.cons ?_ ?_ | refine Fin'.tup ?_ | exact Fin'.row rfl (by first | rfl | exact all_map_closed (fun _ => rfl) _ | (simp [closedL, PV.closed]; done)) | exact Fin'.sub rfl (.refl _) | exact Fin'.sub rfl (.nil _) | refine Fin'.vb ?_ | refine Fin'.vi ?_ | refine Fin'.agg ?_))
end Go.Proofs.Ytlicjlahnbebcaa
