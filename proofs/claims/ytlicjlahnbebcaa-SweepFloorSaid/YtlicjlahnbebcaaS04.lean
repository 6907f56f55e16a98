/- Layer 1: the document's answers. -/
import Derived.Test.YtlicjlahnbebcaaS03
namespace Go.Proofs.Ytlicjlahnbebcaa
set_option linter.unusedSimpArgs false
set_option linter.unusedVariables false
set_option linter.unusedSectionVars false
open Go.RowKit
set_option maxRecDepth 100000
set_option maxHeartbeats 1000000
theorem refcheck_spec (n f : Int) (hf : f ≤ 9) : HasSpec Try.prog 90 [PV.int n, PV.int f] (PV.int (errI (sizeB n f) 2)) := by
  refine ⟨?_⟩; refine Spec.ofR (h := fun F w0 => ?_)
  repeat' ((conv => whnf); first | refine Stk.yes ?_ | refine Stk.ld rfl ?_ | refine Stk.no ?_ | (refine Stk.both (fun hb => ?_) (fun hb => ?_) <;> (try simp only [lC] at hb) <;> (try (exfalso; omega))) | refine Stk.wrap (by omega) (by omega) ?_ | refine Stk.wrapU (by omega) (by omega) ?_ | refine Stk.cutT (by omega) ?_ | refine Stk.cutD (by omega) ?_ | refine Stk.eqsE [_, _] [_, _] rfl rfl rfl rfl ?_ | refine Stk.eqsN [_, _] [_, _] rfl rfl rfl rfl ?_ | refine Stk.eqsE [_, _, _] [_, _, _] rfl rfl rfl rfl ?_ | refine Stk.eqsN [_, _, _] [_, _, _] rfl rfl rfl rfl ?_ | refine Stk.eqsE [_, _, _, _, _, _] [_, _, _, _, _, _] rfl rfl rfl rfl ?_ | refine Stk.eqsN [_, _, _, _, _, _] [_, _, _, _, _, _] rfl rfl rfl rfl ?_ | refine Stk.len ?_ | refine Stk.ixN (by omega) ?_ | refine Stk.ixI (by omega) (by omega) ?_ | refine Stk.ix _ (by decide) rfl ?_ | refine Stk.quo (by omega) (by omega) (by omega) ?_ | refine Stk.rem (by omega) (by omega) ?_ | refine Stk.need (by first | kernel_rfl | omega) ?_ | refine Stk.ar _ (by omega) (by omega) rfl ?_ | refine Stk.call (h := ?_) | refine Stk.callO (h := ?_) | refine Stk.divA (by decide) ?_ | refine Stk.lenA ?_ | refine Stk.wrapA ?_); all_goals (conv => whnf)
  all_goals (((refine FinK.of (h := ?_)); (repeat' (first | exact FinL.nil | refine FinL.cons ?_ ?_ | refine Fin'.tup ?_ | exact Fin'.row rfl (by first | rfl | exact all_map_closed (fun _ => rfl) _ | (rw [List.all_append, all_map_closed (fun _ => rfl)]; rfl) | (simp [closedL, PV.closed]; done)) | exact Fin'.sub rfl (.refl _) | exact Fin'.sub rfl (.nil _) | exact Fin'.sub (by first | rfl | exact all_map_closed (fun _ => rfl) _ | (rw [List.all_append, all_map_closed (fun _ => rfl)]; rfl) | (simp [closedL, PV.closed]; done)) (.refl _) | refine Fin'.vb ?_ | refine Fin'.vi ?_ | refine Fin'.agg ?_))))
  all_goals (first | (rw [errI_t (sizeB_iff.2 (by omega))]; done) | (rw [errI_f (sizeB_not.2 (by omega))]; done))
def sizes3 (n f : Int) : PV := .tup [PV.int (if sizeB n f then n / 2 + f else 0), PV.int (if sizeB n f then f + 1 else 0), PV.int (if sizeB n f then n - f else 0)]
instance refsizes_spec (n f : Int) : HasSpec Try.prog 27 [PV.int n, PV.int f] (.tup [PV.int (if sizeB n f then n / 2 + f else 0), PV.int (if sizeB n f then f + 1 else 0), PV.int (if sizeB n f then n - f else 0)]) := by
  refine ⟨?_⟩; refine Spec.ofR (h := fun F w0 => ?_)
  repeat' ((conv => whnf); first | refine Stk.yes ?_ | refine Stk.ld rfl ?_ | refine Stk.no ?_ | (refine Stk.both (fun hb => ?_) (fun hb => ?_) <;> (try simp only [lC] at hb) <;> (try (exfalso; omega))) | refine Stk.wrap (by omega) (by omega) ?_ | refine Stk.wrapU (by omega) (by omega) ?_ | refine Stk.cutT (by omega) ?_ | refine Stk.cutD (by omega) ?_ | refine Stk.eqsE [_, _] [_, _] rfl rfl rfl rfl ?_ | refine Stk.eqsN [_, _] [_, _] rfl rfl rfl rfl ?_ | refine Stk.eqsE [_, _, _] [_, _, _] rfl rfl rfl rfl ?_ | refine Stk.eqsN [_, _, _] [_, _, _] rfl rfl rfl rfl ?_ | refine Stk.eqsE [_, _, _, _, _, _] [_, _, _, _, _, _] rfl rfl rfl rfl ?_ | refine Stk.eqsN [_, _, _, _, _, _] [_, _, _, _, _, _] rfl rfl rfl rfl ?_ | refine Stk.len ?_ | refine Stk.ixN (by omega) ?_ | refine Stk.ixI (by omega) (by omega) ?_ | refine Stk.ix _ (by decide) rfl ?_ | refine Stk.quo (by omega) (by omega) (by omega) ?_ | refine Stk.rem (by omega) (by omega) ?_ | refine Stk.need (by first | kernel_rfl | omega) ?_ | refine Stk.ar _ (by omega) (by omega) rfl ?_ | refine Stk.call (h := ?_) | refine Stk.callO (h := ?_) | refine Stk.divA (by decide) ?_ | refine Stk.lenA ?_ | refine Stk.wrapA ?_); all_goals (conv => whnf)
  · ((refine FinK.of (h := ?_)); (repeat' (first | exact FinL.nil | refine FinL.cons ?_ ?_ | refine Fin'.tup ?_ | exact Fin'.row rfl (by first | rfl | exact all_map_closed (fun _ => rfl) _ | (rw [List.all_append, all_map_closed (fun _ => rfl)]; rfl) | (simp [closedL, PV.closed]; done)) | exact Fin'.sub rfl (.refl _) | exact Fin'.sub rfl (.nil _) | exact Fin'.sub (by first | rfl | exact all_map_closed (fun _ => rfl) _ | (rw [List.all_append, all_map_closed (fun _ => rfl)]; rfl) | (simp [closedL, PV.closed]; done)) (.refl _) | refine Fin'.vb ?_ | refine Fin'.vi ?_ | refine Fin'.agg ?_)))
    all_goals rw [if_neg (by rw [sizeB_iff]; omega)]
  · refine Stk.by (refcheck_spec n f (by omega)) (h := ?_)
    repeat' ((conv => whnf); first | refine Stk.yes ?_ | refine Stk.ld rfl ?_ | refine Stk.no ?_ | (refine Stk.both (fun hb => ?_) (fun hb => ?_) <;> (try simp only [lC] at hb) <;> (try (exfalso; omega))) | refine Stk.wrap (by omega) (by omega) ?_ | refine Stk.wrapU (by omega) (by omega) ?_ | refine Stk.cutT (by omega) ?_ | refine Stk.cutD (by omega) ?_ | refine Stk.eqsE [_, _] [_, _] rfl rfl rfl rfl ?_ | refine Stk.eqsN [_, _] [_, _] rfl rfl rfl rfl ?_ | refine Stk.eqsE [_, _, _] [_, _, _] rfl rfl rfl rfl ?_ | refine Stk.eqsN [_, _, _] [_, _, _] rfl rfl rfl rfl ?_ | refine Stk.eqsE [_, _, _, _, _, _] [_, _, _, _, _, _] rfl rfl rfl rfl ?_ | refine Stk.eqsN [_, _, _, _, _, _] [_, _, _, _, _, _] rfl rfl rfl rfl ?_ | refine Stk.len ?_ | refine Stk.ixN (by omega) ?_ | refine Stk.ixI (by omega) (by omega) ?_ | refine Stk.ix _ (by decide) rfl ?_ | refine Stk.quo (by omega) (by omega) (by omega) ?_ | refine Stk.rem (by omega) (by omega) ?_ | refine Stk.need (by first | kernel_rfl | omega) ?_ | refine Stk.ar _ (by omega) (by omega) rfl ?_ | refine Stk.call (h := ?_) | refine Stk.callO (h := ?_) | refine Stk.divA (by decide) ?_ | refine Stk.lenA ?_ | refine Stk.wrapA ?_); all_goals (conv => whnf)
    · ((refine FinK.of (h := ?_)); (repeat' (first | exact FinL.nil | refine FinL.cons ?_ ?_ | refine Fin'.tup ?_ | exact Fin'.row rfl (by first | rfl | exact all_map_closed (fun _ => rfl) _ | (rw [List.all_append, all_map_closed (fun _ => rfl)]; rfl) | (simp [closedL, PV.closed]; done)) | exact Fin'.sub rfl (.refl _) | exact Fin'.sub rfl (.nil _) | exact Fin'.sub (by first | rfl | exact all_map_closed (fun _ => rfl) _ | (rw [List.all_append, all_map_closed (fun _ => rfl)]; rfl) | (simp [closedL, PV.closed]; done)) (.refl _) | refine Fin'.vb ?_ | refine Fin'.vi ?_ | refine Fin'.agg ?_)))
      all_goals rw [if_neg (by rw [sizeB_iff]; omega)]
    · ((refine FinK.of (h := ?_)); (repeat' (first | exact FinL.nil | refine FinL.cons ?_ ?_ | refine Fin'.tup ?_ | exact Fin'.row rfl (by first | rfl | exact all_map_closed (fun _ => rfl) _ | (rw [List.all_append, all_map_closed (fun _ => rfl)]; rfl) | (simp [closedL, PV.closed]; done)) | exact Fin'.sub rfl (.refl _) | exact Fin'.sub rfl (.nil _) | exact Fin'.sub (by first | rfl | exact all_map_closed (fun _ => rfl) _ | (rw [List.all_append, all_map_closed (fun _ => rfl)]; rfl) | (simp [closedL, PV.closed]; done)) (.refl _) | refine Fin'.vb ?_ | refine Fin'.vi ?_ | refine Fin'.agg ?_)))
      all_goals rw [if_pos (by rw [sizeB_iff]; omega)]
instance refmost_spec (n : Int) : HasSpec Try.prog 33 [PV.int n] (PV.int (if manyB n then n / 2 + 1 else 0)) := by
  refine ⟨?_⟩; refine Spec.ofR (h := fun F w0 => ?_)
  repeat' ((conv => whnf); first | refine Stk.yes ?_ | refine Stk.ld rfl ?_ | refine Stk.no ?_ | (refine Stk.both (fun hb => ?_) (fun hb => ?_) <;> (try simp only [lC] at hb) <;> (try (exfalso; omega))) | refine Stk.wrap (by omega) (by omega) ?_ | refine Stk.wrapU (by omega) (by omega) ?_ | refine Stk.cutT (by omega) ?_ | refine Stk.cutD (by omega) ?_ | refine Stk.eqsE [_, _] [_, _] rfl rfl rfl rfl ?_ | refine Stk.eqsN [_, _] [_, _] rfl rfl rfl rfl ?_ | refine Stk.eqsE [_, _, _] [_, _, _] rfl rfl rfl rfl ?_ | refine Stk.eqsN [_, _, _] [_, _, _] rfl rfl rfl rfl ?_ | refine Stk.eqsE [_, _, _, _, _, _] [_, _, _, _, _, _] rfl rfl rfl rfl ?_ | refine Stk.eqsN [_, _, _, _, _, _] [_, _, _, _, _, _] rfl rfl rfl rfl ?_ | refine Stk.len ?_ | refine Stk.ixN (by omega) ?_ | refine Stk.ixI (by omega) (by omega) ?_ | refine Stk.ix _ (by decide) rfl ?_ | refine Stk.quo (by omega) (by omega) (by omega) ?_ | refine Stk.rem (by omega) (by omega) ?_ | refine Stk.need (by first | kernel_rfl | omega) ?_ | refine Stk.ar _ (by omega) (by omega) rfl ?_ | refine Stk.call (h := ?_) | refine Stk.callO (h := ?_) | refine Stk.divA (by decide) ?_ | refine Stk.lenA ?_ | refine Stk.wrapA ?_); all_goals (conv => whnf)
  all_goals (((refine FinK.of (h := ?_)); (repeat' (first | exact FinL.nil | refine FinL.cons ?_ ?_ | refine Fin'.tup ?_ | exact Fin'.row rfl (by first | rfl | exact all_map_closed (fun _ => rfl) _ | (rw [List.all_append, all_map_closed (fun _ => rfl)]; rfl) | (simp [closedL, PV.closed]; done)) | exact Fin'.sub rfl (.refl _) | exact Fin'.sub rfl (.nil _) | exact Fin'.sub (by first | rfl | exact all_map_closed (fun _ => rfl) _ | (rw [List.all_append, all_map_closed (fun _ => rfl)]; rfl) | (simp [closedL, PV.closed]; done)) (.refl _) | refine Fin'.vb ?_ | refine Fin'.vi ?_ | refine Fin'.agg ?_))))
  all_goals (first | (rw [if_pos (manyB_iff.2 (by omega))]; done) | (rw [if_neg (by rw [manyB_iff]; omega)]; done))
def boolsN (set : Int) (n : Nat) : List PV := (List.range 10).map fun (i : Nat) => .v (.bool (decide (i ≤ n) && hasB set i))
theorem boolsN_len (set : Int) (n : Nat) : (boolsN set n).length = 10 := by unfold boolsN; simp
theorem boolsN_at (set : Int) (n i : Nat) (h : i < 10) : (boolsN set n)[i]? = some (.v (.bool (decide (i ≤ n) && hasB set i))) := by unfold boolsN; simp [h]
theorem boolsN_put (set : Int) (n : Nat) (h : n < 9) : putL (boolsN set n) (n + 1) (PV.v (.bool (hasB set (n + 1)))).cells = boolsN set (n + 1) := by
  show putL (boolsN set n) (n + 1) [.v (.bool (hasB set (n + 1)))] = _
  rw [putL, putL]
  apply List.ext_getElem?
  intro i
  rw [List.getElem?_set, boolsN_len]
  by_cases hi : i < 10
  · rw [boolsN_at _ _ _ hi, boolsN_at _ _ _ hi]
    by_cases e : n + 1 = i
    · subst e; simp [hi]
    · rw [if_neg e]
      have : decide (i ≤ n) = decide (i ≤ n + 1) := by rw [decide_eq_decide]; omega
      rw [this]
  · rw [if_neg (by omega), List.getElem?_eq_none (by rw [boolsN_len]; omega), List.getElem?_eq_none (by rw [boolsN_len]; omega)]
theorem boolsN_zero (set : Int) : boolsN set 0 = List.map PV.v [.bool false, .bool false, .bool false, .bool false, .bool false, .bool false, .bool false, .bool false, .bool false, .bool false] := by
  have h0 : hasB set 0 = false := by unfold hasB replB; simp
  unfold boolsN
  simp [List.range, List.range.loop, h0]
theorem hasB_in {set : Int} (h : 0 ≤ set ∧ set ≤ 511) {n : Nat} (hn : n < 9) : hasB set (n + 1) = tst (set / 2 ^ n % 2 = 1) := by
  unfold hasB bitB
  rw [mayB_iff.2 h, replB_iff.2 (by omega), tst_eq, show ((n : Int) + 1 - 1).toNat = n from by omega]
  rfl
theorem boolsN_no {set : Int} (h : ¬ (0 ≤ set ∧ set ≤ 511)) (n m : Nat) : boolsN set n = boolsN set m := by
  unfold boolsN hasB
  have : mayB set = false := by cases e : mayB set with
    | false => rfl
    | true => exact absurd (mayB_iff.1 e) h
  rw [this]; simp
theorem boolsN_nine {set : Int} (h : 0 ≤ set ∧ set ≤ 511) : boolsN set 9 = [.v (.bool false), .v (.bool (tst (set % 2 = 1))), .v (.bool (tst (set / 2 % 2 = 1))), .v (.bool (tst (set / 2 / 2 % 2 = 1))), .v (.bool (tst (set / 2 / 2 / 2 % 2 = 1))), .v (.bool (tst (set / 2 / 2 / 2 / 2 % 2 = 1))), .v (.bool (tst (set / 2 / 2 / 2 / 2 / 2 % 2 = 1))), .v (.bool (tst (set / 2 / 2 / 2 / 2 / 2 / 2 % 2 = 1))), .v (.bool (tst (set / 2 / 2 / 2 / 2 / 2 / 2 / 2 % 2 = 1))), .v (.bool (tst (set / 2 / 2 / 2 / 2 / 2 / 2 / 2 / 2 % 2 = 1)))] := by
  have h0 : hasB set 0 = false := by unfold hasB replB; simp
  have e : ∀ n : Nat, n < 9 → hasB set ((n + 1 : Nat) : Int) = tst (set / 2 ^ n % 2 = 1) := fun n hn => hasB_in h hn
  have d : ∀ n : Nat, set / 2 ^ n / 2 = set / 2 ^ (n + 1) := fun n => by rw [Int.pow_succ, Int.ediv_ediv_of_nonneg (Int.le_of_lt (Int.pow_pos (by decide)))]
  have e0 := e 0 (by omega); have e1 := e 1 (by omega); have e2 := e 2 (by omega); have e3 := e 3 (by omega); have e4 := e 4 (by omega); have e5 := e 5 (by omega); have e6 := e 6 (by omega); have e7 := e 7 (by omega); have e8 := e 8 (by omega)
  have d0 : set / 2 ^ 0 = set := by simp
  rw [d0] at e0
  rw [← d 0, d0] at e1
  rw [← d 1, ← d 0, d0] at e2
  rw [← d 2, ← d 1, ← d 0, d0] at e3
  rw [← d 3, ← d 2, ← d 1, ← d 0, d0] at e4
  rw [← d 4, ← d 3, ← d 2, ← d 1, ← d 0, d0] at e5
  rw [← d 5, ← d 4, ← d 3, ← d 2, ← d 1, ← d 0, d0] at e6
  rw [← d 6, ← d 5, ← d 4, ← d 3, ← d 2, ← d 1, ← d 0, d0] at e7
  rw [← d 7, ← d 6, ← d 5, ← d 4, ← d 3, ← d 2, ← d 1, ← d 0, d0] at e8
  have hr : List.range 10 = [0, 1, 2, 3, 4, 5, 6, 7, 8, 9] := rfl
  unfold boolsN
  rw [hr]
  simp only [List.map_cons, List.map_nil]
  rw [e0, e1, e2, e3, e4, e5, e6, e7, e8, show hasB set ((0 : Nat) : Int) = false from h0]
  rfl
instance bools_spec (set : Int) : HasSpec Try.prog 94 [PV.int set] (.agg (boolsN set 9)) := by
  by_cases hm : 0 ≤ set ∧ set ≤ 511
  · rw [boolsN_nine hm]
    refine ⟨?_⟩; refine Spec.ofR (h := fun F w0 => ?_)
    repeat' ((conv => whnf); first | refine Stk.yes ?_ | refine Stk.ld rfl ?_ | refine Stk.no ?_ | (refine Stk.both (fun hb => ?_) (fun hb => ?_) <;> (try simp only [lC] at hb) <;> (try (exfalso; omega))) | refine Stk.wrap (by omega) (by omega) ?_ | refine Stk.wrapU (by omega) (by omega) ?_ | refine Stk.cutT (by omega) ?_ | refine Stk.cutD (by omega) ?_ | refine Stk.eqsE [_, _] [_, _] rfl rfl rfl rfl ?_ | refine Stk.eqsN [_, _] [_, _] rfl rfl rfl rfl ?_ | refine Stk.eqsE [_, _, _] [_, _, _] rfl rfl rfl rfl ?_ | refine Stk.eqsN [_, _, _] [_, _, _] rfl rfl rfl rfl ?_ | refine Stk.eqsE [_, _, _, _, _, _] [_, _, _, _, _, _] rfl rfl rfl rfl ?_ | refine Stk.eqsN [_, _, _, _, _, _] [_, _, _, _, _, _] rfl rfl rfl rfl ?_ | refine Stk.len ?_ | refine Stk.ixN (by omega) ?_ | refine Stk.ixI (by omega) (by omega) ?_ | refine Stk.ix _ (by decide) rfl ?_ | refine Stk.quo (by omega) (by omega) (by omega) ?_ | refine Stk.rem (by omega) (by omega) ?_ | refine Stk.need (by first | kernel_rfl | omega) ?_ | refine Stk.ar _ (by omega) (by omega) rfl ?_ | refine Stk.call (h := ?_) | refine Stk.callO (h := ?_) | refine Stk.divA (by decide) ?_ | refine Stk.lenA ?_ | refine Stk.wrapA ?_); all_goals (conv => whnf)
    refine Stk.unroll 10 ?_
    repeat' ((conv => whnf); first | refine Stk.yes ?_ | refine Stk.ld rfl ?_ | refine Stk.no ?_ | (refine Stk.both (fun hb => ?_) (fun hb => ?_) <;> (try simp only [lC] at hb) <;> (try (exfalso; omega))) | refine Stk.wrap (by omega) (by omega) ?_ | refine Stk.wrapU (by omega) (by omega) ?_ | refine Stk.cutT (by omega) ?_ | refine Stk.cutD (by omega) ?_ | refine Stk.eqsE [_, _] [_, _] rfl rfl rfl rfl ?_ | refine Stk.eqsN [_, _] [_, _] rfl rfl rfl rfl ?_ | refine Stk.eqsE [_, _, _] [_, _, _] rfl rfl rfl rfl ?_ | refine Stk.eqsN [_, _, _] [_, _, _] rfl rfl rfl rfl ?_ | refine Stk.eqsE [_, _, _, _, _, _] [_, _, _, _, _, _] rfl rfl rfl rfl ?_ | refine Stk.eqsN [_, _, _, _, _, _] [_, _, _, _, _, _] rfl rfl rfl rfl ?_ | refine Stk.len ?_ | refine Stk.ixN (by omega) ?_ | refine Stk.ixI (by omega) (by omega) ?_ | refine Stk.ix _ (by decide) rfl ?_ | refine Stk.quo (by omega) (by omega) (by omega) ?_ | refine Stk.rem (by omega) (by omega) ?_ | refine Stk.need (by first | kernel_rfl | omega) ?_ | refine Stk.ar _ (by omega) (by omega) rfl ?_ | refine Stk.call (h := ?_) | refine Stk.callO (h := ?_) | refine Stk.divA (by decide) ?_ | refine Stk.lenA ?_ | refine Stk.wrapA ?_); all_goals (conv => whnf)
    ((refine FinK.of (h := ?_)); (repeat' (first | exact FinL.nil | refine FinL.cons ?_ ?_ | refine Fin'.tup ?_ | exact Fin'.row rfl (by first | rfl | exact all_map_closed (fun _ => rfl) _ | (rw [List.all_append, all_map_closed (fun _ => rfl)]; rfl) | (simp [closedL, PV.closed]; done)) | exact Fin'.sub rfl (.refl _) | exact Fin'.sub rfl (.nil _) | exact Fin'.sub (by first | rfl | exact all_map_closed (fun _ => rfl) _ | (rw [List.all_append, all_map_closed (fun _ => rfl)]; rfl) | (simp [closedL, PV.closed]; done)) (.refl _) | refine Fin'.vb ?_ | refine Fin'.vi ?_ | refine Fin'.agg ?_)))
  · rw [boolsN_no hm 9 0, boolsN_zero]
    refine ⟨?_⟩; refine Spec.ofR (h := fun F w0 => ?_)
    repeat' ((conv => whnf); first | refine Stk.yes ?_ | refine Stk.ld rfl ?_ | refine Stk.no ?_ | (refine Stk.both (fun hb => ?_) (fun hb => ?_) <;> (try simp only [lC] at hb) <;> (try (exfalso; omega))) | refine Stk.wrap (by omega) (by omega) ?_ | refine Stk.wrapU (by omega) (by omega) ?_ | refine Stk.cutT (by omega) ?_ | refine Stk.cutD (by omega) ?_ | refine Stk.eqsE [_, _] [_, _] rfl rfl rfl rfl ?_ | refine Stk.eqsN [_, _] [_, _] rfl rfl rfl rfl ?_ | refine Stk.eqsE [_, _, _] [_, _, _] rfl rfl rfl rfl ?_ | refine Stk.eqsN [_, _, _] [_, _, _] rfl rfl rfl rfl ?_ | refine Stk.eqsE [_, _, _, _, _, _] [_, _, _, _, _, _] rfl rfl rfl rfl ?_ | refine Stk.eqsN [_, _, _, _, _, _] [_, _, _, _, _, _] rfl rfl rfl rfl ?_ | refine Stk.len ?_ | refine Stk.ixN (by omega) ?_ | refine Stk.ixI (by omega) (by omega) ?_ | refine Stk.ix _ (by decide) rfl ?_ | refine Stk.quo (by omega) (by omega) (by omega) ?_ | refine Stk.rem (by omega) (by omega) ?_ | refine Stk.need (by first | kernel_rfl | omega) ?_ | refine Stk.ar _ (by omega) (by omega) rfl ?_ | refine Stk.call (h := ?_) | refine Stk.callO (h := ?_) | refine Stk.divA (by decide) ?_ | refine Stk.lenA ?_ | refine Stk.wrapA ?_); all_goals (conv => whnf)
    all_goals (((refine FinK.of (h := ?_)); (repeat' (first | exact FinL.nil | refine FinL.cons ?_ ?_ | refine Fin'.tup ?_ | exact Fin'.row rfl (by first | rfl | exact all_map_closed (fun _ => rfl) _ | (rw [List.all_append, all_map_closed (fun _ => rfl)]; rfl) | (simp [closedL, PV.closed]; done)) | exact Fin'.sub rfl (.refl _) | exact Fin'.sub rfl (.nil _) | exact Fin'.sub (by first | rfl | exact all_map_closed (fun _ => rfl) _ | (rw [List.all_append, all_map_closed (fun _ => rfl)]; rfl) | (simp [closedL, PV.closed]; done)) (.refl _) | refine Fin'.vb ?_ | refine Fin'.vi ?_ | refine Fin'.agg ?_))))
theorem bools_at (set r : Int) (h0 : 0 ≤ r) (h : r ≤ 9) : (boolsN set 9)[0 + r.toNat * 1]? = some (.v (.bool (hasB set r))) := by
  rw [boolsN_at _ _ _ (by omega)]
  have h1 : decide (0 + r.toNat * 1 ≤ 9) = true := decide_eq_true (by omega)
  rw [h1, show ((0 + r.toNat * 1 : Nat) : Int) = r from by omega]
  rfl
instance refhas_spec (set r : Int) : HasSpec Try.prog 40 [PV.int set, PV.int r] (.v (.bool (hasB set r))) := by
  refine ⟨?_⟩; refine Spec.ofR (h := fun F w0 => ?_)
  repeat' ((conv => whnf); first | refine Stk.yes ?_ | refine Stk.ld rfl ?_ | refine Stk.no ?_ | (refine Stk.both (fun hb => ?_) (fun hb => ?_) <;> (try simp only [lC] at hb) <;> (try (exfalso; omega))) | refine Stk.wrap (by omega) (by omega) ?_ | refine Stk.wrapU (by omega) (by omega) ?_ | refine Stk.cutT (by omega) ?_ | refine Stk.cutD (by omega) ?_ | refine Stk.eqsE [_, _] [_, _] rfl rfl rfl rfl ?_ | refine Stk.eqsN [_, _] [_, _] rfl rfl rfl rfl ?_ | refine Stk.eqsE [_, _, _] [_, _, _] rfl rfl rfl rfl ?_ | refine Stk.eqsN [_, _, _] [_, _, _] rfl rfl rfl rfl ?_ | refine Stk.eqsE [_, _, _, _, _, _] [_, _, _, _, _, _] rfl rfl rfl rfl ?_ | refine Stk.eqsN [_, _, _, _, _, _] [_, _, _, _, _, _] rfl rfl rfl rfl ?_ | refine Stk.len ?_ | refine Stk.ixN (by omega) ?_ | refine Stk.ixI (by omega) (by omega) ?_ | refine Stk.ix _ (by decide) rfl ?_ | refine Stk.quo (by omega) (by omega) (by omega) ?_ | refine Stk.rem (by omega) (by omega) ?_ | refine Stk.need (by first | kernel_rfl | omega) ?_ | refine Stk.ar _ (by omega) (by omega) rfl ?_ | refine Stk.call (h := ?_) | refine Stk.callO (h := ?_) | refine Stk.divA (by decide) ?_ | refine Stk.lenA ?_ | refine Stk.wrapA ?_); all_goals (conv => whnf)
  · refine Stk.ld (bools_at set r (by omega) (by omega)) ?_
    repeat' ((conv => whnf); first | refine Stk.yes ?_ | refine Stk.ld rfl ?_ | refine Stk.no ?_ | (refine Stk.both (fun hb => ?_) (fun hb => ?_) <;> (try simp only [lC] at hb) <;> (try (exfalso; omega))) | refine Stk.wrap (by omega) (by omega) ?_ | refine Stk.wrapU (by omega) (by omega) ?_ | refine Stk.cutT (by omega) ?_ | refine Stk.cutD (by omega) ?_ | refine Stk.eqsE [_, _] [_, _] rfl rfl rfl rfl ?_ | refine Stk.eqsN [_, _] [_, _] rfl rfl rfl rfl ?_ | refine Stk.eqsE [_, _, _] [_, _, _] rfl rfl rfl rfl ?_ | refine Stk.eqsN [_, _, _] [_, _, _] rfl rfl rfl rfl ?_ | refine Stk.eqsE [_, _, _, _, _, _] [_, _, _, _, _, _] rfl rfl rfl rfl ?_ | refine Stk.eqsN [_, _, _, _, _, _] [_, _, _, _, _, _] rfl rfl rfl rfl ?_ | refine Stk.len ?_ | refine Stk.ixN (by omega) ?_ | refine Stk.ixI (by omega) (by omega) ?_ | refine Stk.ix _ (by decide) rfl ?_ | refine Stk.quo (by omega) (by omega) (by omega) ?_ | refine Stk.rem (by omega) (by omega) ?_ | refine Stk.need (by first | kernel_rfl | omega) ?_ | refine Stk.ar _ (by omega) (by omega) rfl ?_ | refine Stk.call (h := ?_) | refine Stk.callO (h := ?_) | refine Stk.divA (by decide) ?_ | refine Stk.lenA ?_ | refine Stk.wrapA ?_); all_goals (conv => whnf)
    ((refine FinK.of (h := ?_)); (repeat' (first | exact FinL.nil | refine FinL.cons ?_ ?_ | refine Fin'.tup ?_ | exact Fin'.row rfl (by first | rfl | exact all_map_closed (fun _ => rfl) _ | (rw [List.all_append, all_map_closed (fun _ => rfl)]; rfl) | (simp [closedL, PV.closed]; done)) | exact Fin'.sub rfl (.refl _) | exact Fin'.sub rfl (.nil _) | exact Fin'.sub (by first | rfl | exact all_map_closed (fun _ => rfl) _ | (rw [List.all_append, all_map_closed (fun _ => rfl)]; rfl) | (simp [closedL, PV.closed]; done)) (.refl _) | refine Fin'.vb ?_ | refine Fin'.vi ?_ | refine Fin'.agg ?_)))
  · ((refine FinK.of (h := ?_)); (repeat' (first | exact FinL.nil | refine FinL.cons ?_ ?_ | refine Fin'.tup ?_ | exact Fin'.row rfl (by first | rfl | exact all_map_closed (fun _ => rfl) _ | (rw [List.all_append, all_map_closed (fun _ => rfl)]; rfl) | (simp [closedL, PV.closed]; done)) | exact Fin'.sub rfl (.refl _) | exact Fin'.sub rfl (.nil _) | exact Fin'.sub (by first | rfl | exact all_map_closed (fun _ => rfl) _ | (rw [List.all_append, all_map_closed (fun _ => rfl)]; rfl) | (simp [closedL, PV.closed]; done)) (.refl _) | refine Fin'.vb ?_ | refine Fin'.vi ?_ | refine Fin'.agg ?_)))
    unfold hasB
    rw [show replB r = false from by cases e : replB r with
      | false => rfl
      | true => have := replB_iff.1 e; omega]
    simp
  · ((refine FinK.of (h := ?_)); (repeat' (first | exact FinL.nil | refine FinL.cons ?_ ?_ | refine Fin'.tup ?_ | exact Fin'.row rfl (by first | rfl | exact all_map_closed (fun _ => rfl) _ | (rw [List.all_append, all_map_closed (fun _ => rfl)]; rfl) | (simp [closedL, PV.closed]; done)) | exact Fin'.sub rfl (.refl _) | exact Fin'.sub rfl (.nil _) | exact Fin'.sub (by first | rfl | exact all_map_closed (fun _ => rfl) _ | (rw [List.all_append, all_map_closed (fun _ => rfl)]; rfl) | (simp [closedL, PV.closed]; done)) (.refl _) | refine Fin'.vb ?_ | refine Fin'.vi ?_ | refine Fin'.agg ?_)))
    unfold hasB
    rw [show replB r = false from by cases e : replB r with
      | false => rfl
      | true => have := replB_iff.1 e; omega]
    simp
instance reflist_spec (set : Int) : HasSpec Try.prog 37 [PV.int set] (PV.ints (listS set 9)) := by
  refine ⟨?_⟩; refine Spec.ofR (h := fun F w0 => ?_)
  repeat' ((conv => whnf); first | refine Stk.yes ?_ | refine Stk.ld rfl ?_ | refine Stk.no ?_ | (refine Stk.both (fun hb => ?_) (fun hb => ?_) <;> (try simp only [lC] at hb) <;> (try (exfalso; omega))) | refine Stk.wrap (by omega) (by omega) ?_ | refine Stk.wrapU (by omega) (by omega) ?_ | refine Stk.cutT (by omega) ?_ | refine Stk.cutD (by omega) ?_ | refine Stk.eqsE [_, _] [_, _] rfl rfl rfl rfl ?_ | refine Stk.eqsN [_, _] [_, _] rfl rfl rfl rfl ?_ | refine Stk.eqsE [_, _, _] [_, _, _] rfl rfl rfl rfl ?_ | refine Stk.eqsN [_, _, _] [_, _, _] rfl rfl rfl rfl ?_ | refine Stk.eqsE [_, _, _, _, _, _] [_, _, _, _, _, _] rfl rfl rfl rfl ?_ | refine Stk.eqsN [_, _, _, _, _, _] [_, _, _, _, _, _] rfl rfl rfl rfl ?_ | refine Stk.len ?_ | refine Stk.ixN (by omega) ?_ | refine Stk.ixI (by omega) (by omega) ?_ | refine Stk.ix _ (by decide) rfl ?_ | refine Stk.quo (by omega) (by omega) (by omega) ?_ | refine Stk.rem (by omega) (by omega) ?_ | refine Stk.need (by first | kernel_rfl | omega) ?_ | refine Stk.ar _ (by omega) (by omega) rfl ?_ | refine Stk.call (h := ?_) | refine Stk.callO (h := ?_) | refine Stk.divA (by decide) ?_ | refine Stk.lenA ?_ | refine Stk.wrapA ?_); all_goals (conv => whnf)
  · refine Stk.loop (ι := Nat × Nat) (fun i => [(0, PV.int set), (3, .row 3 i.2), (4, .lp 4 0), (5, PV.int ((i.1 : Int) + 1))]) (fun i => [(3, .row 3 1 i.2 ((listS set i.1).map ics)), (4, .box (boolsN set 9))]) (fun i => i.1 ≤ 9) (fun i => 9 - i.1) (0, 0) (Nat.zero_le _) (Weak.trans (Weak.nilrow (t := 3) (id := 3) (rt := 3) (sz := 1) rfl rfl) (Weak.to ⟨rfl, rfl, rfl, rfl, trivial⟩ ⟨rfl, rfl, trivial⟩ rfl)) (fun ⟨n, ver⟩ hn => ?_)
    have hll := listS_len set n
    simp only at hn
    repeat' ((conv => whnf); first | refine Stk.yes ?_ | refine Stk.ld rfl ?_ | refine Stk.no ?_ | (refine Stk.both (fun hb => ?_) (fun hb => ?_) <;> (try simp only [lC] at hb) <;> (try (exfalso; omega))) | refine Stk.wrap (by omega) (by omega) ?_ | refine Stk.wrapU (by omega) (by omega) ?_ | refine Stk.cutT (by omega) ?_ | refine Stk.cutD (by omega) ?_ | refine Stk.eqsE [_, _] [_, _] rfl rfl rfl rfl ?_ | refine Stk.eqsN [_, _] [_, _] rfl rfl rfl rfl ?_ | refine Stk.eqsE [_, _, _] [_, _, _] rfl rfl rfl rfl ?_ | refine Stk.eqsN [_, _, _] [_, _, _] rfl rfl rfl rfl ?_ | refine Stk.eqsE [_, _, _, _, _, _] [_, _, _, _, _, _] rfl rfl rfl rfl ?_ | refine Stk.eqsN [_, _, _, _, _, _] [_, _, _, _, _, _] rfl rfl rfl rfl ?_ | refine Stk.len ?_ | refine Stk.ixN (by omega) ?_ | refine Stk.ixI (by omega) (by omega) ?_ | refine Stk.ix _ (by decide) rfl ?_ | refine Stk.quo (by omega) (by omega) (by omega) ?_ | refine Stk.rem (by omega) (by omega) ?_ | refine Stk.need (by first | kernel_rfl | omega) ?_ | refine Stk.ar _ (by omega) (by omega) rfl ?_ | refine Stk.call (h := ?_) | refine Stk.callO (h := ?_) | refine Stk.divA (by decide) ?_ | refine Stk.lenA ?_ | refine Stk.wrapA ?_); all_goals (conv => whnf)
    · refine Stk.ld (bools_at set ((n : Int) + 1) (by omega) (by omega)) ?_
      repeat' ((conv => whnf); first | refine Stk.yes ?_ | refine Stk.ld rfl ?_ | refine Stk.no ?_ | (refine Stk.both (fun hb => ?_) (fun hb => ?_) <;> (try simp only [lC] at hb) <;> (try (exfalso; omega))) | refine Stk.wrap (by omega) (by omega) ?_ | refine Stk.wrapU (by omega) (by omega) ?_ | refine Stk.cutT (by omega) ?_ | refine Stk.cutD (by omega) ?_ | refine Stk.eqsE [_, _] [_, _] rfl rfl rfl rfl ?_ | refine Stk.eqsN [_, _] [_, _] rfl rfl rfl rfl ?_ | refine Stk.eqsE [_, _, _] [_, _, _] rfl rfl rfl rfl ?_ | refine Stk.eqsN [_, _, _] [_, _, _] rfl rfl rfl rfl ?_ | refine Stk.eqsE [_, _, _, _, _, _] [_, _, _, _, _, _] rfl rfl rfl rfl ?_ | refine Stk.eqsN [_, _, _, _, _, _] [_, _, _, _, _, _] rfl rfl rfl rfl ?_ | refine Stk.len ?_ | refine Stk.ixN (by omega) ?_ | refine Stk.ixI (by omega) (by omega) ?_ | refine Stk.ix _ (by decide) rfl ?_ | refine Stk.quo (by omega) (by omega) (by omega) ?_ | refine Stk.rem (by omega) (by omega) ?_ | refine Stk.need (by first | kernel_rfl | omega) ?_ | refine Stk.ar _ (by omega) (by omega) rfl ?_ | refine Stk.call (h := ?_) | refine Stk.callO (h := ?_) | refine Stk.divA (by decide) ?_ | refine Stk.lenA ?_ | refine Stk.wrapA ?_); all_goals (conv => whnf)
      · (refine Stk.app rfl (eff_append rfl rfl rfl rfl (by decide) (by simp [maxLen, -Nat.not_le] <;> omega) (by simp <;> omega) rfl) ?_)
        repeat' ((conv => whnf); first | refine Stk.yes ?_ | refine Stk.ld rfl ?_ | refine Stk.no ?_ | (refine Stk.both (fun hb => ?_) (fun hb => ?_) <;> (try simp only [lC] at hb) <;> (try (exfalso; omega))) | refine Stk.wrap (by omega) (by omega) ?_ | refine Stk.wrapU (by omega) (by omega) ?_ | refine Stk.cutT (by omega) ?_ | refine Stk.cutD (by omega) ?_ | refine Stk.eqsE [_, _] [_, _] rfl rfl rfl rfl ?_ | refine Stk.eqsN [_, _] [_, _] rfl rfl rfl rfl ?_ | refine Stk.eqsE [_, _, _] [_, _, _] rfl rfl rfl rfl ?_ | refine Stk.eqsN [_, _, _] [_, _, _] rfl rfl rfl rfl ?_ | refine Stk.eqsE [_, _, _, _, _, _] [_, _, _, _, _, _] rfl rfl rfl rfl ?_ | refine Stk.eqsN [_, _, _, _, _, _] [_, _, _, _, _, _] rfl rfl rfl rfl ?_ | refine Stk.len ?_ | refine Stk.ixN (by omega) ?_ | refine Stk.ixI (by omega) (by omega) ?_ | refine Stk.ix _ (by decide) rfl ?_ | refine Stk.quo (by omega) (by omega) (by omega) ?_ | refine Stk.rem (by omega) (by omega) ?_ | refine Stk.need (by first | kernel_rfl | omega) ?_ | refine Stk.ar _ (by omega) (by omega) rfl ?_ | refine Stk.call (h := ?_) | refine Stk.callO (h := ?_) | refine Stk.divA (by decide) ?_ | refine Stk.lenA ?_ | refine Stk.wrapA ?_); all_goals (conv => whnf)
        refine ⟨(n + 1, ver + 1), by simp; omega, by simp; omega, ?_⟩
        rw [listS_succ, if_pos ‹_›, List.map_append]
        exact Weak.to ⟨rfl, rfl, rfl, rfl, trivial⟩ ⟨rfl, rfl, trivial⟩ rfl
      · refine ⟨(n + 1, ver), by simp; omega, by simp; omega, ?_⟩
        rw [listS_succ, if_neg (by simp_all)]
        exact Weak.to ⟨rfl, rfl, rfl, rfl, trivial⟩ ⟨rfl, rfl, trivial⟩ rfl
    · obtain rfl : n = 9 := by omega
      ((refine FinK.of (h := ?_)); (repeat' (first | exact FinL.nil | refine FinL.cons ?_ ?_ | refine Fin'.tup ?_ | exact Fin'.row rfl (by first | rfl | exact all_map_closed (fun _ => rfl) _ | (rw [List.all_append, all_map_closed (fun _ => rfl)]; rfl) | (simp [closedL, PV.closed]; done)) | exact Fin'.sub rfl (.refl _) | exact Fin'.sub rfl (.nil _) | exact Fin'.sub (by first | rfl | exact all_map_closed (fun _ => rfl) _ | (rw [List.all_append, all_map_closed (fun _ => rfl)]; rfl) | (simp [closedL, PV.closed]; done)) (.refl _) | refine Fin'.vb ?_ | refine Fin'.vi ?_ | refine Fin'.agg ?_)))
def pw (k : Nat) : Nat := 2 ^ k
theorem pw_le {k : Nat} (h : k ≤ 9) : pw k ≤ 512 := (show 2 ^ k ≤ 2 ^ 9 from Nat.pow_le_pow_right (by decide) h)
theorem pw_succ (k : Nat) : 2 * (pw k : Int) = (pw (k + 1) : Nat) := by
  have : pw (k + 1) = 2 * pw k := by unfold pw; rw [Nat.pow_succ]; omega
  omega
def setN (l : List Int) : Nat → Nat
  | 0 => 0
  | k + 1 => setN l k + if ((k : Int) + 1) ∈ l then pw k else 0
theorem setN_yes {l : List Int} {k : Nat} (h : ((k : Int) + 1) ∈ l) : setN l (k + 1) = setN l k + pw k := by rw [setN, if_pos h]
theorem setN_no {l : List Int} {k : Nat} (h : ¬ ((k : Int) + 1) ∈ l) : setN l (k + 1) = setN l k := by rw [setN, if_neg h]; rfl
theorem orN_bit (l : List Int) (k : Nat) (hk : k < 9) : (orN l).testBit k = decide (((k : Int) + 1) ∈ l) := by
  unfold orN
  have : ∀ (l : List Int) (m : Nat), (l.foldl (fun m r => if replB r then m ||| 2 ^ (r - 1).toNat else m) m).testBit k = (m.testBit k || decide (((k : Int) + 1) ∈ l)) := by
    intro l
    induction l with
    | nil => intro m; simp
    | cons r l ih =>
      intro m
      rw [List.foldl_cons, ih]
      by_cases hr : replB r = true
      · have h1 := replB_iff.1 hr
        rw [if_pos hr, Nat.testBit_or, Nat.testBit_two_pow, Bool.or_assoc]
        congr 1
        rw [Bool.eq_iff_iff]
        simp only [Bool.or_eq_true, decide_eq_true_eq, List.mem_cons]
        constructor
        · rintro (h | h)
          · left; omega
          · exact .inr h
        · rintro (h | h)
          · left; omega
          · exact .inr h
      · rw [if_neg hr]
        congr 1
        rw [decide_eq_decide, List.mem_cons]
        constructor
        · exact .inr
        · rintro (h | h)
          · exact absurd (replB_iff.2 (by omega)) hr
          · exact h
  rw [this]
  simp
theorem setN_eq (l : List Int) : ∀ k, k ≤ 9 → setN l k = orN l % 2 ^ k
  | 0, _ => by simp [setN, Nat.mod_one]
  | k + 1, h => by
    have hb := orN_bit l k (by omega)
    rw [Nat.testBit_eq_decide_div_mod_eq, decide_eq_decide] at hb
    rw [setN, setN_eq l k (by omega), Nat.mod_pow_succ]
    congr 1
    unfold pw
    split
    · rw [hb.2 ‹_›, Nat.mul_one]
    · rw [show orN l / 2 ^ k % 2 = 0 from by
        have : ¬ orN l / 2 ^ k % 2 = 1 := fun e => ‹¬ _› (hb.1 e)
        omega, Nat.mul_zero]
theorem setN_nine (l : List Int) : setN l 9 = orN l := by
  rw [setN_eq l 9 (by omega)]
  exact Nat.mod_eq_of_lt (orN_lt l)
theorem setN_lt (l : List Int) (k : Nat) (h : k ≤ 9) : setN l k < 512 := by
  rw [setN_eq l k h]
  exact Nat.lt_of_le_of_lt (Nat.mod_le _ _) (orN_lt l)
end Go.Proofs.Ytlicjlahnbebcaa
