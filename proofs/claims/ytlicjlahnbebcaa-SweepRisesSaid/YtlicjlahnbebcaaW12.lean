/- Layer 18: awake; the law SweepTells, walked. -/
import Derived.Test.YtlicjlahnbebcaaW11
namespace Go.Proofs.Ytlicjlahnbebcaa
open Go.RowKit
set_option linter.unusedSimpArgs false
set_option linter.unusedVariables false
set_option maxRecDepth 100000
set_option maxHeartbeats 1000000
def m18 : List (List Int) := [[5, 9, 7], [6, 8, 7], [4, 9, 9]]
def a18 : List (List Int) := [[5, 9, 7], [6, 10, 7], [4, 9, 9]]
abbrev mL18 : PV := .sl 1 [[.sl 1 [[PV.int 5], [PV.int 9], [PV.int 7]]], [.sl 1 [[PV.int 6], [PV.int 8], [PV.int 7]]], [.sl 1 [[PV.int 4], [PV.int 9], [PV.int 9]]]]
abbrev iL3 (a b c : Int) : PV := .sl 1 [[PV.int a], [PV.int b], [PV.int c]]
instance awake18_spec : HasSpec Try.prog 47 [] (.v (.bool true)) := by
  have j1 : HasSpec Try.prog 48 [mL18, PV.int 3, PV.int 2, iL3 1 10 7] (.tup [PV.tab a18, PV.int 0]) := by
    have h := tell_spec m18 3 2 [1, 10, 7]
    rwa [show tellT m18 3 2 [1, 10, 7] = a18 by decide, show tellOk m18 3 2 [1, 10, 7] = true by decide] at h
  have j2 : HasSpec Try.prog 52 [PV.int 3] (.tup [PV.tab (newT 3), PV.int 0]) := newtab_spec 3
  have j3 : HasSpec Try.prog 50 [iL3 1 2 3, PV.int 3, PV.int 1, PV.int 5] (.tup [PV.ints [5, 2, 3], PV.int 0]) := by
    have h := front_spec [1, 2, 3] 3 1 5
    rwa [show frontL [1, 2, 3] 3 1 5 = [5, 2, 3] by decide, show frontOk [1, 2, 3] 3 1 5 = true by decide] at h
  have j4 : HasSpec Try.prog 48 [mL18, PV.int 3, PV.int 4, iL3 1 1 1] (.tup [PV.tab [], PV.int 2]) := by
    have h := tell_spec m18 3 4 [1, 1, 1]
    rwa [show tellT m18 3 4 [1, 1, 1] = [] by decide, show tellOk m18 3 4 [1, 1, 1] = false by decide] at h
  have j5 : HasSpec Try.prog 57 [mL18, PV.int 3, PV.int 1] (PV.int 4) := by
    have h := floor_spec m18 3 1
    rwa [show floorT m18 3 1 = 4 by decide] at h
  have j6 : HasSpec Try.prog 57 [mL18, PV.int 3, PV.int 2] (PV.int 8) := by
    have h := floor_spec m18 3 2
    rwa [show floorT m18 3 2 = 8 by decide] at h
  have j7 : HasSpec Try.prog 57 [PV.tab (newT 3), PV.int 3, PV.int 1] (PV.int 0) := by
    have h := floor_spec (newT 3) 3 1
    rwa [show floorT (newT 3) 3 1 = 0 by decide] at h
  have j8 : HasSpec Try.prog 59 [PV.tab a18, PV.int 3, PV.int 2] (PV.ints [6, 10, 7]) := by
    have h := tabrow_spec a18 3 2
    rwa [show rowT a18 3 2 = [6, 10, 7] by decide] at h
  have j9 : HasSpec Try.prog 42 [PV.ints [6, 10, 7], iL3 6 10 7] (.v (.bool true)) := refsame_spec [6, 10, 7] [6, 10, 7]
  have j10 : HasSpec Try.prog 42 [PV.ints [5, 2, 3], iL3 5 2 3] (.v (.bool true)) := refsame_spec [5, 2, 3] [5, 2, 3]
  have j11 : HasSpec Try.prog 54 [mL18, PV.int 3] (PV.int 0) := by
    have h := tabcheck_spec m18 3
    rwa [show tableB m18 3 = true by decide] at h
  have j12 : HasSpec Try.prog 54 [mL18, PV.int 4] (PV.int 2) := by
    have h := tabcheck_spec m18 4
    rwa [show tableB m18 4 = false by decide] at h
  have j13 : HasSpec Try.prog 61 [mL18, mL18] (.v (.bool true)) := by
    have h := sweepsame_spec m18 m18
    rwa [show decide (m18 = m18) = true by decide] at h
  have j14 : HasSpec Try.prog 61 [mL18, PV.tab a18] (.v (.bool false)) := by
    have h := sweepsame_spec m18 a18
    rwa [show decide (m18 = a18) = false by decide] at h
  refine ⟨?_⟩; refine Spec.ofR (h := fun F w0 => ?_)
  repeat' ((conv => whnf); first | refine Stk.yes ?_ | refine Stk.ld rfl ?_ | refine Stk.no ?_ | refine Stk.is (by first | assumption | ((try simp only [lE]); first | done | assumption | omega)) ?_ | refine Stk.isnt (by first | assumption | ((try simp only [lE]); first | done | assumption | omega)) ?_ | (refine Stk.both (fun hb => ?_) (fun hb => ?_) <;> (try simp only [lE] at hb)) | refine Stk.wrap (by omega) (by omega) ?_ | refine Stk.wrapU (by omega) (by omega) ?_ | refine Stk.cutT (by omega) ?_ | refine Stk.cutD (by omega) ?_ | refine Stk.eqsE [_, _] [_, _] rfl rfl rfl rfl ?_ | refine Stk.eqsN [_, _] [_, _] rfl rfl rfl rfl ?_ | refine Stk.eqsE [_, _, _] [_, _, _] rfl rfl rfl rfl ?_ | refine Stk.eqsN [_, _, _] [_, _, _] rfl rfl rfl rfl ?_ | refine Stk.eqsE [_, _, _, _, _, _] [_, _, _, _, _, _] rfl rfl rfl rfl ?_ | refine Stk.eqsN [_, _, _, _, _, _] [_, _, _, _, _, _] rfl rfl rfl rfl ?_ | refine Stk.len ?_ | refine Stk.ixN (by omega) ?_ | refine Stk.ixI (by omega) (by omega) ?_ | refine Stk.ix _ (by decide) rfl ?_ | refine Stk.quo (by omega) (by omega) (by omega) ?_ | refine Stk.rem (by omega) (by omega) ?_ | refine Stk.need (by first | kernel_rfl | omega) ?_ | refine Stk.ar _ (by omega) (by omega) rfl ?_ | refine Stk.call (h := ?_) | refine Stk.callO (h := ?_) | refine Stk.divA (by decide) ?_ | refine Stk.lenA ?_ | refine Stk.wrapA ?_); all_goals (conv => whnf)
  ((refine FinK.of (h := ?_)); (repeat' (first | exact FinL.nil | refine FinL.cons ?_ ?_ | refine Fin'.tup ?_ | exact Fin'.row rfl (by first | rfl | exact all_map_closed (fun _ => rfl) _ | (rw [List.all_append, all_map_closed (fun _ => rfl)]; rfl) | (simp [closedL, PV.closed]; done)) | exact Fin'.sub rfl (.refl _) | exact Fin'.sub rfl (.nil _) | exact Fin'.sub (by first | rfl | exact all_map_closed (fun _ => rfl) _ | (rw [List.all_append, all_map_closed (fun _ => rfl)]; rfl) | (simp [closedL, PV.closed]; done)) (.refl _) | refine Fin'.vb ?_ | refine Fin'.vi ?_ | refine Fin'.agg ?_)))
structure Told18 where
  fr : Int
  marks : List Int
  t : Int
def Told18.cs (x : Told18) : List PV := [PV.int x.fr, PV.ints x.marks, PV.int x.t]
theorem dec_self {α : Type} [DecidableEq α] (a : α) : decide (a = a) = true := decide_eq_true rfl
theorem sweepTells_spec (m : List (List Int)) (n : Int) (x : Told18) : HasSpec Try.prog 10 [PV.tab m, PV.int n, .agg x.cs] (.v (.bool true)) := by
  cases hf : fewT m with
  | false =>
    have jf := few18_spec m
    rw [hf] at jf
    refine ⟨?_⟩; refine Spec.ofR (h := fun F w0 => ?_)
    repeat' ((conv => whnf); first | refine Stk.yes ?_ | refine Stk.ld rfl ?_ | refine Stk.no ?_ | refine Stk.is (by first | assumption | ((try simp only [lE]); first | done | assumption | omega)) ?_ | refine Stk.isnt (by first | assumption | ((try simp only [lE]); first | done | assumption | omega)) ?_ | (refine Stk.both (fun hb => ?_) (fun hb => ?_) <;> (try simp only [lE] at hb)) | refine Stk.wrap (by omega) (by omega) ?_ | refine Stk.wrapU (by omega) (by omega) ?_ | refine Stk.cutT (by omega) ?_ | refine Stk.cutD (by omega) ?_ | refine Stk.eqsE [_, _] [_, _] rfl rfl rfl rfl ?_ | refine Stk.eqsN [_, _] [_, _] rfl rfl rfl rfl ?_ | refine Stk.eqsE [_, _, _] [_, _, _] rfl rfl rfl rfl ?_ | refine Stk.eqsN [_, _, _] [_, _, _] rfl rfl rfl rfl ?_ | refine Stk.eqsE [_, _, _, _, _, _] [_, _, _, _, _, _] rfl rfl rfl rfl ?_ | refine Stk.eqsN [_, _, _, _, _, _] [_, _, _, _, _, _] rfl rfl rfl rfl ?_ | refine Stk.len ?_ | refine Stk.ixN (by omega) ?_ | refine Stk.ixI (by omega) (by omega) ?_ | refine Stk.ix _ (by decide) rfl ?_ | refine Stk.quo (by omega) (by omega) (by omega) ?_ | refine Stk.rem (by omega) (by omega) ?_ | refine Stk.need (by first | kernel_rfl | omega) ?_ | refine Stk.ar _ (by omega) (by omega) rfl ?_ | refine Stk.call (h := ?_) | refine Stk.callO (h := ?_) | refine Stk.divA (by decide) ?_ | refine Stk.lenA ?_ | refine Stk.wrapA ?_); all_goals (conv => whnf)
    ((refine FinK.of (h := ?_)); (repeat' (first | exact FinL.nil | refine FinL.cons ?_ ?_ | refine Fin'.tup ?_ | exact Fin'.row rfl (by first | rfl | exact all_map_closed (fun _ => rfl) _ | (rw [List.all_append, all_map_closed (fun _ => rfl)]; rfl) | (simp [closedL, PV.closed]; done)) | exact Fin'.sub rfl (.refl _) | exact Fin'.sub rfl (.nil _) | exact Fin'.sub (by first | rfl | exact all_map_closed (fun _ => rfl) _ | (rw [List.all_append, all_map_closed (fun _ => rfl)]; rfl) | (simp [closedL, PV.closed]; done)) (.refl _) | refine Fin'.vb ?_ | refine Fin'.vi ?_ | refine Fin'.agg ?_)))
  | true =>
    have jf := few18_spec m
    rw [hf] at jf
    by_cases hl : x.marks.length ≤ 20
    · obtain ⟨fr, marks, t⟩ := x
      dsimp only at hl
      have js1 := refsame18_spec (tellT m n fr marks) (tellT m n fr marks)
      have js2 := refsame_spec (frontL marks n fr t) (frontL marks n fr t)
      have js3 := refsame18_spec (newT n) (newT n)
      have js4 := refsame_spec (rowT m n fr) (rowT m n fr)
      rw [dec_self] at js1 js2 js3 js4
      refine ⟨?_⟩; refine Spec.ofR (h := fun F w0 => ?_)
      repeat' ((conv => whnf); first | refine Stk.yes ?_ | refine Stk.ld rfl ?_ | refine Stk.no ?_ | refine Stk.is (by first | assumption | ((try simp only [lE]); first | done | assumption | omega)) ?_ | refine Stk.isnt (by first | assumption | ((try simp only [lE]); first | done | assumption | omega)) ?_ | (refine Stk.both (fun hb => ?_) (fun hb => ?_) <;> (try simp only [lE] at hb)) | refine Stk.wrap (by omega) (by omega) ?_ | refine Stk.wrapU (by omega) (by omega) ?_ | refine Stk.cutT (by omega) ?_ | refine Stk.cutD (by omega) ?_ | refine Stk.eqsE [_, _] [_, _] rfl rfl rfl rfl ?_ | refine Stk.eqsN [_, _] [_, _] rfl rfl rfl rfl ?_ | refine Stk.eqsE [_, _, _] [_, _, _] rfl rfl rfl rfl ?_ | refine Stk.eqsN [_, _, _] [_, _, _] rfl rfl rfl rfl ?_ | refine Stk.eqsE [_, _, _, _, _, _] [_, _, _, _, _, _] rfl rfl rfl rfl ?_ | refine Stk.eqsN [_, _, _, _, _, _] [_, _, _, _, _, _] rfl rfl rfl rfl ?_ | refine Stk.len ?_ | refine Stk.ixN (by omega) ?_ | refine Stk.ixI (by omega) (by omega) ?_ | refine Stk.ix _ (by decide) rfl ?_ | refine Stk.quo (by omega) (by omega) (by omega) ?_ | refine Stk.rem (by omega) (by omega) ?_ | refine Stk.need (by first | kernel_rfl | omega) ?_ | refine Stk.ar _ (by omega) (by omega) rfl ?_ | refine Stk.call (h := ?_) | refine Stk.callO (h := ?_) | refine Stk.divA (by decide) ?_ | refine Stk.lenA ?_ | refine Stk.wrapA ?_); all_goals (conv => whnf)
      all_goals ((refine FinK.of (h := ?_)); (repeat' (first | exact FinL.nil | refine FinL.cons ?_ ?_ | refine Fin'.tup ?_ | exact Fin'.row rfl (by first | rfl | exact all_map_closed (fun _ => rfl) _ | (rw [List.all_append, all_map_closed (fun _ => rfl)]; rfl) | (simp [closedL, PV.closed]; done)) | exact Fin'.sub rfl (.refl _) | exact Fin'.sub rfl (.nil _) | exact Fin'.sub (by first | rfl | exact all_map_closed (fun _ => rfl) _ | (rw [List.all_append, all_map_closed (fun _ => rfl)]; rfl) | (simp [closedL, PV.closed]; done)) (.refl _) | refine Fin'.vb ?_ | refine Fin'.vi ?_ | refine Fin'.agg ?_)))
    · refine ⟨?_⟩; refine Spec.ofR (h := fun F w0 => ?_)
      repeat' ((conv => whnf); first | refine Stk.yes ?_ | refine Stk.ld rfl ?_ | refine Stk.no ?_ | refine Stk.is (by first | assumption | ((try simp only [lE]); first | done | assumption | omega)) ?_ | refine Stk.isnt (by first | assumption | ((try simp only [lE]); first | done | assumption | omega)) ?_ | (refine Stk.both (fun hb => ?_) (fun hb => ?_) <;> (try simp only [lE] at hb)) | refine Stk.wrap (by omega) (by omega) ?_ | refine Stk.wrapU (by omega) (by omega) ?_ | refine Stk.cutT (by omega) ?_ | refine Stk.cutD (by omega) ?_ | refine Stk.eqsE [_, _] [_, _] rfl rfl rfl rfl ?_ | refine Stk.eqsN [_, _] [_, _] rfl rfl rfl rfl ?_ | refine Stk.eqsE [_, _, _] [_, _, _] rfl rfl rfl rfl ?_ | refine Stk.eqsN [_, _, _] [_, _, _] rfl rfl rfl rfl ?_ | refine Stk.eqsE [_, _, _, _, _, _] [_, _, _, _, _, _] rfl rfl rfl rfl ?_ | refine Stk.eqsN [_, _, _, _, _, _] [_, _, _, _, _, _] rfl rfl rfl rfl ?_ | refine Stk.len ?_ | refine Stk.ixN (by omega) ?_ | refine Stk.ixI (by omega) (by omega) ?_ | refine Stk.ix _ (by decide) rfl ?_ | refine Stk.quo (by omega) (by omega) (by omega) ?_ | refine Stk.rem (by omega) (by omega) ?_ | refine Stk.need (by first | kernel_rfl | omega) ?_ | refine Stk.ar _ (by omega) (by omega) rfl ?_ | refine Stk.call (h := ?_) | refine Stk.callO (h := ?_) | refine Stk.divA (by decide) ?_ | refine Stk.lenA ?_ | refine Stk.wrapA ?_); all_goals (conv => whnf)
      ((refine FinK.of (h := ?_)); (repeat' (first | exact FinL.nil | refine FinL.cons ?_ ?_ | refine Fin'.tup ?_ | exact Fin'.row rfl (by first | rfl | exact all_map_closed (fun _ => rfl) _ | (rw [List.all_append, all_map_closed (fun _ => rfl)]; rfl) | (simp [closedL, PV.closed]; done)) | exact Fin'.sub rfl (.refl _) | exact Fin'.sub rfl (.nil _) | exact Fin'.sub (by first | rfl | exact all_map_closed (fun _ => rfl) _ | (rw [List.all_append, all_map_closed (fun _ => rfl)]; rfl) | (simp [closedL, PV.closed]; done)) (.refl _) | refine Fin'.vb ?_ | refine Fin'.vi ?_ | refine Fin'.agg ?_)))
end Go.Proofs.Ytlicjlahnbebcaa
