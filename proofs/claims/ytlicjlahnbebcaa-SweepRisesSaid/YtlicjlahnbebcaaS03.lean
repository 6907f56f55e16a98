/- Layer 1: a replica's fast quorum. -/
import Derived.Test.YtlicjlahnbebcaaS02
import Derived.Test.YtlicjlahnbebcaaPB
namespace Go.Proofs.Ytlicjlahnbebcaa
set_option linter.unusedSimpArgs false
set_option linter.unusedVariables false
set_option linter.unusedSectionVars false
open Go.RowKit
set_option maxRecDepth 100000
set_option maxHeartbeats 1000000
/-- Who is at place i behind self, round the n. -/
def ringL (n self : Int) (k : Nat) : List Int := (List.range k).map fun (i : Nat) => (self - 1 + (i : Int)) % n + 1
def ringS (n f self : Int) : Int := if self < 1 ∨ n < self then 0 else orN (ringL n self (if sizeB n f then (n / 2 + f).toNat else 0))
theorem ringL_succ (n self : Int) (k : Nat) : ringL n self (k + 1) = ringL n self k ++ [(self - 1 + (k : Int)) % n + 1] := by
  unfold ringL
  rw [List.range_succ, List.map_append]
  rfl
instance ring_spec (n f self : Int) : HasSpec Try.prog 34 [PV.int n, PV.int f, PV.int self] (PV.int (ringS n f self)) := by
  refine ⟨?_⟩; refine Spec.ofR (h := fun F w0 => ?_)
  repeat' ((conv => whnf); first | refine Stk.yes ?_ | refine Stk.ld rfl ?_ | refine Stk.no ?_ | (refine Stk.both (fun hb => ?_) (fun hb => ?_) <;> (try simp only [lC] at hb) <;> (try (exfalso; omega))) | refine Stk.wrap (by omega) (by omega) ?_ | refine Stk.wrapU (by omega) (by omega) ?_ | refine Stk.cutT (by omega) ?_ | refine Stk.cutD (by omega) ?_ | refine Stk.eqsE [_, _] [_, _] rfl rfl rfl rfl ?_ | refine Stk.eqsN [_, _] [_, _] rfl rfl rfl rfl ?_ | refine Stk.eqsE [_, _, _] [_, _, _] rfl rfl rfl rfl ?_ | refine Stk.eqsN [_, _, _] [_, _, _] rfl rfl rfl rfl ?_ | refine Stk.eqsE [_, _, _, _, _, _] [_, _, _, _, _, _] rfl rfl rfl rfl ?_ | refine Stk.eqsN [_, _, _, _, _, _] [_, _, _, _, _, _] rfl rfl rfl rfl ?_ | refine Stk.len ?_ | refine Stk.ixN (by omega) ?_ | refine Stk.ixI (by omega) (by omega) ?_ | refine Stk.ix _ (by decide) rfl ?_ | refine Stk.quo (by omega) (by omega) (by omega) ?_ | refine Stk.rem (by omega) (by omega) ?_ | refine Stk.need (by first | kernel_rfl | omega) ?_ | refine Stk.ar _ (by omega) (by omega) rfl ?_ | refine Stk.call (h := ?_) | refine Stk.callO (h := ?_) | refine Stk.divA (by decide) ?_ | refine Stk.lenA ?_ | refine Stk.wrapA ?_); all_goals (conv => whnf)
  · ((refine FinK.of (h := ?_)); (repeat' (first | exact FinL.nil | refine FinL.cons ?_ ?_ | refine Fin'.tup ?_ | exact Fin'.row rfl (by first | rfl | exact all_map_closed (fun _ => rfl) _ | (rw [List.all_append, all_map_closed (fun _ => rfl)]; rfl) | (simp [closedL, PV.closed]; done)) | exact Fin'.sub rfl (.refl _) | exact Fin'.sub rfl (.nil _) | exact Fin'.sub (by first | rfl | exact all_map_closed (fun _ => rfl) _ | (rw [List.all_append, all_map_closed (fun _ => rfl)]; rfl) | (simp [closedL, PV.closed]; done)) (.refl _) | refine Fin'.vb ?_ | refine Fin'.vi ?_ | refine Fin'.agg ?_)))
    unfold ringS
    rw [if_pos (by omega)]
  · ((refine FinK.of (h := ?_)); (repeat' (first | exact FinL.nil | refine FinL.cons ?_ ?_ | refine Fin'.tup ?_ | exact Fin'.row rfl (by first | rfl | exact all_map_closed (fun _ => rfl) _ | (rw [List.all_append, all_map_closed (fun _ => rfl)]; rfl) | (simp [closedL, PV.closed]; done)) | exact Fin'.sub rfl (.refl _) | exact Fin'.sub rfl (.nil _) | exact Fin'.sub (by first | rfl | exact all_map_closed (fun _ => rfl) _ | (rw [List.all_append, all_map_closed (fun _ => rfl)]; rfl) | (simp [closedL, PV.closed]; done)) (.refl _) | refine Fin'.vb ?_ | refine Fin'.vi ?_ | refine Fin'.agg ?_)))
    unfold ringS
    rw [if_pos (by omega)]
  · refine Stk.inl (h := fun tm => ?_)
    repeat' ((conv => whnf); first | refine Stk.yes ?_ | refine Stk.ld rfl ?_ | refine Stk.no ?_ | (refine Stk.both (fun hb => ?_) (fun hb => ?_) <;> (try simp only [lC] at hb) <;> (try (exfalso; omega))) | refine Stk.wrap (by omega) (by omega) ?_ | refine Stk.wrapU (by omega) (by omega) ?_ | refine Stk.cutT (by omega) ?_ | refine Stk.cutD (by omega) ?_ | refine Stk.eqsE [_, _] [_, _] rfl rfl rfl rfl ?_ | refine Stk.eqsN [_, _] [_, _] rfl rfl rfl rfl ?_ | refine Stk.eqsE [_, _, _] [_, _, _] rfl rfl rfl rfl ?_ | refine Stk.eqsN [_, _, _] [_, _, _] rfl rfl rfl rfl ?_ | refine Stk.eqsE [_, _, _, _, _, _] [_, _, _, _, _, _] rfl rfl rfl rfl ?_ | refine Stk.eqsN [_, _, _, _, _, _] [_, _, _, _, _, _] rfl rfl rfl rfl ?_ | refine Stk.len ?_ | refine Stk.ixN (by omega) ?_ | refine Stk.ixI (by omega) (by omega) ?_ | refine Stk.ix _ (by decide) rfl ?_ | refine Stk.quo (by omega) (by omega) (by omega) ?_ | refine Stk.rem (by omega) (by omega) ?_ | refine Stk.need (by first | kernel_rfl | omega) ?_ | refine Stk.ar _ (by omega) (by omega) rfl ?_ | refine Stk.call (h := ?_) | refine Stk.callO (h := ?_) | refine Stk.divA (by decide) ?_ | refine Stk.lenA ?_ | refine Stk.wrapA ?_); all_goals (conv => whnf)
    have hn1 : max n 1 = n := by omega
    obtain ⟨kk, hk⟩ : ∃ k : Nat, (if sizeB n f then (n / 2 + f).toNat else 0) = k := ⟨_, rfl⟩
    have hK : (if sizeB n f = true then IntKind.i64.wrap (IntKind.i64.wrap (n.tdiv 2) + f) else 0) = (kk : Int) := by
      rw [← hk]
      split
      · have hs := sizeB_iff.1 ‹_›
        rw [Int.tdiv_eq_ediv_of_nonneg (by omega), i64_wrap (a := n / 2) (by omega) (by omega), i64_wrap (by omega) (by omega)]
        omega
      · rfl
    have hkb : 0 < kk → 3 ≤ n ∧ n ≤ 9 ∧ kk ≤ 8 := by
      intro h0
      rw [← hk] at h0 ⊢
      split at h0
      · have hs := sizeB_iff.1 ‹_›
        rw [if_pos ‹_›]
        omega
      · omega
    have hres : ringS n f self = orN (ringL n self kk) := by unfold ringS; rw [if_neg (by omega), hk]
    refine Stk.loop (ι := Nat) (fun i => [(28, PV.int kk), (29, PV.int (i : Nat)), (9, PV.int (orN (ringL n self i) : Nat)), (8, .fn (Fn.func 142) [] [.lp 5 0, .lp 2 0])]) (fun i => [(5, .box [PV.int ((self - 1 + (i : Int)) % n + 1)]), (2, .box [PV.int n])]) (fun i => i ≤ kk) (fun i => kk - i) 0 (Nat.zero_le _) ?_ (fun i hi => ?_)
    · have h0 : (self - 1 + ((0 : Nat) : Int)) % n + 1 = self := by
        rw [Int.emod_eq_of_lt (by omega) (by omega)]; omega
      rw [h0]
      exact Weak.to ⟨by rw [← hK]; rfl, rfl, rfl, rfl, trivial⟩ ⟨rfl, by show some (LB.box [PV.int (max n 1)]) = _; rw [hn1], trivial⟩ rfl
    · have hnn := Int.emod_nonneg (self - 1 + (i : Int)) (show n ≠ 0 by omega)
      have hnl := Int.emod_lt_of_pos (self - 1 + (i : Int)) (show 0 < n by omega)
      have hm0 := Int.emod_nonneg ((self - 1 + (i : Int)) % n + 1) (show n ≠ 0 by omega)
      have hm1 := Int.emod_lt_of_pos ((self - 1 + (i : Int)) % n + 1) (show 0 < n by omega)
      have hm2 : ((self - 1 + (i : Int)) % n + 1) % n = (self - 1 + ((i + 1 : Nat) : Int)) % n := by
        rw [Int.emod_add_emod]; congr 1; omega
      repeat' ((conv => whnf); first | refine Stk.yes ?_ | refine Stk.ld rfl ?_ | refine Stk.no ?_ | (refine Stk.both (fun hb => ?_) (fun hb => ?_) <;> (try simp only [lC] at hb) <;> (try (exfalso; omega))) | refine Stk.wrap (by omega) (by omega) ?_ | refine Stk.wrapU (by omega) (by omega) ?_ | refine Stk.cutT (by omega) ?_ | refine Stk.cutD (by omega) ?_ | refine Stk.eqsE [_, _] [_, _] rfl rfl rfl rfl ?_ | refine Stk.eqsN [_, _] [_, _] rfl rfl rfl rfl ?_ | refine Stk.eqsE [_, _, _] [_, _, _] rfl rfl rfl rfl ?_ | refine Stk.eqsN [_, _, _] [_, _, _] rfl rfl rfl rfl ?_ | refine Stk.eqsE [_, _, _, _, _, _] [_, _, _, _, _, _] rfl rfl rfl rfl ?_ | refine Stk.eqsN [_, _, _, _, _, _] [_, _, _, _, _, _] rfl rfl rfl rfl ?_ | refine Stk.len ?_ | refine Stk.ixN (by omega) ?_ | refine Stk.ixI (by omega) (by omega) ?_ | refine Stk.ix _ (by decide) rfl ?_ | refine Stk.quo (by omega) (by omega) (by omega) ?_ | refine Stk.rem (by omega) (by omega) ?_ | refine Stk.need (by first | kernel_rfl | omega) ?_ | refine Stk.ar _ (by omega) (by omega) rfl ?_ | refine Stk.call (h := ?_) | refine Stk.callO (h := ?_) | refine Stk.divA (by decide) ?_ | refine Stk.lenA ?_ | refine Stk.wrapA ?_); all_goals (conv => whnf)
      · have hb := hkb (by omega)
        refine Stk.inl (h := fun tm => ?_)
        repeat' ((conv => whnf); first | refine Stk.yes ?_ | refine Stk.ld rfl ?_ | refine Stk.no ?_ | (refine Stk.both (fun hb => ?_) (fun hb => ?_) <;> (try simp only [lC] at hb) <;> (try (exfalso; omega))) | refine Stk.wrap (by omega) (by omega) ?_ | refine Stk.wrapU (by omega) (by omega) ?_ | refine Stk.cutT (by omega) ?_ | refine Stk.cutD (by omega) ?_ | refine Stk.eqsE [_, _] [_, _] rfl rfl rfl rfl ?_ | refine Stk.eqsN [_, _] [_, _] rfl rfl rfl rfl ?_ | refine Stk.eqsE [_, _, _] [_, _, _] rfl rfl rfl rfl ?_ | refine Stk.eqsN [_, _, _] [_, _, _] rfl rfl rfl rfl ?_ | refine Stk.eqsE [_, _, _, _, _, _] [_, _, _, _, _, _] rfl rfl rfl rfl ?_ | refine Stk.eqsN [_, _, _, _, _, _] [_, _, _, _, _, _] rfl rfl rfl rfl ?_ | refine Stk.len ?_ | refine Stk.ixN (by omega) ?_ | refine Stk.ixI (by omega) (by omega) ?_ | refine Stk.ix _ (by decide) rfl ?_ | refine Stk.quo (by omega) (by omega) (by omega) ?_ | refine Stk.rem (by omega) (by omega) ?_ | refine Stk.need (by first | kernel_rfl | omega) ?_ | refine Stk.ar _ (by omega) (by omega) rfl ?_ | refine Stk.call (h := ?_) | refine Stk.callO (h := ?_) | refine Stk.divA (by decide) ?_ | refine Stk.lenA ?_ | refine Stk.wrapA ?_); all_goals (conv => whnf)
        refine ⟨i + 1, by omega, by omega, ?_⟩
        rw [or_more _ _ (by omega) (by omega), ← ringL_succ, hm2]
        exact Weak.to ⟨rfl, rfl, rfl, rfl, trivial⟩ ⟨rfl, rfl, trivial⟩ rfl
      · obtain rfl : i = kk := by omega
        rw [hres]
        ((refine FinK.of (h := ?_)); (repeat' (first | exact FinL.nil | refine FinL.cons ?_ ?_ | refine Fin'.tup ?_ | exact Fin'.row rfl (by first | rfl | exact all_map_closed (fun _ => rfl) _ | (rw [List.all_append, all_map_closed (fun _ => rfl)]; rfl) | (simp [closedL, PV.closed]; done)) | exact Fin'.sub rfl (.refl _) | exact Fin'.sub rfl (.nil _) | exact Fin'.sub (by first | rfl | exact all_map_closed (fun _ => rfl) _ | (rw [List.all_append, all_map_closed (fun _ => rfl)]; rfl) | (simp [closedL, PV.closed]; done)) (.refl _) | refine Fin'.vb ?_ | refine Fin'.vi ?_ | refine Fin'.agg ?_)))
end Go.Proofs.Ytlicjlahnbebcaa
