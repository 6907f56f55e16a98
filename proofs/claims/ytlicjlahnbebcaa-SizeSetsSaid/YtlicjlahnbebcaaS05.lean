/- Layer 1: the document's ring, and whether two lists are the same. -/
import Derived.Test.YtlicjlahnbebcaaS04b
namespace Go.Proofs.Ytlicjlahnbebcaa
open Go.RowKit
set_option maxRecDepth 100000
set_option maxHeartbeats 1000000
theorem ringS_out {n f self : Int} (h : self < 1 ∨ n < self) : ringS n f self = 0 := if_pos h
theorem ringS_no {n f self : Int} (h : sizeB n f = false) : ringS n f self = 0 := by
  unfold ringS
  split
  · rfl
  · rw [h]; rfl
theorem ringL_len (n self : Int) (k : Nat) : (ringL n self k).length = k := by unfold ringL; simp
instance refring_spec (n f self : Int) : HasSpec Try.prog 35 [PV.int n, PV.int f, PV.int self] (PV.int (ringS n f self)) := by
  have i1 := refsizes_spec n f
  cases hs : sizeB n f with
  | false =>
    simp only [hs, Bool.false_eq_true, if_false] at i1
    rw [ringS_no hs]
    refine ⟨?_⟩; refine Spec.ofR (h := fun F w0 => ?_)
    repeat' ((conv => whnf); first | refine Stk.yes ?_ | refine Stk.ld rfl ?_ | refine Stk.no ?_ | (refine Stk.both (fun hb => ?_) (fun hb => ?_) <;> (try simp only [lC] at hb) <;> (try (exfalso; omega))) | refine Stk.wrap (by omega) (by omega) ?_ | refine Stk.wrapU (by omega) (by omega) ?_ | refine Stk.len ?_ | refine Stk.ixN (by omega) ?_ | refine Stk.ixI (by omega) (by omega) ?_ | refine Stk.ix _ (by decide) rfl ?_ | refine Stk.quo (by omega) (by omega) (by omega) ?_ | refine Stk.rem (by omega) (by omega) ?_ | refine Stk.need (by first | kernel_rfl | omega) ?_ | refine Stk.ar _ (by omega) (by omega) rfl ?_ | refine Stk.call (h := ?_) | refine Stk.callO (h := ?_) | refine Stk.divA (by decide) ?_ | refine Stk.lenA ?_ | refine Stk.wrapA ?_); all_goals (conv => whnf)
    all_goals ((refine FinK.of (h := ?_)); repeat' (first | exact FinL.nil | refine FinL.cons ?_ ?_ | refine Fin'.tup ?_ | exact Fin'.row rfl (by first | rfl | exact all_map_closed (fun _ => rfl) _ | (simp [closedL, PV.closed]; done)) | exact Fin'.sub rfl (.refl _) | exact Fin'.sub rfl (.nil _) | refine Fin'.vb ?_ | refine Fin'.vi ?_ | refine Fin'.agg ?_))
  | true =>
    simp only [hs, if_true] at i1
    have hs1 := sizeB_iff.1 hs
    obtain ⟨kk, hk⟩ : ∃ k : Nat, n / 2 + f = k := Int.eq_ofNat_of_zero_le (by omega)
    rw [hk] at i1
    refine ⟨?_⟩; refine Spec.ofR (h := fun F w0 => ?_)
    repeat' ((conv => whnf); first | refine Stk.yes ?_ | refine Stk.ld rfl ?_ | refine Stk.no ?_ | (refine Stk.both (fun hb => ?_) (fun hb => ?_) <;> (try simp only [lC] at hb) <;> (try (exfalso; omega))) | refine Stk.wrap (by omega) (by omega) ?_ | refine Stk.wrapU (by omega) (by omega) ?_ | refine Stk.len ?_ | refine Stk.ixN (by omega) ?_ | refine Stk.ixI (by omega) (by omega) ?_ | refine Stk.ix _ (by decide) rfl ?_ | refine Stk.quo (by omega) (by omega) (by omega) ?_ | refine Stk.rem (by omega) (by omega) ?_ | refine Stk.need (by first | kernel_rfl | omega) ?_ | refine Stk.ar _ (by omega) (by omega) rfl ?_ | refine Stk.call (h := ?_) | refine Stk.callO (h := ?_) | refine Stk.divA (by decide) ?_ | refine Stk.lenA ?_ | refine Stk.wrapA ?_); all_goals (conv => whnf)
    · rw [ringS_out (by omega)]
      (refine FinK.of (h := ?_)); repeat' (first | exact FinL.nil | refine FinL.cons ?_ ?_ | refine Fin'.tup ?_ | exact Fin'.row rfl (by first | rfl | exact all_map_closed (fun _ => rfl) _ | (simp [closedL, PV.closed]; done)) | exact Fin'.sub rfl (.refl _) | exact Fin'.sub rfl (.nil _) | refine Fin'.vb ?_ | refine Fin'.vi ?_ | refine Fin'.agg ?_)
    · rw [ringS_out (by omega)]
      (refine FinK.of (h := ?_)); repeat' (first | exact FinL.nil | refine FinL.cons ?_ ?_ | refine Fin'.tup ?_ | exact Fin'.row rfl (by first | rfl | exact all_map_closed (fun _ => rfl) _ | (simp [closedL, PV.closed]; done)) | exact Fin'.sub rfl (.refl _) | exact Fin'.sub rfl (.nil _) | refine Fin'.vb ?_ | refine Fin'.vi ?_ | refine Fin'.agg ?_)
    · have hres : ringS n f self = orN (ringL n self kk) := by unfold ringS; rw [if_neg (by omega), hs, if_pos rfl, hk]; rfl
      refine Stk.loop (ι := Nat × Nat) (fun i => [(0, PV.int n), (2, PV.int self), (7, PV.int kk), (10, .row 10 i.2), (11, PV.int i.1)]) (fun i => [(10, .row 3 1 i.2 ((ringL n self i.1).map ics))]) (fun i => i.1 ≤ kk) (fun i => kk - i.1) (0, 0) (Nat.zero_le _) (Weak.trans (Weak.nilrow (t := 10) (id := 10) (rt := 3) (sz := 1) rfl rfl) (Weak.to ⟨rfl, rfl, rfl, rfl, rfl, trivial⟩ ⟨rfl, trivial⟩ rfl)) (fun ⟨i, ver⟩ hi => ?_)
      have hm0 := Int.emod_nonneg (self - 1 + (i : Int)) (show n ≠ 0 by omega)
      have hm1 := Int.emod_lt_of_pos (self - 1 + (i : Int)) (show 0 < n by omega)
      have hll := ringL_len n self i
      simp only at hi
      dsimp only
      repeat' ((conv => whnf); first | refine Stk.yes ?_ | refine Stk.ld rfl ?_ | refine Stk.no ?_ | (refine Stk.both (fun hb => ?_) (fun hb => ?_) <;> (try simp only [lC] at hb) <;> (try (exfalso; omega))) | refine Stk.wrap (by omega) (by omega) ?_ | refine Stk.wrapU (by omega) (by omega) ?_ | refine Stk.len ?_ | refine Stk.ixN (by omega) ?_ | refine Stk.ixI (by omega) (by omega) ?_ | refine Stk.ix _ (by decide) rfl ?_ | refine Stk.quo (by omega) (by omega) (by omega) ?_ | refine Stk.rem (by omega) (by omega) ?_ | refine Stk.need (by first | kernel_rfl | omega) ?_ | refine Stk.ar _ (by omega) (by omega) rfl ?_ | refine Stk.call (h := ?_) | refine Stk.callO (h := ?_) | refine Stk.divA (by decide) ?_ | refine Stk.lenA ?_ | refine Stk.wrapA ?_); all_goals (conv => whnf)
      · (refine Stk.app rfl (eff_append rfl rfl rfl rfl (by decide) (by simp [maxLen, -Nat.not_le] <;> omega) (by simp <;> omega) rfl) ?_)
        repeat' ((conv => whnf); first | refine Stk.yes ?_ | refine Stk.ld rfl ?_ | refine Stk.no ?_ | (refine Stk.both (fun hb => ?_) (fun hb => ?_) <;> (try simp only [lC] at hb) <;> (try (exfalso; omega))) | refine Stk.wrap (by omega) (by omega) ?_ | refine Stk.wrapU (by omega) (by omega) ?_ | refine Stk.len ?_ | refine Stk.ixN (by omega) ?_ | refine Stk.ixI (by omega) (by omega) ?_ | refine Stk.ix _ (by decide) rfl ?_ | refine Stk.quo (by omega) (by omega) (by omega) ?_ | refine Stk.rem (by omega) (by omega) ?_ | refine Stk.need (by first | kernel_rfl | omega) ?_ | refine Stk.ar _ (by omega) (by omega) rfl ?_ | refine Stk.call (h := ?_) | refine Stk.callO (h := ?_) | refine Stk.divA (by decide) ?_ | refine Stk.lenA ?_ | refine Stk.wrapA ?_); all_goals (conv => whnf)
        refine ⟨(i + 1, ver + 1), by simp; omega, by simp; omega, ?_⟩
        rw [ringL_succ, List.map_append]
        exact Weak.to ⟨rfl, rfl, rfl, rfl, rfl, trivial⟩ ⟨rfl, trivial⟩ rfl
      · obtain rfl : i = kk := by omega
        refine Stk.weakC (Weak.frz (id := 10) (env' := [(45, PV.ints (ringL n self i))]) (lh' := []) rfl (all_map_closed (fun _ => rfl) _) ⟨.inr ⟨rfl, rfl⟩, trivial⟩ trivial rfl) ?_
        repeat' ((conv => whnf); first | refine Stk.yes ?_ | refine Stk.ld rfl ?_ | refine Stk.no ?_ | (refine Stk.both (fun hb => ?_) (fun hb => ?_) <;> (try simp only [lC] at hb) <;> (try (exfalso; omega))) | refine Stk.wrap (by omega) (by omega) ?_ | refine Stk.wrapU (by omega) (by omega) ?_ | refine Stk.len ?_ | refine Stk.ixN (by omega) ?_ | refine Stk.ixI (by omega) (by omega) ?_ | refine Stk.ix _ (by decide) rfl ?_ | refine Stk.quo (by omega) (by omega) (by omega) ?_ | refine Stk.rem (by omega) (by omega) ?_ | refine Stk.need (by first | kernel_rfl | omega) ?_ | refine Stk.ar _ (by omega) (by omega) rfl ?_ | refine Stk.call (h := ?_) | refine Stk.callO (h := ?_) | refine Stk.divA (by decide) ?_ | refine Stk.lenA ?_ | refine Stk.wrapA ?_); all_goals (conv => whnf)
        (refine FinK.of (h := ?_)); repeat' (first | exact FinL.nil | refine FinL.cons ?_ ?_ | refine Fin'.tup ?_ | exact Fin'.row rfl (by first | rfl | exact all_map_closed (fun _ => rfl) _ | (simp [closedL, PV.closed]; done)) | exact Fin'.sub rfl (.refl _) | exact Fin'.sub rfl (.nil _) | refine Fin'.vb ?_ | refine Fin'.vi ?_ | refine Fin'.agg ?_)
        exact hres.symm
theorem take_eq_step {a b : List Int} {i : Nat} (h : a.take i = b.take i) (ha : i < a.length) (hb : i < b.length) (e : a[i] = b[i]) : a.take (i + 1) = b.take (i + 1) := by
  rw [take_snoc' a i ha, take_snoc' b i hb, h, e]
instance refsame_spec (a b : List Int) : HasSpec Try.prog 42 [PV.ints a, PV.ints b] (.v (.bool (decide (a = b)))) := by
  refine ⟨Spec.bound 0 rfl fun hl => ?_⟩; rw [List.length_map] at hl; refine Spec.ofR (h := fun F w0 => ?_)
  repeat' ((conv => whnf); first | refine Stk.yes ?_ | refine Stk.ld rfl ?_ | refine Stk.no ?_ | (refine Stk.both (fun hb => ?_) (fun hb => ?_) <;> (try simp only [lC] at hb) <;> (try (exfalso; omega))) | refine Stk.wrap (by omega) (by omega) ?_ | refine Stk.wrapU (by omega) (by omega) ?_ | refine Stk.len ?_ | refine Stk.ixN (by omega) ?_ | refine Stk.ixI (by omega) (by omega) ?_ | refine Stk.ix _ (by decide) rfl ?_ | refine Stk.quo (by omega) (by omega) (by omega) ?_ | refine Stk.rem (by omega) (by omega) ?_ | refine Stk.need (by first | kernel_rfl | omega) ?_ | refine Stk.ar _ (by omega) (by omega) rfl ?_ | refine Stk.call (h := ?_) | refine Stk.callO (h := ?_) | refine Stk.divA (by decide) ?_ | refine Stk.lenA ?_ | refine Stk.wrapA ?_); all_goals (conv => whnf)
  · have hne : decide (a = b) = false := decide_eq_false (fun e => ‹¬ _› (by rw [e]))
    rw [hne]
    (refine FinK.of (h := ?_)); repeat' (first | exact FinL.nil | refine FinL.cons ?_ ?_ | refine Fin'.tup ?_ | exact Fin'.row rfl (by first | rfl | exact all_map_closed (fun _ => rfl) _ | (simp [closedL, PV.closed]; done)) | exact Fin'.sub rfl (.refl _) | exact Fin'.sub rfl (.nil _) | refine Fin'.vb ?_ | refine Fin'.vi ?_ | refine Fin'.agg ?_)
  · refine Stk.loop (ι := Nat) (fun i => [(0, PV.ints a), (1, PV.ints b), (5, PV.int (i : Nat))]) (fun _ => []) (fun i => i ≤ a.length ∧ a.take i = b.take i) (fun i => a.length - i) 0 ⟨Nat.zero_le _, by simp⟩ (Weak.to ⟨rfl, rfl, rfl, trivial⟩ trivial rfl) (fun i hi => ?_)
    obtain ⟨hi, he⟩ := hi
    have hlb : a.length = b.length := by omega
    repeat' ((conv => whnf); first | refine Stk.yes ?_ | refine Stk.ld rfl ?_ | refine Stk.no ?_ | (refine Stk.both (fun hb => ?_) (fun hb => ?_) <;> (try simp only [lC] at hb) <;> (try (exfalso; omega))) | refine Stk.wrap (by omega) (by omega) ?_ | refine Stk.wrapU (by omega) (by omega) ?_ | refine Stk.len ?_ | refine Stk.ixN (by omega) ?_ | refine Stk.ixI (by omega) (by omega) ?_ | refine Stk.ix _ (by decide) rfl ?_ | refine Stk.quo (by omega) (by omega) (by omega) ?_ | refine Stk.rem (by omega) (by omega) ?_ | refine Stk.need (by first | kernel_rfl | omega) ?_ | refine Stk.ar _ (by omega) (by omega) rfl ?_ | refine Stk.call (h := ?_) | refine Stk.callO (h := ?_) | refine Stk.divA (by decide) ?_ | refine Stk.lenA ?_ | refine Stk.wrapA ?_); all_goals (conv => whnf)
    · have hne : decide (a = b) = false := decide_eq_false (fun e => ‹¬a[i] = b[i]› (by subst e; rfl))
      rw [hne]
      (refine FinK.of (h := ?_)); repeat' (first | exact FinL.nil | refine FinL.cons ?_ ?_ | refine Fin'.tup ?_ | exact Fin'.row rfl (by first | rfl | exact all_map_closed (fun _ => rfl) _ | (simp [closedL, PV.closed]; done)) | exact Fin'.sub rfl (.refl _) | exact Fin'.sub rfl (.nil _) | refine Fin'.vb ?_ | refine Fin'.vi ?_ | refine Fin'.agg ?_)
    · exact ⟨i + 1, ⟨by omega, take_eq_step he (by omega) (by omega) ‹_›⟩, by omega, Weak.to ⟨rfl, rfl, rfl, trivial⟩ trivial rfl⟩
    · rw [List.take_of_length_le (by omega), List.take_of_length_le (by omega)] at he
      rw [decide_eq_true he]
      (refine FinK.of (h := ?_)); repeat' (first | exact FinL.nil | refine FinL.cons ?_ ?_ | refine Fin'.tup ?_ | exact Fin'.row rfl (by first | rfl | exact all_map_closed (fun _ => rfl) _ | (simp [closedL, PV.closed]; done)) | exact Fin'.sub rfl (.refl _) | exact Fin'.sub rfl (.nil _) | refine Fin'.vb ?_ | refine Fin'.vi ?_ | refine Fin'.agg ?_)
end Go.Proofs.Ytlicjlahnbebcaa
