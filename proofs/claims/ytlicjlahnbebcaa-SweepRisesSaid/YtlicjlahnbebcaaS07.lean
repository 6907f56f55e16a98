/- Layer 1: the laws on rings and meetings. -/
import Derived.Test.YtlicjlahnbebcaaS06
namespace Go.Proofs.Ytlicjlahnbebcaa
set_option linter.unusedSimpArgs false
set_option linter.unusedVariables false
set_option linter.unusedSectionVars false
open Go.RowKit
set_option maxRecDepth 100000
set_option maxHeartbeats 1000000
def cntR (n f self : Int) (k : Nat) : Nat := ((List.range k).filter fun (i : Nat) => hasB (ringS n f ((i : Int) + 1)) self).length
theorem cntR_succ (n f self : Int) (k : Nat) : cntR n f self (k + 1) = cntR n f self k + if hasB (ringS n f ((k : Int) + 1)) self then 1 else 0 := by
  unfold cntR
  rw [List.range_succ, List.filter_append, List.length_append]
  congr 1
  rw [List.filter_cons, List.filter_nil]
  split <;> rfl
theorem cntR_le (n f self : Int) (k : Nat) : cntR n f self k ≤ k := by
  unfold cntR
  exact Nat.le_trans (List.length_filter_le _ _) (by simp)
def ringOK (n f s : Nat) : Bool := !(sizeB n f && Nat.ble 1 s && Nat.ble s n) || (hasB (ringS n f s) s && Nat.beq (listS (ringS n f s) 9).length (n / 2 + f) && Nat.beq (cntR n f s n) (n / 2 + f) && (List.range 10).all fun r => Nat.ble r n || !hasB (ringS n f s) r)
theorem ring_all : ((List.range 10).all fun n => (List.range 5).all fun f => (List.range 10).all fun s => ringOK n f s) = true := by decide +kernel
theorem ring_fin {n f s : Nat} (hn : n < 10) (hf : f < 5) (hs : s < 10) (h : sizeB n f = true) (h1 : 1 ≤ s) (h2 : s ≤ n) :
    hasB (ringS n f s) s = true ∧ (listS (ringS n f s) 9).length = n / 2 + f ∧ cntR n f s n = n / 2 + f ∧ ∀ r : Nat, r < 10 → n < r → hasB (ringS n f s) r = false := by
  have a := List.all_eq_true.1 (List.all_eq_true.1 (List.all_eq_true.1 ring_all n (List.mem_range.2 hn)) f (List.mem_range.2 hf)) s (List.mem_range.2 hs)
  unfold ringOK at a
  have e1 : Nat.ble 1 s = true := by rw [Nat.ble_eq]; exact h1
  have e2 : Nat.ble s n = true := by rw [Nat.ble_eq]; exact h2
  rw [h, e1, e2] at a
  simp only [Bool.and_self, Bool.not_true, Bool.false_or, Bool.and_eq_true] at a
  obtain ⟨⟨⟨a1, a2⟩, a3⟩, a4⟩ := a
  refine ⟨a1, Nat.eq_of_beq_eq_true a2, Nat.eq_of_beq_eq_true a3, fun r hr hnr => ?_⟩
  have b := List.all_eq_true.1 a4 r (List.mem_range.2 hr)
  rw [Bool.or_eq_true] at b
  rcases b with b | b
  · rw [Nat.ble_eq] at b; omega
  · simpa using b
theorem ring_facts {n f s : Int} (h : sizeB n f = true) (h1 : 1 ≤ s) (h2 : s ≤ n) :
    hasB (ringS n f s) s = true ∧ ((listS (ringS n f s) 9).length : Int) = n / 2 + f ∧ (cntR n f s n.toNat : Int) = n / 2 + f ∧ ∀ r : Int, n < r → r ≤ 9 → hasB (ringS n f s) r = false := by
  have hs := sizeB_iff.1 h
  obtain ⟨n, rfl⟩ := Int.eq_ofNat_of_zero_le (show 0 ≤ n by omega)
  obtain ⟨f, rfl⟩ := Int.eq_ofNat_of_zero_le (show 0 ≤ f by omega)
  obtain ⟨s, rfl⟩ := Int.eq_ofNat_of_zero_le (show 0 ≤ s by omega)
  obtain ⟨g1, g2, g3, g4⟩ := ring_fin (n := n) (f := f) (s := s) (by omega) (by omega) (by omega) h (by omega) (by omega)
  refine ⟨g1, by rw [g2]; omega, by rw [Int.toNat_natCast, g3]; omega, fun r hr hr' => ?_⟩
  obtain ⟨r, rfl⟩ := Int.eq_ofNat_of_zero_le (show 0 ≤ r by omega)
  exact g4 r (by omega) (by omega)
theorem sizering_spec (n f self : Int) : HasSpec Try.prog 7 [PV.int n, PV.int f, PV.int self] (.v (.bool true)) := by
  by_cases hs : sizeB n f = true ∧ 1 ≤ self ∧ self ≤ n
  · obtain ⟨hs, h1, h2⟩ := hs
    obtain ⟨g1, g2, g3, g4⟩ := ring_facts hs (s := self) (by omega) (by omega)
    have hs1 := sizeB_iff.1 hs
    refine ⟨?_⟩; refine Spec.ofR (h := fun F w0 => ?_)
    repeat' ((conv => whnf); first | refine Stk.yes ?_ | refine Stk.ld rfl ?_ | refine Stk.no ?_ | (refine Stk.both (fun hb => ?_) (fun hb => ?_) <;> (try simp only [lC] at hb) <;> (try (exfalso; omega))) | refine Stk.wrap (by omega) (by omega) ?_ | refine Stk.wrapU (by omega) (by omega) ?_ | refine Stk.cutT (by omega) ?_ | refine Stk.cutD (by omega) ?_ | refine Stk.eqsE [_, _] [_, _] rfl rfl rfl rfl ?_ | refine Stk.eqsN [_, _] [_, _] rfl rfl rfl rfl ?_ | refine Stk.eqsE [_, _, _] [_, _, _] rfl rfl rfl rfl ?_ | refine Stk.eqsN [_, _, _] [_, _, _] rfl rfl rfl rfl ?_ | refine Stk.eqsE [_, _, _, _, _, _] [_, _, _, _, _, _] rfl rfl rfl rfl ?_ | refine Stk.eqsN [_, _, _, _, _, _] [_, _, _, _, _, _] rfl rfl rfl rfl ?_ | refine Stk.len ?_ | refine Stk.ixN (by omega) ?_ | refine Stk.ixI (by omega) (by omega) ?_ | refine Stk.ix _ (by decide) rfl ?_ | refine Stk.quo (by omega) (by omega) (by omega) ?_ | refine Stk.rem (by omega) (by omega) ?_ | refine Stk.need (by first | kernel_rfl | omega) ?_ | refine Stk.ar _ (by omega) (by omega) rfl ?_ | refine Stk.call (h := ?_) | refine Stk.callO (h := ?_) | refine Stk.divA (by decide) ?_ | refine Stk.lenA ?_ | refine Stk.wrapA ?_); all_goals (conv => whnf)
    refine Stk.loop (ι := Nat) (fun k => [(0, PV.int n), (1, PV.int f), (2, PV.int self), (7, PV.int (ringS n f self)), (8, PV.int (cntR n f self k : Nat)), (9, PV.int ((k : Int) + 1))]) (fun _ => []) (fun k => k ≤ n.toNat) (fun k => n.toNat - k) 0 (Nat.zero_le _) (Weak.to ⟨rfl, rfl, rfl, rfl, rfl, rfl, trivial⟩ trivial rfl) (fun k hk => ?_)
    have hcl := cntR_le n f self k
    have hcs := cntR_succ n f self k
    repeat' ((conv => whnf); first | refine Stk.yes ?_ | refine Stk.ld rfl ?_ | refine Stk.no ?_ | (refine Stk.both (fun hb => ?_) (fun hb => ?_) <;> (try simp only [lC] at hb) <;> (try (exfalso; omega))) | refine Stk.wrap (by omega) (by omega) ?_ | refine Stk.wrapU (by omega) (by omega) ?_ | refine Stk.cutT (by omega) ?_ | refine Stk.cutD (by omega) ?_ | refine Stk.eqsE [_, _] [_, _] rfl rfl rfl rfl ?_ | refine Stk.eqsN [_, _] [_, _] rfl rfl rfl rfl ?_ | refine Stk.eqsE [_, _, _] [_, _, _] rfl rfl rfl rfl ?_ | refine Stk.eqsN [_, _, _] [_, _, _] rfl rfl rfl rfl ?_ | refine Stk.eqsE [_, _, _, _, _, _] [_, _, _, _, _, _] rfl rfl rfl rfl ?_ | refine Stk.eqsN [_, _, _, _, _, _] [_, _, _, _, _, _] rfl rfl rfl rfl ?_ | refine Stk.len ?_ | refine Stk.ixN (by omega) ?_ | refine Stk.ixI (by omega) (by omega) ?_ | refine Stk.ix _ (by decide) rfl ?_ | refine Stk.quo (by omega) (by omega) (by omega) ?_ | refine Stk.rem (by omega) (by omega) ?_ | refine Stk.need (by first | kernel_rfl | omega) ?_ | refine Stk.ar _ (by omega) (by omega) rfl ?_ | refine Stk.call (h := ?_) | refine Stk.callO (h := ?_) | refine Stk.divA (by decide) ?_ | refine Stk.lenA ?_ | refine Stk.wrapA ?_); all_goals (conv => whnf)
    · refine ⟨k + 1, by omega, by omega, ?_⟩
      rw [if_pos ‹_›] at hcs
      rw [hcs]
      exact Weak.to ⟨rfl, rfl, rfl, rfl, rfl, rfl, trivial⟩ trivial rfl
    · refine ⟨k + 1, by omega, by omega, ?_⟩
      rw [if_neg (by simp_all)] at hcs
      rw [hcs]
      exact Weak.to ⟨rfl, rfl, rfl, rfl, rfl, rfl, trivial⟩ trivial rfl
    · obtain rfl : k = n.toNat := by omega
      refine Stk.loop (ι := Nat) (fun k => [(0, PV.int n), (1, PV.int f), (2, PV.int self), (7, PV.int (ringS n f self)), (8, PV.int (cntR n f self n.toNat : Nat)), (10, PV.int (n + 1 + (k : Int)))]) (fun _ => []) (fun k => n + k ≤ 9) (fun k => 9 - k) 0 (by omega) (Weak.to ⟨rfl, rfl, rfl, rfl, rfl, by rw [show n + 1 + ((0 : Nat) : Int) = n + 1 from by omega]; rfl, trivial⟩ trivial rfl) (fun j hj => ?_)
      repeat' ((conv => whnf); first | refine Stk.yes ?_ | refine Stk.ld rfl ?_ | refine Stk.no ?_ | (refine Stk.both (fun hb => ?_) (fun hb => ?_) <;> (try simp only [lC] at hb) <;> (try (exfalso; omega))) | refine Stk.wrap (by omega) (by omega) ?_ | refine Stk.wrapU (by omega) (by omega) ?_ | refine Stk.cutT (by omega) ?_ | refine Stk.cutD (by omega) ?_ | refine Stk.eqsE [_, _] [_, _] rfl rfl rfl rfl ?_ | refine Stk.eqsN [_, _] [_, _] rfl rfl rfl rfl ?_ | refine Stk.eqsE [_, _, _] [_, _, _] rfl rfl rfl rfl ?_ | refine Stk.eqsN [_, _, _] [_, _, _] rfl rfl rfl rfl ?_ | refine Stk.eqsE [_, _, _, _, _, _] [_, _, _, _, _, _] rfl rfl rfl rfl ?_ | refine Stk.eqsN [_, _, _, _, _, _] [_, _, _, _, _, _] rfl rfl rfl rfl ?_ | refine Stk.len ?_ | refine Stk.ixN (by omega) ?_ | refine Stk.ixI (by omega) (by omega) ?_ | refine Stk.ix _ (by decide) rfl ?_ | refine Stk.quo (by omega) (by omega) (by omega) ?_ | refine Stk.rem (by omega) (by omega) ?_ | refine Stk.need (by first | kernel_rfl | omega) ?_ | refine Stk.ar _ (by omega) (by omega) rfl ?_ | refine Stk.call (h := ?_) | refine Stk.callO (h := ?_) | refine Stk.divA (by decide) ?_ | refine Stk.lenA ?_ | refine Stk.wrapA ?_); all_goals (conv => whnf)
      · exact absurd (g4 (n + 1 + (j : Int)) (by omega) (by omega)) (by rw [‹hasB (ringS n f self) (n + 1 + (j : Int)) = true›]; simp)
      · exact ⟨j + 1, by omega, by omega, Weak.to ⟨rfl, rfl, rfl, rfl, rfl, by rw [show n + 1 + ((j + 1 : Nat) : Int) = n + 1 + (j : Int) + 1 from by omega]; rfl, trivial⟩ trivial rfl⟩
      · ((refine FinK.of (h := ?_)); (repeat' (first | exact FinL.nil | refine FinL.cons ?_ ?_ | refine Fin'.tup ?_ | exact Fin'.row rfl (by first | rfl | exact all_map_closed (fun _ => rfl) _ | (rw [List.all_append, all_map_closed (fun _ => rfl)]; rfl) | (simp [closedL, PV.closed]; done)) | exact Fin'.sub rfl (.refl _) | exact Fin'.sub rfl (.nil _) | exact Fin'.sub (by first | rfl | exact all_map_closed (fun _ => rfl) _ | (rw [List.all_append, all_map_closed (fun _ => rfl)]; rfl) | (simp [closedL, PV.closed]; done)) (.refl _) | refine Fin'.vb ?_ | refine Fin'.vi ?_ | refine Fin'.agg ?_)))
      · exact absurd g1 (by rw [‹hasB (ringS n f self) self = false›]; simp)
  · have hr : ringS n f self = 0 := by
      by_cases h : self < 1 ∨ n < self
      · exact ringS_out h
      · refine ringS_no ?_
        cases e : sizeB n f with
        | false => rfl
        | true => exact absurd ⟨e, by omega, by omega⟩ hs
    have hq := ring_spec n f self
    rw [hr] at hq
    refine ⟨?_⟩; refine Spec.ofR (h := fun F w0 => ?_)
    repeat' ((conv => whnf); first | refine Stk.yes ?_ | refine Stk.ld rfl ?_ | refine Stk.no ?_ | (refine Stk.both (fun hb => ?_) (fun hb => ?_) <;> (try simp only [lC] at hb) <;> (try (exfalso; omega))) | refine Stk.wrap (by omega) (by omega) ?_ | refine Stk.wrapU (by omega) (by omega) ?_ | refine Stk.cutT (by omega) ?_ | refine Stk.cutD (by omega) ?_ | refine Stk.eqsE [_, _] [_, _] rfl rfl rfl rfl ?_ | refine Stk.eqsN [_, _] [_, _] rfl rfl rfl rfl ?_ | refine Stk.eqsE [_, _, _] [_, _, _] rfl rfl rfl rfl ?_ | refine Stk.eqsN [_, _, _] [_, _, _] rfl rfl rfl rfl ?_ | refine Stk.eqsE [_, _, _, _, _, _] [_, _, _, _, _, _] rfl rfl rfl rfl ?_ | refine Stk.eqsN [_, _, _, _, _, _] [_, _, _, _, _, _] rfl rfl rfl rfl ?_ | refine Stk.len ?_ | refine Stk.ixN (by omega) ?_ | refine Stk.ixI (by omega) (by omega) ?_ | refine Stk.ix _ (by decide) rfl ?_ | refine Stk.quo (by omega) (by omega) (by omega) ?_ | refine Stk.rem (by omega) (by omega) ?_ | refine Stk.need (by first | kernel_rfl | omega) ?_ | refine Stk.ar _ (by omega) (by omega) rfl ?_ | refine Stk.call (h := ?_) | refine Stk.callO (h := ?_) | refine Stk.divA (by decide) ?_ | refine Stk.lenA ?_ | refine Stk.wrapA ?_); all_goals (conv => whnf)
    all_goals first | (((refine FinK.of (h := ?_)); (repeat' (first | exact FinL.nil | refine FinL.cons ?_ ?_ | refine Fin'.tup ?_ | exact Fin'.row rfl (by first | rfl | exact all_map_closed (fun _ => rfl) _ | (rw [List.all_append, all_map_closed (fun _ => rfl)]; rfl) | (simp [closedL, PV.closed]; done)) | exact Fin'.sub rfl (.refl _) | exact Fin'.sub rfl (.nil _) | exact Fin'.sub (by first | rfl | exact all_map_closed (fun _ => rfl) _ | (rw [List.all_append, all_map_closed (fun _ => rfl)]; rfl) | (simp [closedL, PV.closed]; done)) (.refl _) | refine Fin'.vb ?_ | refine Fin'.vi ?_ | refine Fin'.agg ?_))); done) | (exfalso; exact hs ⟨sizeB_iff.2 (by omega), by omega, by omega⟩)
end Go.Proofs.Ytlicjlahnbebcaa
