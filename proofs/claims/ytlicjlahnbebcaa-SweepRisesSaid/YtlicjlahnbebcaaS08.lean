/- Layer 1: the law on meetings. -/
import Derived.Test.YtlicjlahnbebcaaS07
namespace Go.Proofs.Ytlicjlahnbebcaa
set_option linter.unusedSimpArgs false
set_option linter.unusedVariables false
set_option linter.unusedSectionVars false
open Go.RowKit
set_option maxRecDepth 100000
set_option maxHeartbeats 1000000
/-- Of two parts of a list those that are in both. -/
theorem both_ge {α : Type} (p q : α → Bool) : ∀ l : List α, (l.filter p).length + (l.filter q).length ≤ l.length + (l.filter fun x => p x && q x).length
  | [] => by simp
  | x :: l => by
    have ih := both_ge p q l
    simp only [List.filter_cons, List.length_cons]
    cases p x <;> cases q x <;> simp <;> omega
/-- The sets, as bits. -/
theorem and_i64 (a : Int) (m : Nat) (hm : m < 512) : ∃ A : Nat, bitI .and .i64 a (m : Int) = ((A &&& m : Nat) : Int) := by
  refine ⟨(BitVec.ofInt 64 a).toNat, ?_⟩
  have hle : (BitVec.ofInt 64 a).toNat &&& m ≤ m := Nat.and_le_right
  show IntKind.i64.wrap ((BitVec.ofInt 64 a &&& BitVec.ofInt 64 (m : Int)).toNat : Int) = _
  rw [BitVec.toNat_and, ofInt_i64 m (by omega), i64_wrap (by omega) (by omega)]
theorem hasB_nat {s r : Nat} (hs : s < 512) : hasB s ((r : Int) + 1) = (decide (r < 9) && s.testBit r) := by
  unfold hasB
  rw [show mayB (s : Int) = true from mayB_iff.2 (by omega), Bool.true_and]
  by_cases h : r < 9
  · rw [replB_iff.2 (by omega), decide_eq_true h, Bool.true_and, Bool.true_and]
    unfold bitB
    rw [Nat.testBit_eq_decide_div_mod_eq, decide_eq_decide, show ((r : Int) + 1 - 1).toNat = r from by omega]
    have : (s : Int) / 2 ^ r = ((s / 2 ^ r : Nat) : Int) := by rw [Int.natCast_ediv, Int.natCast_pow]; rfl
    rw [this]
    omega
  · rw [decide_eq_false h, show replB ((r : Int) + 1) = false from by
      cases e : replB ((r : Int) + 1) with
      | false => rfl
      | true => have := replB_iff.1 e; omega]
    rfl
def cntB9 (k s : Nat) : Nat := ((List.range k).filter fun r => s.testBit r).length
theorem listS_cnt {k s : Nat} (hk : k ≤ 9) (hs : s < 2 ^ k) : (listS s 9).length = cntB9 k s := by
  have hp : 2 ^ k ≤ 2 ^ 9 := Nat.pow_le_pow_right (by decide) hk
  have e : ∀ m : Nat, m ≤ 9 - k → (listS s (k + m)).length = cntB9 k s := by
    intro m
    induction m with
    | zero =>
      intro _
      unfold listS cntB9
      rw [Nat.add_zero, List.filter_map, List.length_map]
      congr 1
      apply List.filter_congr
      intro r hr
      rw [List.mem_range] at hr
      simp only [Function.comp]
      rw [hasB_nat (by omega), decide_eq_true (by omega), Bool.true_and]
    | succ m ih =>
      intro hm
      rw [← Nat.add_assoc, listS_succ, hasB_nat (by omega), Nat.testBit_lt_two_pow (Nat.lt_of_lt_of_le hs (Nat.pow_le_pow_right (by decide) (by omega))), Bool.and_false]
      exact ih (by omega)
  have := e (9 - k) (Nat.le_refl _)
  rwa [show k + (9 - k) = 9 from by omega] at this
theorem meet_ge {k x y : Nat} (hk : k ≤ 9) (hx : x < 2 ^ k) (hy : y < 2 ^ k) : (listS x 9).length + (listS y 9).length ≤ k + (listS ((x &&& y : Nat) : Int) 9).length := by
  rw [listS_cnt hk hx, listS_cnt hk hy, listS_cnt hk (Nat.lt_of_le_of_lt Nat.and_le_left hx)]
  unfold cntB9
  have h := both_ge (fun r => x.testBit r) (fun r => y.testBit r) (List.range k)
  rw [List.length_range] at h
  simp only [Nat.testBit_and]
  exact h
/-- What the law asks of two sets within a mask. -/
theorem meet_mask (k : Nat) (hk : k ≤ 9) (a b : Int) : ∃ x y z : Nat, bitI .and .i64 a ((2 ^ k - 1 : Nat) : Int) = (x : Int) ∧ bitI .and .i64 b ((2 ^ k - 1 : Nat) : Int) = (y : Int) ∧ bitI .and .i64 (x : Int) (y : Int) = (z : Int) ∧ (listS x 9).length + (listS y 9).length ≤ k + (listS (z : Int) 9).length := by
  have hp : 2 ^ k ≤ 2 ^ 9 := Nat.pow_le_pow_right (by decide) hk
  have h0 : 0 < 2 ^ k := Nat.two_pow_pos k
  obtain ⟨A, hA⟩ := and_i64 a (2 ^ k - 1) (by omega)
  obtain ⟨B, hB⟩ := and_i64 b (2 ^ k - 1) (by omega)
  have lA : A &&& (2 ^ k - 1) < 2 ^ k := Nat.lt_of_le_of_lt Nat.and_le_right (by omega)
  have lB : B &&& (2 ^ k - 1) < 2 ^ k := Nat.lt_of_le_of_lt Nat.and_le_right (by omega)
  exact ⟨_, _, _, hA, hB, i64_and_nat _ _ (by omega) (by omega), meet_ge hk lA lB⟩
theorem sizemeet_spec (n f a b : Int) : HasSpec Try.prog 6 [PV.int n, PV.int f, .agg [PV.int a, PV.int b]] (.v (.bool true)) := by
  by_cases hs : 3 ≤ n ∧ n ≤ 9 ∧ 1 ≤ f ∧ 2 * f ≤ n - 1
  · obtain ⟨k, hk⟩ := Int.eq_ofNat_of_zero_le (show 0 ≤ n by omega)
    obtain ⟨x, y, z, h1, h2, h3, h4⟩ := meet_mask k (by omega) a b
    have hM : IntKind.i64.wrap (IntKind.i64.wrap (1 * 2 ^ (min n.toNat IntKind.i64.bits)) - 1) = ((2 ^ k - 1 : Nat) : Int) := by
      have : k = 3 ∨ k = 4 ∨ k = 5 ∨ k = 6 ∨ k = 7 ∨ k = 8 ∨ k = 9 := by omega
      rcases this with rfl | rfl | rfl | rfl | rfl | rfl | rfl <;> subst hk <;> decide
    have lx := listS_len (x : Int) 9
    have ly := listS_len (y : Int) 9
    have hw : IntKind.i64.wrap (IntKind.i64.wrap (((listS x 9).length : Int) + ((listS y 9).length : Int)) - n) = ((listS x 9).length : Int) + ((listS y 9).length : Int) - n := by
      rw [i64_wrap (a := ((listS x 9).length : Int) + ((listS y 9).length : Int)) (by omega) (by omega), i64_wrap (by omega) (by omega)]
    refine ⟨?_⟩; refine Spec.ofR (h := fun F w0 => ?_)
    repeat' ((conv => whnf); first | refine Stk.yes ?_ | refine Stk.ld rfl ?_ | refine Stk.no ?_ | (refine Stk.both (fun hb => ?_) (fun hb => ?_) <;> (try simp only [lC] at hb) <;> (try (exfalso; omega))) | refine Stk.wrap (by omega) (by omega) ?_ | refine Stk.wrapU (by omega) (by omega) ?_ | refine Stk.cutT (by omega) ?_ | refine Stk.cutD (by omega) ?_ | refine Stk.eqsE [_, _] [_, _] rfl rfl rfl rfl ?_ | refine Stk.eqsN [_, _] [_, _] rfl rfl rfl rfl ?_ | refine Stk.eqsE [_, _, _] [_, _, _] rfl rfl rfl rfl ?_ | refine Stk.eqsN [_, _, _] [_, _, _] rfl rfl rfl rfl ?_ | refine Stk.eqsE [_, _, _, _, _, _] [_, _, _, _, _, _] rfl rfl rfl rfl ?_ | refine Stk.eqsN [_, _, _, _, _, _] [_, _, _, _, _, _] rfl rfl rfl rfl ?_ | refine Stk.len ?_ | refine Stk.ixN (by omega) ?_ | refine Stk.ixI (by omega) (by omega) ?_ | refine Stk.ix _ (by decide) rfl ?_ | refine Stk.quo (by omega) (by omega) (by omega) ?_ | refine Stk.rem (by omega) (by omega) ?_ | refine Stk.need (by first | kernel_rfl | omega) ?_ | refine Stk.ar _ (by omega) (by omega) rfl ?_ | refine Stk.call (h := ?_) | refine Stk.callO (h := ?_) | refine Stk.divA (by decide) ?_ | refine Stk.lenA ?_ | refine Stk.wrapA ?_); all_goals (conv => whnf)
    all_goals try simp only [hM, h1, h2, h3, hw] at *
    all_goals first | (exfalso; omega) | (((refine FinK.of (h := ?_)); (repeat' (first | exact FinL.nil | refine FinL.cons ?_ ?_ | refine Fin'.tup ?_ | exact Fin'.row rfl (by first | rfl | exact all_map_closed (fun _ => rfl) _ | (rw [List.all_append, all_map_closed (fun _ => rfl)]; rfl) | (simp [closedL, PV.closed]; done)) | exact Fin'.sub rfl (.refl _) | exact Fin'.sub rfl (.nil _) | exact Fin'.sub (by first | rfl | exact all_map_closed (fun _ => rfl) _ | (rw [List.all_append, all_map_closed (fun _ => rfl)]; rfl) | (simp [closedL, PV.closed]; done)) (.refl _) | refine Fin'.vb ?_ | refine Fin'.vi ?_ | refine Fin'.agg ?_))); done) | skip
    all_goals trace_state
    all_goals sorry
  · refine ⟨?_⟩; refine Spec.ofR (h := fun F w0 => ?_)
    repeat' ((conv => whnf); first | refine Stk.yes ?_ | refine Stk.ld rfl ?_ | refine Stk.no ?_ | (refine Stk.both (fun hb => ?_) (fun hb => ?_) <;> (try simp only [lC] at hb) <;> (try (exfalso; omega))) | refine Stk.wrap (by omega) (by omega) ?_ | refine Stk.wrapU (by omega) (by omega) ?_ | refine Stk.cutT (by omega) ?_ | refine Stk.cutD (by omega) ?_ | refine Stk.eqsE [_, _] [_, _] rfl rfl rfl rfl ?_ | refine Stk.eqsN [_, _] [_, _] rfl rfl rfl rfl ?_ | refine Stk.eqsE [_, _, _] [_, _, _] rfl rfl rfl rfl ?_ | refine Stk.eqsN [_, _, _] [_, _, _] rfl rfl rfl rfl ?_ | refine Stk.eqsE [_, _, _, _, _, _] [_, _, _, _, _, _] rfl rfl rfl rfl ?_ | refine Stk.eqsN [_, _, _, _, _, _] [_, _, _, _, _, _] rfl rfl rfl rfl ?_ | refine Stk.len ?_ | refine Stk.ixN (by omega) ?_ | refine Stk.ixI (by omega) (by omega) ?_ | refine Stk.ix _ (by decide) rfl ?_ | refine Stk.quo (by omega) (by omega) (by omega) ?_ | refine Stk.rem (by omega) (by omega) ?_ | refine Stk.need (by first | kernel_rfl | omega) ?_ | refine Stk.ar _ (by omega) (by omega) rfl ?_ | refine Stk.call (h := ?_) | refine Stk.callO (h := ?_) | refine Stk.divA (by decide) ?_ | refine Stk.lenA ?_ | refine Stk.wrapA ?_); all_goals (conv => whnf)
    all_goals first | (((refine FinK.of (h := ?_)); (repeat' (first | exact FinL.nil | refine FinL.cons ?_ ?_ | refine Fin'.tup ?_ | exact Fin'.row rfl (by first | rfl | exact all_map_closed (fun _ => rfl) _ | (rw [List.all_append, all_map_closed (fun _ => rfl)]; rfl) | (simp [closedL, PV.closed]; done)) | exact Fin'.sub rfl (.refl _) | exact Fin'.sub rfl (.nil _) | exact Fin'.sub (by first | rfl | exact all_map_closed (fun _ => rfl) _ | (rw [List.all_append, all_map_closed (fun _ => rfl)]; rfl) | (simp [closedL, PV.closed]; done)) (.refl _) | refine Fin'.vb ?_ | refine Fin'.vi ?_ | refine Fin'.agg ?_))); done) | (exfalso; exact hs (by assumption))
end Go.Proofs.Ytlicjlahnbebcaa
