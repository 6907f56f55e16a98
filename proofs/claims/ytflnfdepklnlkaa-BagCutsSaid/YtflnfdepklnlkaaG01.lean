/- Sets of replicas: who is in them; two lists of ints. -/
import Derived.Test.YtflnfdepklnlkaaTb
import Derived.Test.YtflnfdepklnlkaaPC
import Derived.Test.YtflnfdepklnlkaaL00
namespace Go.Proofs.Ytflnfdepklnlkaa
set_option linter.unusedSimpArgs false
set_option linter.unusedVariables false
set_option linter.unusedSectionVars false
open Go.RowKit
set_option maxRecDepth 100000
set_option maxHeartbeats 1000000
instance sizemay_spec (n : Int) : HasSpec Try.prog 33 [PV.int n] (.v (.bool (mayB n))) := by
  refine ⟨?_⟩; refine Spec.ofR (h := fun F w0 => ?_)
  repeat' ((conv => whnf); first | refine Q.a ?_ | refine Q.b ?_ | refine Q.c ?_ | (refine Stk.both (fun hb => ?_) (fun hb => ?_) <;> (try simp only [lC] at hb) <;> (try (exfalso; omega))) | refine Q.d ?_ | refine Q.e ?_ | refine Q.f ?_ | refine Q.g ?_ | refine Q.h ?_ | refine Q.i ?_ | refine Q.j ?_ | refine Q.k ?_ | refine Q.l ?_ | refine Q.m ?_ | refine Q.n ?_ | refine Q.o (h := ?_) | refine Q.p (h := ?_) | refine Q.q ?_ | refine Q.r ?_ | refine Q.s ?_ | refine Q.t ?_ | refine Q.u ?_ | refine Q.v ?_ | refine Q.w ?_ | refine Q.x ?_ | refine Q.y ?_ | refine Q.z ?_); all_goals (conv => whnf)
  all_goals (((refine FinK.of (h := ?_)); (repeat' (first | exact FinL.nil | refine FinL.cons ?_ ?_ | refine Fin'.tup ?_ | exact Q.f3 | exact Q.f4 | exact Q.f5 | exact Q.f6 | refine Fin'.vb ?_ | refine Fin'.vi ?_ | refine Fin'.agg ?_))))
  all_goals ((first | rfl | (rw [Bool.eq_iff_iff]; simp only [tst_true, tst_false, mayB, decide_eq_true_eq, decide_eq_false_iff_not, Bool.and_eq_true, Bool.or_eq_true, Bool.not_eq_true', Bool.not_eq_false', Bool.false_eq_true, Bool.true_eq_false, true_iff, iff_true, false_iff, iff_false, true_and, and_true, false_and, and_false, not_false_eq_true, not_true_eq_false]; try omega)))
instance replica_spec (n : Int) : HasSpec Try.prog 34 [PV.int n] (.v (.bool (replB n))) := by
  refine ⟨?_⟩; refine Spec.ofR (h := fun F w0 => ?_)
  repeat' ((conv => whnf); first | refine Q.a ?_ | refine Q.b ?_ | refine Q.c ?_ | (refine Stk.both (fun hb => ?_) (fun hb => ?_) <;> (try simp only [lC] at hb) <;> (try (exfalso; omega))) | refine Q.d ?_ | refine Q.e ?_ | refine Q.f ?_ | refine Q.g ?_ | refine Q.h ?_ | refine Q.i ?_ | refine Q.j ?_ | refine Q.k ?_ | refine Q.l ?_ | refine Q.m ?_ | refine Q.n ?_ | refine Q.o (h := ?_) | refine Q.p (h := ?_) | refine Q.q ?_ | refine Q.r ?_ | refine Q.s ?_ | refine Q.t ?_ | refine Q.u ?_ | refine Q.v ?_ | refine Q.w ?_ | refine Q.x ?_ | refine Q.y ?_ | refine Q.z ?_); all_goals (conv => whnf)
  all_goals (((refine FinK.of (h := ?_)); (repeat' (first | exact FinL.nil | refine FinL.cons ?_ ?_ | refine Fin'.tup ?_ | exact Q.f3 | exact Q.f4 | exact Q.f5 | exact Q.f6 | refine Fin'.vb ?_ | refine Fin'.vi ?_ | refine Fin'.agg ?_))))
  all_goals ((first | rfl | (rw [Bool.eq_iff_iff]; simp only [tst_true, tst_false, replB, decide_eq_true_eq, decide_eq_false_iff_not, Bool.and_eq_true, Bool.or_eq_true, Bool.not_eq_true', Bool.not_eq_false', Bool.false_eq_true, Bool.true_eq_false, true_iff, iff_true, false_iff, iff_false, true_and, and_true, false_and, and_false, not_false_eq_true, not_true_eq_false]; try omega)))
instance has_spec (set r : Int) : HasSpec Try.prog 30 [PV.int set, PV.int r] (.v (.bool (hasB set r))) := by
  refine ⟨?_⟩; refine Spec.ofR (h := fun F w0 => ?_)
  repeat' ((conv => whnf); first | refine Q.a ?_ | refine Q.b ?_ | refine Q.c ?_ | (refine Stk.both (fun hb => ?_) (fun hb => ?_) <;> (try simp only [lC] at hb) <;> (try (exfalso; omega))) | refine Q.d ?_ | refine Q.e ?_ | refine Q.f ?_ | refine Q.g ?_ | refine Q.h ?_ | refine Q.i ?_ | refine Q.j ?_ | refine Q.k ?_ | refine Q.l ?_ | refine Q.m ?_ | refine Q.n ?_ | refine Q.o (h := ?_) | refine Q.p (h := ?_) | refine Q.q ?_ | refine Q.r ?_ | refine Q.s ?_ | refine Q.t ?_ | refine Q.u ?_ | refine Q.v ?_ | refine Q.w ?_ | refine Q.x ?_ | refine Q.y ?_ | refine Q.z ?_); all_goals (conv => whnf)
  all_goals (((refine FinK.of (h := ?_)); (repeat' (first | exact FinL.nil | refine FinL.cons ?_ ?_ | refine Fin'.tup ?_ | exact Q.f3 | exact Q.f4 | exact Q.f5 | exact Q.f6 | refine Fin'.vb ?_ | refine Fin'.vi ?_ | refine Fin'.agg ?_))))
  · rw [tst_eq, shr_bit set r (by omega) (by omega) (by omega) (by omega)]
    unfold hasB bitB
    rw [mayB_iff.2 (by omega), replB_iff.2 (by omega)]
    rfl
  · unfold hasB; rw [mayB_iff.2 (by omega), ‹replB r = false›]; rfl
  · unfold hasB; rw [‹mayB set = false›]; rfl
def boolsN (set : Int) (n : Nat) : List PV := (List.range 10).map fun (i : Nat) => .v (.bool (decide (i ≤ n) && hasB set i))
theorem boolsN_len (set : Int) (n : Nat) : (boolsN set n).length = 10 := by unfold boolsN; simp
theorem boolsN_at (set : Int) (n i : Nat) (h : i < 10) : (boolsN set n)[i]? = some (.v (.bool (decide (i ≤ n) && hasB set i))) := by unfold boolsN; simp [h]
theorem boolsN_put (set : Int) (n : Nat) (h : n < 9) : putL (boolsN set n) (n + 1) (PV.v (.bool (hasB set (n + 1)))).cells = boolsN set (n + 1) := by
  show putL (boolsN set n) (n + 1) [.v (.bool (hasB set (n + 1)))] = _
  rw [putL, putL]
  apply List.ext_getElem?
  intro i
  rw [List.getElem?_set, boolsN_len]
  by_cases hi : i < 10
  · rw [boolsN_at _ _ _ hi, boolsN_at _ _ _ hi]
    by_cases e : n + 1 = i
    · subst e; simp [hi]
    · rw [if_neg e]
      have : decide (i ≤ n) = decide (i ≤ n + 1) := by rw [decide_eq_decide]; omega
      rw [this]
  · rw [if_neg (by omega), List.getElem?_eq_none (by rw [boolsN_len]; omega), List.getElem?_eq_none (by rw [boolsN_len]; omega)]
theorem boolsN_zero (set : Int) : boolsN set 0 = List.map PV.v [.bool false, .bool false, .bool false, .bool false, .bool false, .bool false, .bool false, .bool false, .bool false, .bool false] := by
  have h0 : hasB set 0 = false := by unfold hasB replB; simp
  unfold boolsN
  simp [List.range, List.range.loop, h0]
theorem hasB_in {set : Int} (h : 0 ≤ set ∧ set ≤ 511) {n : Nat} (hn : n < 9) : hasB set (n + 1) = tst (set / 2 ^ n % 2 = 1) := by
  unfold hasB bitB
  rw [mayB_iff.2 h, replB_iff.2 (by omega), tst_eq, show ((n : Int) + 1 - 1).toNat = n from by omega]
  rfl
theorem boolsN_no {set : Int} (h : ¬ (0 ≤ set ∧ set ≤ 511)) (n m : Nat) : boolsN set n = boolsN set m := by
  unfold boolsN hasB
  have : mayB set = false := by cases e : mayB set with
    | false => rfl
    | true => exact absurd (mayB_iff.1 e) h
  rw [this]; simp
theorem boolsN_nine {set : Int} (h : 0 ≤ set ∧ set ≤ 511) : boolsN set 9 = [.v (.bool false), .v (.bool (tst (set % 2 = 1))), .v (.bool (tst (set / 2 % 2 = 1))), .v (.bool (tst (set / 2 / 2 % 2 = 1))), .v (.bool (tst (set / 2 / 2 / 2 % 2 = 1))), .v (.bool (tst (set / 2 / 2 / 2 / 2 % 2 = 1))), .v (.bool (tst (set / 2 / 2 / 2 / 2 / 2 % 2 = 1))), .v (.bool (tst (set / 2 / 2 / 2 / 2 / 2 / 2 % 2 = 1))), .v (.bool (tst (set / 2 / 2 / 2 / 2 / 2 / 2 / 2 % 2 = 1))), .v (.bool (tst (set / 2 / 2 / 2 / 2 / 2 / 2 / 2 / 2 % 2 = 1)))] := by
  have h0 : hasB set 0 = false := by unfold hasB replB; simp
  have e : ∀ n : Nat, n < 9 → hasB set ((n + 1 : Nat) : Int) = tst (set / 2 ^ n % 2 = 1) := fun n hn => hasB_in h hn
  have d : ∀ n : Nat, set / 2 ^ n / 2 = set / 2 ^ (n + 1) := fun n => by rw [Int.pow_succ, Int.ediv_ediv_of_nonneg (Int.le_of_lt (Int.pow_pos (by decide)))]
  have e0 := e 0 (by omega); have e1 := e 1 (by omega); have e2 := e 2 (by omega); have e3 := e 3 (by omega); have e4 := e 4 (by omega); have e5 := e 5 (by omega); have e6 := e 6 (by omega); have e7 := e 7 (by omega); have e8 := e 8 (by omega)
  have d0 : set / 2 ^ 0 = set := by simp
  rw [d0] at e0
  rw [← d 0, d0] at e1
  rw [← d 1, ← d 0, d0] at e2
  rw [← d 2, ← d 1, ← d 0, d0] at e3
  rw [← d 3, ← d 2, ← d 1, ← d 0, d0] at e4
  rw [← d 4, ← d 3, ← d 2, ← d 1, ← d 0, d0] at e5
  rw [← d 5, ← d 4, ← d 3, ← d 2, ← d 1, ← d 0, d0] at e6
  rw [← d 6, ← d 5, ← d 4, ← d 3, ← d 2, ← d 1, ← d 0, d0] at e7
  rw [← d 7, ← d 6, ← d 5, ← d 4, ← d 3, ← d 2, ← d 1, ← d 0, d0] at e8
  have hr : List.range 10 = [0, 1, 2, 3, 4, 5, 6, 7, 8, 9] := rfl
  unfold boolsN
  rw [hr]
  simp only [List.map_cons, List.map_nil]
  rw [e0, e1, e2, e3, e4, e5, e6, e7, e8, show hasB set ((0 : Nat) : Int) = false from h0]
  rfl
instance bools_spec (set : Int) : HasSpec Try.prog 31 [PV.int set] (.agg (boolsN set 9)) := by
  by_cases hm : 0 ≤ set ∧ set ≤ 511
  · rw [boolsN_nine hm]
    refine ⟨?_⟩; refine Spec.ofR (h := fun F w0 => ?_)
    repeat' ((conv => whnf); first | refine Q.a ?_ | refine Q.b ?_ | refine Q.c ?_ | (refine Stk.both (fun hb => ?_) (fun hb => ?_) <;> (try simp only [lC] at hb) <;> (try (exfalso; omega))) | refine Q.d ?_ | refine Q.e ?_ | refine Q.f ?_ | refine Q.g ?_ | refine Q.h ?_ | refine Q.i ?_ | refine Q.j ?_ | refine Q.k ?_ | refine Q.l ?_ | refine Q.m ?_ | refine Q.n ?_ | refine Q.o (h := ?_) | refine Q.p (h := ?_) | refine Q.q ?_ | refine Q.r ?_ | refine Q.s ?_ | refine Q.t ?_ | refine Q.u ?_ | refine Q.v ?_ | refine Q.w ?_ | refine Q.x ?_ | refine Q.y ?_ | refine Q.z ?_); all_goals (conv => whnf)
    refine Stk.unroll 10 ?_
    repeat' ((conv => whnf); first | refine Q.a ?_ | refine Q.b ?_ | refine Q.c ?_ | (refine Stk.both (fun hb => ?_) (fun hb => ?_) <;> (try simp only [lC] at hb) <;> (try (exfalso; omega))) | refine Q.d ?_ | refine Q.e ?_ | refine Q.f ?_ | refine Q.g ?_ | refine Q.h ?_ | refine Q.i ?_ | refine Q.j ?_ | refine Q.k ?_ | refine Q.l ?_ | refine Q.m ?_ | refine Q.n ?_ | refine Q.o (h := ?_) | refine Q.p (h := ?_) | refine Q.q ?_ | refine Q.r ?_ | refine Q.s ?_ | refine Q.t ?_ | refine Q.u ?_ | refine Q.v ?_ | refine Q.w ?_ | refine Q.x ?_ | refine Q.y ?_ | refine Q.z ?_); all_goals (conv => whnf)
    ((refine FinK.of (h := ?_)); (repeat' (first | exact FinL.nil | refine FinL.cons ?_ ?_ | refine Fin'.tup ?_ | exact Q.f3 | exact Q.f4 | exact Q.f5 | exact Q.f6 | refine Fin'.vb ?_ | refine Fin'.vi ?_ | refine Fin'.agg ?_)))
  · rw [boolsN_no hm 9 0, boolsN_zero]
    refine ⟨?_⟩; refine Spec.ofR (h := fun F w0 => ?_)
    repeat' ((conv => whnf); first | refine Q.a ?_ | refine Q.b ?_ | refine Q.c ?_ | (refine Stk.both (fun hb => ?_) (fun hb => ?_) <;> (try simp only [lC] at hb) <;> (try (exfalso; omega))) | refine Q.d ?_ | refine Q.e ?_ | refine Q.f ?_ | refine Q.g ?_ | refine Q.h ?_ | refine Q.i ?_ | refine Q.j ?_ | refine Q.k ?_ | refine Q.l ?_ | refine Q.m ?_ | refine Q.n ?_ | refine Q.o (h := ?_) | refine Q.p (h := ?_) | refine Q.q ?_ | refine Q.r ?_ | refine Q.s ?_ | refine Q.t ?_ | refine Q.u ?_ | refine Q.v ?_ | refine Q.w ?_ | refine Q.x ?_ | refine Q.y ?_ | refine Q.z ?_); all_goals (conv => whnf)
    all_goals (((refine FinK.of (h := ?_)); (repeat' (first | exact FinL.nil | refine FinL.cons ?_ ?_ | refine Fin'.tup ?_ | exact Q.f3 | exact Q.f4 | exact Q.f5 | exact Q.f6 | refine Fin'.vb ?_ | refine Fin'.vi ?_ | refine Fin'.agg ?_))))
theorem bools_at (set r : Int) (h0 : 0 ≤ r) (h : r ≤ 9) : (boolsN set 9)[0 + r.toNat * 1]? = some (.v (.bool (hasB set r))) := by
  rw [boolsN_at _ _ _ (by omega)]
  have h1 : decide (0 + r.toNat * 1 ≤ 9) = true := decide_eq_true (by omega)
  rw [h1, show ((0 + r.toNat * 1 : Nat) : Int) = r from by omega]
  rfl
instance refhas_spec (set r : Int) : HasSpec Try.prog 25 [PV.int set, PV.int r] (.v (.bool (hasB set r))) := by
  refine ⟨?_⟩; refine Spec.ofR (h := fun F w0 => ?_)
  repeat' ((conv => whnf); first | refine Q.a ?_ | refine Q.b ?_ | refine Q.c ?_ | (refine Stk.both (fun hb => ?_) (fun hb => ?_) <;> (try simp only [lC] at hb) <;> (try (exfalso; omega))) | refine Q.d ?_ | refine Q.e ?_ | refine Q.f ?_ | refine Q.g ?_ | refine Q.h ?_ | refine Q.i ?_ | refine Q.j ?_ | refine Q.k ?_ | refine Q.l ?_ | refine Q.m ?_ | refine Q.n ?_ | refine Q.o (h := ?_) | refine Q.p (h := ?_) | refine Q.q ?_ | refine Q.r ?_ | refine Q.s ?_ | refine Q.t ?_ | refine Q.u ?_ | refine Q.v ?_ | refine Q.w ?_ | refine Q.x ?_ | refine Q.y ?_ | refine Q.z ?_); all_goals (conv => whnf)
  · refine Stk.ld (bools_at set r (by omega) (by omega)) ?_
    repeat' ((conv => whnf); first | refine Q.a ?_ | refine Q.b ?_ | refine Q.c ?_ | (refine Stk.both (fun hb => ?_) (fun hb => ?_) <;> (try simp only [lC] at hb) <;> (try (exfalso; omega))) | refine Q.d ?_ | refine Q.e ?_ | refine Q.f ?_ | refine Q.g ?_ | refine Q.h ?_ | refine Q.i ?_ | refine Q.j ?_ | refine Q.k ?_ | refine Q.l ?_ | refine Q.m ?_ | refine Q.n ?_ | refine Q.o (h := ?_) | refine Q.p (h := ?_) | refine Q.q ?_ | refine Q.r ?_ | refine Q.s ?_ | refine Q.t ?_ | refine Q.u ?_ | refine Q.v ?_ | refine Q.w ?_ | refine Q.x ?_ | refine Q.y ?_ | refine Q.z ?_); all_goals (conv => whnf)
    ((refine FinK.of (h := ?_)); (repeat' (first | exact FinL.nil | refine FinL.cons ?_ ?_ | refine Fin'.tup ?_ | exact Q.f3 | exact Q.f4 | exact Q.f5 | exact Q.f6 | refine Fin'.vb ?_ | refine Fin'.vi ?_ | refine Fin'.agg ?_)))
  · ((refine FinK.of (h := ?_)); (repeat' (first | exact FinL.nil | refine FinL.cons ?_ ?_ | refine Fin'.tup ?_ | exact Q.f3 | exact Q.f4 | exact Q.f5 | exact Q.f6 | refine Fin'.vb ?_ | refine Fin'.vi ?_ | refine Fin'.agg ?_)))
    unfold hasB
    rw [show replB r = false from by cases e : replB r with
      | false => rfl
      | true => have := replB_iff.1 e; omega]
    simp
  · ((refine FinK.of (h := ?_)); (repeat' (first | exact FinL.nil | refine FinL.cons ?_ ?_ | refine Fin'.tup ?_ | exact Q.f3 | exact Q.f4 | exact Q.f5 | exact Q.f6 | refine Fin'.vb ?_ | refine Fin'.vi ?_ | refine Fin'.agg ?_)))
    unfold hasB
    rw [show replB r = false from by cases e : replB r with
      | false => rfl
      | true => have := replB_iff.1 e; omega]
    simp
theorem take_eq_step {a b : List Int} {i : Nat} (h : a.take i = b.take i) (ha : i < a.length) (hb : i < b.length) (e : a[i] = b[i]) : a.take (i + 1) = b.take (i + 1) := by
  rw [take_snoc' a i ha, take_snoc' b i hb, h, e]
instance refsame_spec (a b : List Int) : HasSpec Try.prog 15 [PV.ints a, PV.ints b] (.v (.bool (decide (a = b)))) := by
  refine ⟨Spec.bound 0 rfl fun hl => ?_⟩; rw [List.length_map] at hl; refine Spec.ofR (h := fun F w0 => ?_)
  repeat' ((conv => whnf); first | refine Q.a ?_ | refine Q.b ?_ | refine Q.c ?_ | (refine Stk.both (fun hb => ?_) (fun hb => ?_) <;> (try simp only [lC] at hb) <;> (try (exfalso; omega))) | refine Q.d ?_ | refine Q.e ?_ | refine Q.f ?_ | refine Q.g ?_ | refine Q.h ?_ | refine Q.i ?_ | refine Q.j ?_ | refine Q.k ?_ | refine Q.l ?_ | refine Q.m ?_ | refine Q.n ?_ | refine Q.o (h := ?_) | refine Q.p (h := ?_) | refine Q.q ?_ | refine Q.r ?_ | refine Q.s ?_ | refine Q.t ?_ | refine Q.u ?_ | refine Q.v ?_ | refine Q.w ?_ | refine Q.x ?_ | refine Q.y ?_ | refine Q.z ?_); all_goals (conv => whnf)
  · have hne : decide (a = b) = false := decide_eq_false (fun e => ‹¬ _› (by rw [e]))
    rw [hne]
    ((refine FinK.of (h := ?_)); (repeat' (first | exact FinL.nil | refine FinL.cons ?_ ?_ | refine Fin'.tup ?_ | exact Q.f3 | exact Q.f4 | exact Q.f5 | exact Q.f6 | refine Fin'.vb ?_ | refine Fin'.vi ?_ | refine Fin'.agg ?_)))
  · refine Stk.loop (ι := Nat) (fun i => [(0, PV.ints a), (1, PV.ints b), (5, PV.int (i : Nat))]) (fun _ => []) (fun i => i ≤ a.length ∧ a.take i = b.take i) (fun i => a.length - i) 0 ⟨Nat.zero_le _, by simp⟩ (Weak.to ⟨rfl, rfl, rfl, trivial⟩ trivial rfl) (fun i hi => ?_)
    obtain ⟨hi, he⟩ := hi
    have hlb : a.length = b.length := by omega
    repeat' ((conv => whnf); first | refine Q.a ?_ | refine Q.b ?_ | refine Q.c ?_ | (refine Stk.both (fun hb => ?_) (fun hb => ?_) <;> (try simp only [lC] at hb) <;> (try (exfalso; omega))) | refine Q.d ?_ | refine Q.e ?_ | refine Q.f ?_ | refine Q.g ?_ | refine Q.h ?_ | refine Q.i ?_ | refine Q.j ?_ | refine Q.k ?_ | refine Q.l ?_ | refine Q.m ?_ | refine Q.n ?_ | refine Q.o (h := ?_) | refine Q.p (h := ?_) | refine Q.q ?_ | refine Q.r ?_ | refine Q.s ?_ | refine Q.t ?_ | refine Q.u ?_ | refine Q.v ?_ | refine Q.w ?_ | refine Q.x ?_ | refine Q.y ?_ | refine Q.z ?_); all_goals (conv => whnf)
    · have hne : decide (a = b) = false := decide_eq_false (fun e => ‹¬a[i] = b[i]› (by subst e; rfl))
      rw [hne]
      ((refine FinK.of (h := ?_)); (repeat' (first | exact FinL.nil | refine FinL.cons ?_ ?_ | refine Fin'.tup ?_ | exact Q.f3 | exact Q.f4 | exact Q.f5 | exact Q.f6 | refine Fin'.vb ?_ | refine Fin'.vi ?_ | refine Fin'.agg ?_)))
    · exact ⟨i + 1, ⟨by omega, take_eq_step he (by omega) (by omega) ‹_›⟩, by omega, Weak.to ⟨rfl, rfl, rfl, trivial⟩ trivial rfl⟩
    · rw [List.take_of_length_le (by omega), List.take_of_length_le (by omega)] at he
      rw [decide_eq_true he]
      ((refine FinK.of (h := ?_)); (repeat' (first | exact FinL.nil | refine FinL.cons ?_ ?_ | refine Fin'.tup ?_ | exact Q.f3 | exact Q.f4 | exact Q.f5 | exact Q.f6 | refine Fin'.vb ?_ | refine Fin'.vi ?_ | refine Fin'.agg ?_)))
end Go.Proofs.Ytflnfdepklnlkaa
