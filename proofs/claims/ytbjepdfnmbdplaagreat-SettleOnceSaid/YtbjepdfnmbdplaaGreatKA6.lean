/- Texts joined by wip/gen/kpack.py: U14 U15 U16 U17 U18 U19 U20 U22 U21 U23. -/
import Derived.Test.YtbjepdfnmbdplaaGreatKA5
section
namespace Go.Proofs.YtbjepdfnmbdplaaGreat
open Go.RowKit
set_option linter.unusedSimpArgs false
set_option linter.unusedVariables false
set_option maxRecDepth 100000
set_option maxHeartbeats 1000000
instance mtime_spec (t : Int) : HasSpec Tryz.prog 234 [PV.int t] (.v (.bool (timeB t))) := by
  refine ⟨?_⟩; refine Spec.ofR (h := fun F w0 => ?_)
  repeat' ((conv => whnf); first | refine Q.E ?_ | (refine Stk.both (fun hb => ?_) (fun hb => ?_) <;> (try simp only [lE] at hb))); all_goals (conv => whnf)
  all_goals ((refine FinK.of (h := ?_)); (repeat' (first | exact FinL.nil | refine FinL.cons ?_ ?_ | refine Fin'.tup ?_ | exact Q.f3 | exact Q.f4 | exact Q.f5 | exact Q.f6 | refine Fin'.vb ?_ | refine Fin'.vi ?_ | refine Fin'.agg ?_)))
  all_goals unfold timeB
  all_goals ((first | rfl | (rw [Bool.eq_iff_iff]; simp only [tst_true, tst_false, lE, decide_eq_true_eq, decide_eq_false_iff_not, Bool.and_eq_true, Bool.or_eq_true, Bool.not_eq_true', Bool.not_eq_false', Bool.false_eq_true, Bool.true_eq_false, true_iff, iff_true, false_iff, iff_false, true_and, and_true, false_and, and_false, not_false_eq_true, not_true_eq_false]; try omega)))
instance mballot_spec (t : Int) : HasSpec Tryz.prog 236 [PV.int t] (.v (.bool (timeB t))) := by
  refine ⟨?_⟩; refine Spec.ofR (h := fun F w0 => ?_)
  repeat' ((conv => whnf); first | refine Q.E ?_ | (refine Stk.both (fun hb => ?_) (fun hb => ?_) <;> (try simp only [lE] at hb))); all_goals (conv => whnf)
  all_goals ((refine FinK.of (h := ?_)); (repeat' (first | exact FinL.nil | refine FinL.cons ?_ ?_ | refine Fin'.tup ?_ | exact Q.f3 | exact Q.f4 | exact Q.f5 | exact Q.f6 | refine Fin'.vb ?_ | refine Fin'.vi ?_ | refine Fin'.agg ?_)))
  all_goals unfold timeB
  all_goals ((first | rfl | (rw [Bool.eq_iff_iff]; simp only [tst_true, tst_false, lE, decide_eq_true_eq, decide_eq_false_iff_not, Bool.and_eq_true, Bool.or_eq_true, Bool.not_eq_true', Bool.not_eq_false', Bool.false_eq_true, Bool.true_eq_false, true_iff, iff_true, false_iff, iff_false, true_and, and_true, false_and, and_false, not_false_eq_true, not_true_eq_false]; try omega)))
instance mmark_spec (t : Int) : HasSpec Tryz.prog 261 [PV.int t] (.v (.bool (!noneB t))) := by
  refine ⟨?_⟩; refine Spec.ofR (h := fun F w0 => ?_)
  repeat' ((conv => whnf); first | refine Q.E ?_ | (refine Stk.both (fun hb => ?_) (fun hb => ?_) <;> (try simp only [lE] at hb))); all_goals (conv => whnf)
  all_goals ((refine FinK.of (h := ?_)); (repeat' (first | exact FinL.nil | refine FinL.cons ?_ ?_ | refine Fin'.tup ?_ | exact Q.f3 | exact Q.f4 | exact Q.f5 | exact Q.f6 | refine Fin'.vb ?_ | refine Fin'.vi ?_ | refine Fin'.agg ?_)))
  all_goals unfold noneB
  all_goals ((first | rfl | (rw [Bool.eq_iff_iff]; simp only [tst_true, tst_false, lE, decide_eq_true_eq, decide_eq_false_iff_not, Bool.and_eq_true, Bool.or_eq_true, Bool.not_eq_true', Bool.not_eq_false', Bool.false_eq_true, Bool.true_eq_false, true_iff, iff_true, false_iff, iff_false, true_and, and_true, false_and, and_false, not_false_eq_true, not_true_eq_false]; try omega)))
instance mprom1_spec (t : Int) : HasSpec Tryz.prog 262 [PV.int t] (.v (.bool (noneB t))) := by
  refine ⟨?_⟩; refine Spec.ofR (h := fun F w0 => ?_)
  repeat' ((conv => whnf); first | refine Q.E ?_ | (refine Stk.both (fun hb => ?_) (fun hb => ?_) <;> (try simp only [lE] at hb))); all_goals (conv => whnf)
  ((refine FinK.of (h := ?_)); (repeat' (first | exact FinL.nil | refine FinL.cons ?_ ?_ | refine Fin'.tup ?_ | exact Q.f3 | exact Q.f4 | exact Q.f5 | exact Q.f6 | refine Fin'.vb ?_ | refine Fin'.vi ?_ | refine Fin'.agg ?_)))
  simp
instance carried_spec (m : Msg) : HasSpec Tryz.prog 235 [.agg m.cs] (.v (.bool (carB m))) := by
  have hc := cnt_zero m.quorum
  by_cases hq : 1 ≤ m.quorum ∧ m.quorum ≤ 511
  · have hpos : ((listS m.quorum 9).length : Int) ≠ 0 := by
      intro h
      rw [hc] at h
      exact h hq
    by_cases hp : m.payload.size ≤ 300
    · rw [show carB m = true from decide_eq_true ⟨hq.1, hq.2, hp⟩]
      refine ⟨?_⟩; refine Spec.ofR (h := fun F w0 => ?_)
      repeat' ((conv => whnf); first | refine Q.E ?_ | (refine Stk.both (fun hb => ?_) (fun hb => ?_) <;> (try simp only [lE] at hb))); all_goals (conv => whnf)
      ((refine FinK.of (h := ?_)); (repeat' (first | exact FinL.nil | refine FinL.cons ?_ ?_ | refine Fin'.tup ?_ | exact Q.f3 | exact Q.f4 | exact Q.f5 | exact Q.f6 | refine Fin'.vb ?_ | refine Fin'.vi ?_ | refine Fin'.agg ?_)))
      all_goals (first | rfl | exact tst_true.2 (by omega) | exact tst_false.2 (by omega) | (simp [tst_eq]; done) | (simp only [Bool.not_true, Bool.not_false, Bool.and_true, Bool.true_and, Bool.and_false, Bool.false_and]; first | done | exact tst_true.2 (by omega) | exact tst_false.2 (by omega) | (rw [tst_true.2 (by omega)]; done) | (rw [tst_false.2 (by omega)]; done)))
    · rw [show carB m = false from decide_eq_false (by omega)]
      refine ⟨?_⟩; refine Spec.ofR (h := fun F w0 => ?_)
      repeat' ((conv => whnf); first | refine Q.E ?_ | (refine Stk.both (fun hb => ?_) (fun hb => ?_) <;> (try simp only [lE] at hb))); all_goals (conv => whnf)
      ((refine FinK.of (h := ?_)); (repeat' (first | exact FinL.nil | refine FinL.cons ?_ ?_ | refine Fin'.tup ?_ | exact Q.f3 | exact Q.f4 | exact Q.f5 | exact Q.f6 | refine Fin'.vb ?_ | refine Fin'.vi ?_ | refine Fin'.agg ?_)))
      all_goals (first | rfl | exact tst_true.2 (by omega) | exact tst_false.2 (by omega) | (simp [tst_eq]; done) | (simp only [Bool.not_true, Bool.not_false, Bool.and_true, Bool.true_and, Bool.and_false, Bool.false_and]; first | done | exact tst_true.2 (by omega) | exact tst_false.2 (by omega) | (rw [tst_true.2 (by omega)]; done) | (rw [tst_false.2 (by omega)]; done)))
  · have hz : ((listS m.quorum 9).length : Int) = 0 := by rw [hc]; exact hq
    rw [show carB m = false from decide_eq_false (by omega)]
    refine ⟨?_⟩; refine Spec.ofR (h := fun F w0 => ?_)
    repeat' ((conv => whnf); first | refine Q.E ?_ | (refine Stk.both (fun hb => ?_) (fun hb => ?_) <;> (try simp only [lE] at hb))); all_goals (conv => whnf)
    all_goals first | (exfalso; omega) | ((refine FinK.of (h := ?_)); (repeat' (first | exact FinL.nil | refine FinL.cons ?_ ?_ | refine Fin'.tup ?_ | exact Q.f3 | exact Q.f4 | exact Q.f5 | exact Q.f6 | refine Fin'.vb ?_ | refine Fin'.vi ?_ | refine Fin'.agg ?_)))
    all_goals (first | rfl | exact tst_true.2 (by omega) | exact tst_false.2 (by omega) | (simp [tst_eq]; done) | (simp only [Bool.not_true, Bool.not_false, Bool.and_true, Bool.true_and, Bool.and_false, Bool.false_and]; first | done | exact tst_true.2 (by omega) | exact tst_false.2 (by omega) | (rw [tst_true.2 (by omega)]; done) | (rw [tst_false.2 (by omega)]; done)))
theorem tellB_0 {m : Msg} (h : m.abal = 0) : tellB m = decide (0 < m.bal ∧ 1 ≤ m.t ∧ m.t ≤ 1000000 ∧ (m.phase = 3 ∨ m.phase = 4)) := by
  unfold tellB
  rw [if_pos h, h, ← Bool.decide_and, decide_eq_decide]
  omega
theorem tellB_1 {m : Msg} (h : ¬ m.abal = 0) : tellB m = decide (0 ≤ m.abal ∧ m.abal < m.bal ∧ 1 ≤ m.t ∧ m.t ≤ 1000000 ∧ 1 ≤ m.phase ∧ m.phase ≤ 4) := by
  unfold tellB
  rw [if_neg h, ← Bool.decide_and, decide_eq_decide]
  omega
instance mtold_spec (m : Msg) : HasSpec Tryz.prog 237 [.agg m.cs] (.v (.bool (tellB m))) := by
  have ht := timeB_iff (t := m.t)
  by_cases h : m.abal = 0
  · rw [tellB_0 h]
    cases h2 : timeB m.t with
    | true =>
      have h3 := ht.1 h2
      by_cases h4 : 0 < m.bal ∧ (m.phase = 3 ∨ m.phase = 4)
      · rw [decide_eq_true ⟨h4.1, h3.1, h3.2, h4.2⟩]
        by_cases h5 : m.phase = 3
        · refine ⟨?_⟩; refine Spec.ofR (h := fun F w0 => ?_)
          repeat' ((conv => whnf); first | refine Q.E ?_ | (refine Stk.both (fun hb => ?_) (fun hb => ?_) <;> (try simp only [lE] at hb))); all_goals (conv => whnf)
          ((refine FinK.of (h := ?_)); (repeat' (first | exact FinL.nil | refine FinL.cons ?_ ?_ | refine Fin'.tup ?_ | exact Q.f3 | exact Q.f4 | exact Q.f5 | exact Q.f6 | refine Fin'.vb ?_ | refine Fin'.vi ?_ | refine Fin'.agg ?_)))
          all_goals (first | rfl | exact tst_true.2 (by omega) | exact tst_false.2 (by omega) | (simp [tst_eq]; done) | (simp only [Bool.not_true, Bool.not_false, Bool.and_true, Bool.true_and, Bool.and_false, Bool.false_and]; first | done | exact tst_true.2 (by omega) | exact tst_false.2 (by omega) | (rw [tst_true.2 (by omega)]; done) | (rw [tst_false.2 (by omega)]; done)))
        · have h6 : m.phase = 4 := by omega
          refine ⟨?_⟩; refine Spec.ofR (h := fun F w0 => ?_)
          repeat' ((conv => whnf); first | refine Q.E ?_ | (refine Stk.both (fun hb => ?_) (fun hb => ?_) <;> (try simp only [lE] at hb))); all_goals (conv => whnf)
          ((refine FinK.of (h := ?_)); (repeat' (first | exact FinL.nil | refine FinL.cons ?_ ?_ | refine Fin'.tup ?_ | exact Q.f3 | exact Q.f4 | exact Q.f5 | exact Q.f6 | refine Fin'.vb ?_ | refine Fin'.vi ?_ | refine Fin'.agg ?_)))
          all_goals (first | rfl | exact tst_true.2 (by omega) | exact tst_false.2 (by omega) | (simp [tst_eq]; done) | (simp only [Bool.not_true, Bool.not_false, Bool.and_true, Bool.true_and, Bool.and_false, Bool.false_and]; first | done | exact tst_true.2 (by omega) | exact tst_false.2 (by omega) | (rw [tst_true.2 (by omega)]; done) | (rw [tst_false.2 (by omega)]; done)))
      · rw [decide_eq_false (fun h => h4 ⟨h.1, h.2.2.2⟩)]
        refine ⟨?_⟩; refine Spec.ofR (h := fun F w0 => ?_)
        repeat' ((conv => whnf); first | refine Q.E ?_ | (refine Stk.both (fun hb => ?_) (fun hb => ?_) <;> (try simp only [lE] at hb))); all_goals (conv => whnf)
        all_goals first | (exfalso; omega) | ((refine FinK.of (h := ?_)); (repeat' (first | exact FinL.nil | refine FinL.cons ?_ ?_ | refine Fin'.tup ?_ | exact Q.f3 | exact Q.f4 | exact Q.f5 | exact Q.f6 | refine Fin'.vb ?_ | refine Fin'.vi ?_ | refine Fin'.agg ?_)))
        all_goals (first | rfl | exact tst_true.2 (by omega) | exact tst_false.2 (by omega) | (simp [tst_eq]; done) | (simp only [Bool.not_true, Bool.not_false, Bool.and_true, Bool.true_and, Bool.and_false, Bool.false_and]; first | done | exact tst_true.2 (by omega) | exact tst_false.2 (by omega) | (rw [tst_true.2 (by omega)]; done) | (rw [tst_false.2 (by omega)]; done)))
    | false =>
      rw [decide_eq_false (fun h => by rw [ht.2 ⟨h.2.1, h.2.2.1⟩] at h2; cases h2)]
      refine ⟨?_⟩; refine Spec.ofR (h := fun F w0 => ?_)
      repeat' ((conv => whnf); first | refine Q.E ?_ | (refine Stk.both (fun hb => ?_) (fun hb => ?_) <;> (try simp only [lE] at hb))); all_goals (conv => whnf)
      all_goals ((refine FinK.of (h := ?_)); (repeat' (first | exact FinL.nil | refine FinL.cons ?_ ?_ | refine Fin'.tup ?_ | exact Q.f3 | exact Q.f4 | exact Q.f5 | exact Q.f6 | refine Fin'.vb ?_ | refine Fin'.vi ?_ | refine Fin'.agg ?_)))
  · rw [tellB_1 h]
    cases h2 : timeB m.t with
    | true =>
      have h3 := ht.1 h2
      by_cases h4 : 0 ≤ m.abal ∧ m.abal < m.bal ∧ 1 ≤ m.phase ∧ m.phase ≤ 4
      · rw [decide_eq_true ⟨h4.1, h4.2.1, h3.1, h3.2, h4.2.2⟩]
        refine ⟨?_⟩; refine Spec.ofR (h := fun F w0 => ?_)
        repeat' ((conv => whnf); first | refine Q.E ?_ | (refine Stk.both (fun hb => ?_) (fun hb => ?_) <;> (try simp only [lE] at hb))); all_goals (conv => whnf)
        ((refine FinK.of (h := ?_)); (repeat' (first | exact FinL.nil | refine FinL.cons ?_ ?_ | refine Fin'.tup ?_ | exact Q.f3 | exact Q.f4 | exact Q.f5 | exact Q.f6 | refine Fin'.vb ?_ | refine Fin'.vi ?_ | refine Fin'.agg ?_)))
        all_goals (first | rfl | exact tst_true.2 (by omega) | exact tst_false.2 (by omega) | (simp [tst_eq]; done) | (simp only [Bool.not_true, Bool.not_false, Bool.and_true, Bool.true_and, Bool.and_false, Bool.false_and]; first | done | exact tst_true.2 (by omega) | exact tst_false.2 (by omega) | (rw [tst_true.2 (by omega)]; done) | (rw [tst_false.2 (by omega)]; done)))
      · rw [decide_eq_false (fun h => h4 ⟨h.1, h.2.1, h.2.2.2.2⟩)]
        refine ⟨?_⟩; refine Spec.ofR (h := fun F w0 => ?_)
        repeat' ((conv => whnf); first | refine Q.E ?_ | (refine Stk.both (fun hb => ?_) (fun hb => ?_) <;> (try simp only [lE] at hb))); all_goals (conv => whnf)
        all_goals first | (exfalso; omega) | ((refine FinK.of (h := ?_)); (repeat' (first | exact FinL.nil | refine FinL.cons ?_ ?_ | refine Fin'.tup ?_ | exact Q.f3 | exact Q.f4 | exact Q.f5 | exact Q.f6 | refine Fin'.vb ?_ | refine Fin'.vi ?_ | refine Fin'.agg ?_)))
        all_goals (first | rfl | exact tst_true.2 (by omega) | exact tst_false.2 (by omega) | (simp [tst_eq]; done) | (simp only [Bool.not_true, Bool.not_false, Bool.and_true, Bool.true_and, Bool.and_false, Bool.false_and]; first | done | exact tst_true.2 (by omega) | exact tst_false.2 (by omega) | (rw [tst_true.2 (by omega)]; done) | (rw [tst_false.2 (by omega)]; done)))
    | false =>
      rw [decide_eq_false (fun h => by rw [ht.2 ⟨h.2.2.1, h.2.2.2.1⟩] at h2; cases h2)]
      refine ⟨?_⟩; refine Spec.ofR (h := fun F w0 => ?_)
      repeat' ((conv => whnf); first | refine Q.E ?_ | (refine Stk.both (fun hb => ?_) (fun hb => ?_) <;> (try simp only [lE] at hb))); all_goals (conv => whnf)
      all_goals ((refine FinK.of (h := ?_)); (repeat' (first | exact FinL.nil | refine FinL.cons ?_ ?_ | refine Fin'.tup ?_ | exact Q.f3 | exact Q.f4 | exact Q.f5 | exact Q.f6 | refine Fin'.vb ?_ | refine Fin'.vi ?_ | refine Fin'.agg ?_)))
instance attached_spec (l : List Att) (lo hi : Int) : HasSpec Tryz.prog 263 [PV.atts l, PV.int lo, PV.int hi] (.v (.bool (attB lo hi l && decide (l.length ≤ 200)))) := by
  refine ⟨Spec.bound 0 rfl fun hl => ?_⟩; rw [List.length_map] at hl; refine Spec.ofR (h := fun F w0 => ?_)
  repeat' ((conv => whnf); first | refine Q.E ?_ | (refine Stk.both (fun hb => ?_) (fun hb => ?_) <;> (try simp only [lE] at hb))); all_goals (conv => whnf)
  refine Stk.loop (ι := Nat) (fun i => [(0, PV.atts l), (2, PV.int hi), (7, PV.int (lastI Att.t lo (l.take i))), (11, PV.atts l), (12, PV.int (l.length : Nat)), (13, PV.int (i : Nat))]) (fun _ => []) (fun i => i ≤ l.length ∧ prefTo (attP lo hi) l i = true) (fun i => l.length - i) 0 ⟨Nat.zero_le _, rfl⟩ (Weak.gc ⟨rfl, rfl, rfl, rfl, rfl, rfl, trivial⟩ trivial rfl rfl rfl) (fun i hi' => ?_)
  obtain ⟨hi', hp⟩ := hi'
  have hb := (att_last hi' hp).1
  by_cases hlt : i < l.length
  · have hs := lastI_succ Att.t lo hlt
    cases hid : idB l[i].id with
    | false =>
      have ji := idchk_no hid
      rw [show attB lo hi l = false from pref_bad hlt (attP_f.2 fun h => by rw [hid] at h; exact absurd h.2.2.2 (by simp)), Bool.false_and]
      generalize lastI Att.t lo (l.take i) = la at *
      repeat' ((conv => whnf); first | refine Q.E ?_ | (refine Stk.both (fun hb => ?_) (fun hb => ?_) <;> (try simp only [lE] at hb))); all_goals (conv => whnf)
      all_goals ((refine FinK.of (h := ?_)); (repeat' (first | exact FinL.nil | refine FinL.cons ?_ ?_ | refine Fin'.tup ?_ | exact Q.f3 | exact Q.f4 | exact Q.f5 | exact Q.f6 | refine Fin'.vb ?_ | refine Fin'.vi ?_ | refine Fin'.agg ?_)))
    | true =>
      have ji := idchk_yes hid
      cases hq : attP lo hi (l.take i) l[i] with
      | true =>
        have h := attP_iff.1 hq
        have hp2 := prefTo_next hlt hp hq
        generalize lastI Att.t lo (l.take i) = la at h hb ⊢
        repeat' ((conv => whnf); first | refine Q.E ?_ | (refine Stk.both (fun hb => ?_) (fun hb => ?_) <;> (try simp only [lE] at hb))); all_goals (conv => whnf)
        refine ⟨i + 1, ⟨by omega, hp2⟩, by omega, ?_⟩
        rw [hs]
        exact Weak.gc ⟨rfl, rfl, rfl, rfl, rfl, rfl, trivial⟩ trivial rfl rfl rfl
      | false =>
        have h := attP_f.1 hq
        rw [show attB lo hi l = false from pref_bad hlt hq, Bool.false_and]
        generalize lastI Att.t lo (l.take i) = la at h hb ⊢
        repeat' ((conv => whnf); first | refine Q.E ?_ | (refine Stk.both (fun hb => ?_) (fun hb => ?_) <;> (try simp only [lE] at hb))); all_goals (conv => whnf)
        all_goals first | (exact absurd ⟨by omega, by omega, by omega, hid⟩ h) | ((refine FinK.of (h := ?_)); (repeat' (first | exact FinL.nil | refine FinL.cons ?_ ?_ | refine Fin'.tup ?_ | exact Q.f3 | exact Q.f4 | exact Q.f5 | exact Q.f6 | refine Fin'.vb ?_ | refine Fin'.vi ?_ | refine Fin'.agg ?_)))
  · rw [show attB lo hi l = true from pref_end (by omega) hi' hp, Bool.true_and]
    repeat' ((conv => whnf); first | refine Q.E ?_ | (refine Stk.both (fun hb => ?_) (fun hb => ?_) <;> (try simp only [lE] at hb))); all_goals (conv => whnf)
    ((refine FinK.of (h := ?_)); (repeat' (first | exact FinL.nil | refine FinL.cons ?_ ?_ | refine Fin'.tup ?_ | exact Q.f3 | exact Q.f4 | exact Q.f5 | exact Q.f6 | refine Fin'.vb ?_ | refine Fin'.vi ?_ | refine Fin'.agg ?_)))
    rw [tst_eq, decide_eq_decide]
    omega
theorem anym_spec (l : List Int) : HasSpec Tryz.prog 229 [PV.ints l, .fn (.func 262) [] []] (.v (.bool (l.any noneB))) := by
  refine ⟨Spec.bound 0 rfl fun hl => ?_⟩; rw [List.length_map] at hl; refine Spec.ofR (h := fun F w0 => ?_)
  repeat' ((conv => whnf); first | refine Q.a ?_ | refine Q.b ?_ | refine Q.c ?_ | refine Stk.is (by first | assumption | ((try simp only [lE]); first | done | assumption | omega)) ?_ | refine Stk.isnt (by first | assumption | ((try simp only [lE]); first | done | assumption | omega)) ?_ | (refine Stk.both (fun hb => ?_) (fun hb => ?_) <;> (try simp only [lE] at hb)) | refine Q.d ?_ | refine Q.e ?_ | refine Q.f ?_ | refine Q.g ?_ | refine Q.h ?_ | refine Q.i ?_ | refine Q.j ?_ | refine Q.k ?_ | refine Q.l ?_ | refine Q.m ?_ | refine Q.n ?_ | refine Q.o (h := ?_) | refine Q.p (h := ?_) | refine Q.q ?_ | refine Q.r ?_ | refine Q.s ?_ | refine Q.t ?_ | refine Q.u ?_ | refine Q.v ?_ | refine Q.w ?_ | refine Q.x ?_ | refine Q.y ?_ | refine Q.z ?_ | refine Stk.inl (h := fun tm => ?_) | refine Stk.inl0 (h := fun tm => ?_) | refine DefG.go (h := fun vs us => ?_) | intro (tm : Array Value) | refine Stk.op (ok_buildA rfl rfl rfl rfl) ?_ | refine Stk.scope ?_); all_goals (conv => whnf)
  refine Stk.loop (ι := Nat) (fun i => [(0, PV.ints l), (1, .fn (.func 262) [] []), (7, PV.int (l.length : Nat)), (8, PV.int (i : Nat))]) (fun i => []) (fun i => i ≤ l.length ∧ ∀ x ∈ l.take i, noneB x = false) (fun i => l.length - i) 0 ⟨Nat.zero_le _, by simp⟩ (Weak.gc ⟨rfl, rfl, rfl, rfl, trivial⟩ trivial rfl rfl rfl) (fun i hi => ?_)
  obtain ⟨hi, hno⟩ := hi
  by_cases hlt : i < l.length
  · have j1 := mprom1_spec l[i]
    cases hq : noneB l[i] with
    | true =>
      rw [hq] at j1
      rw [any_at (p := noneB) hlt hq]
      repeat' ((conv => whnf); first | refine Q.E ?_ | (refine Stk.both (fun hb => ?_) (fun hb => ?_) <;> (try simp only [lE] at hb))); all_goals (conv => whnf)
      ((refine FinK.of (h := ?_)); (repeat' (first | exact FinL.nil | refine FinL.cons ?_ ?_ | refine Fin'.tup ?_ | exact Q.f3 | exact Q.f4 | exact Q.f5 | exact Q.f6 | refine Fin'.vb ?_ | refine Fin'.vi ?_ | refine Fin'.agg ?_)))
      all_goals (first | rfl | exact tst_true.2 (by omega) | exact tst_false.2 (by omega) | (simp [tst_eq]; done) | (simp only [Bool.not_true, Bool.not_false, Bool.and_true, Bool.true_and, Bool.and_false, Bool.false_and]; first | done | exact tst_true.2 (by omega) | exact tst_false.2 (by omega) | (rw [tst_true.2 (by omega)]; done) | (rw [tst_false.2 (by omega)]; done)))
    | false =>
      rw [hq] at j1
      repeat' ((conv => whnf); first | refine Q.E ?_ | (refine Stk.both (fun hb => ?_) (fun hb => ?_) <;> (try simp only [lE] at hb))); all_goals (conv => whnf)
      exact ⟨i + 1, ⟨by omega, take_no (p := noneB) hlt hno hq⟩, by omega, Weak.gc ⟨rfl, rfl, rfl, rfl, trivial⟩ trivial rfl rfl rfl⟩
  · rw [any_none (p := noneB) hlt hno]
    repeat' ((conv => whnf); first | refine Q.E ?_ | (refine Stk.both (fun hb => ?_) (fun hb => ?_) <;> (try simp only [lE] at hb))); all_goals (conv => whnf)
    ((refine FinK.of (h := ?_)); (repeat' (first | exact FinL.nil | refine FinL.cons ?_ ?_ | refine Fin'.tup ?_ | exact Q.f3 | exact Q.f4 | exact Q.f5 | exact Q.f6 | refine Fin'.vb ?_ | refine Fin'.vi ?_ | refine Fin'.agg ?_)))
    all_goals (first | rfl | exact tst_true.2 (by omega) | exact tst_false.2 (by omega) | (simp [tst_eq]; done) | (simp only [Bool.not_true, Bool.not_false, Bool.and_true, Bool.true_and, Bool.and_false, Bool.false_and]; first | done | exact tst_true.2 (by omega) | exact tst_false.2 (by omega) | (rw [tst_true.2 (by omega)]; done) | (rw [tst_false.2 (by omega)]; done)))
theorem noneB_p {t : Int} : noneB t = false ↔ (0 ≤ t ∧ t ≤ 1000000) := by
  unfold noneB
  rw [decide_eq_false_iff_not]
  omega
instance promises_spec (m : Msg) : HasSpec Tryz.prog 233 [.agg m.cs] (.v (.bool (prmB m))) := by
  have j1 := anym_spec m.marks
  have j2 := attached_spec m.atts m.lo m.hi
  by_cases hf : 0 ≤ m.lo ∧ m.lo ≤ m.hi ∧ m.hi ≤ 1000000 ∧ 0 ≤ m.done ∧ m.done ≤ 1000000 ∧ m.marks.length ≤ 9
  · have n1 : noneB m.lo = false := noneB_p.2 (by omega)
    have n2 : noneB m.hi = false := noneB_p.2 (by omega)
    have n3 : noneB m.done = false := noneB_p.2 (by omega)
    have hfl : prmB m = ((attB m.lo m.hi m.atts && decide (m.atts.length ≤ 200)) && !m.marks.any noneB) := by
      unfold prmB
      by_cases h2 : m.atts.length ≤ 200
      · rw [decide_eq_true (show 0 ≤ m.lo ∧ m.lo ≤ m.hi ∧ m.hi ≤ 1000000 ∧ 0 ≤ m.done ∧ m.done ≤ 1000000 ∧ m.marks.length ≤ 9 ∧ m.atts.length ≤ 200 by omega), decide_eq_true h2, Bool.true_and, Bool.and_true, Bool.and_comm]
      · rw [decide_eq_false (show ¬ (0 ≤ m.lo ∧ m.lo ≤ m.hi ∧ m.hi ≤ 1000000 ∧ 0 ≤ m.done ∧ m.done ≤ 1000000 ∧ m.marks.length ≤ 9 ∧ m.atts.length ≤ 200) by omega), decide_eq_false h2]
        simp
    rw [hfl]
    cases ha : (attB m.lo m.hi m.atts && decide (m.atts.length ≤ 200)) with
    | false =>
      rw [ha] at j2
      refine ⟨?_⟩; refine Spec.ofR (h := fun F w0 => ?_)
      repeat' ((conv => whnf); first | refine Q.E ?_ | (refine Stk.both (fun hb => ?_) (fun hb => ?_) <;> (try simp only [lE] at hb))); all_goals (conv => whnf)
      ((refine FinK.of (h := ?_)); (repeat' (first | exact FinL.nil | refine FinL.cons ?_ ?_ | refine Fin'.tup ?_ | exact Q.f3 | exact Q.f4 | exact Q.f5 | exact Q.f6 | refine Fin'.vb ?_ | refine Fin'.vi ?_ | refine Fin'.agg ?_)))
      all_goals (first | rfl | exact tst_true.2 (by omega) | exact tst_false.2 (by omega) | (simp [tst_eq]; done) | (simp only [Bool.not_true, Bool.not_false, Bool.and_true, Bool.true_and, Bool.and_false, Bool.false_and]; first | done | exact tst_true.2 (by omega) | exact tst_false.2 (by omega) | (rw [tst_true.2 (by omega)]; done) | (rw [tst_false.2 (by omega)]; done)))
    | true =>
      rw [ha] at j2
      refine ⟨?_⟩; refine Spec.ofR (h := fun F w0 => ?_)
      repeat' ((conv => whnf); first | refine Q.E ?_ | (refine Stk.both (fun hb => ?_) (fun hb => ?_) <;> (try simp only [lE] at hb))); all_goals (conv => whnf)
      ((refine FinK.of (h := ?_)); (repeat' (first | exact FinL.nil | refine FinL.cons ?_ ?_ | refine Fin'.tup ?_ | exact Q.f3 | exact Q.f4 | exact Q.f5 | exact Q.f6 | refine Fin'.vb ?_ | refine Fin'.vi ?_ | refine Fin'.agg ?_)))
      all_goals rfl
  · rw [show prmB m = false by unfold prmB; rw [decide_eq_false (by omega)]; rfl]
    have n1 := noneB_p (t := m.lo)
    have n2 := noneB_p (t := m.hi)
    have n3 := noneB_p (t := m.done)
    cases h1 : noneB m.lo with
    | true =>
      refine ⟨?_⟩; refine Spec.ofR (h := fun F w0 => ?_)
      repeat' ((conv => whnf); first | refine Q.E ?_ | (refine Stk.both (fun hb => ?_) (fun hb => ?_) <;> (try simp only [lE] at hb))); all_goals (conv => whnf)
      ((refine FinK.of (h := ?_)); (repeat' (first | exact FinL.nil | refine FinL.cons ?_ ?_ | refine Fin'.tup ?_ | exact Q.f3 | exact Q.f4 | exact Q.f5 | exact Q.f6 | refine Fin'.vb ?_ | refine Fin'.vi ?_ | refine Fin'.agg ?_)))
    | false =>
      cases h2 : noneB m.hi with
      | true =>
        refine ⟨?_⟩; refine Spec.ofR (h := fun F w0 => ?_)
        repeat' ((conv => whnf); first | refine Q.E ?_ | (refine Stk.both (fun hb => ?_) (fun hb => ?_) <;> (try simp only [lE] at hb))); all_goals (conv => whnf)
        ((refine FinK.of (h := ?_)); (repeat' (first | exact FinL.nil | refine FinL.cons ?_ ?_ | refine Fin'.tup ?_ | exact Q.f3 | exact Q.f4 | exact Q.f5 | exact Q.f6 | refine Fin'.vb ?_ | refine Fin'.vi ?_ | refine Fin'.agg ?_)))
      | false =>
        have := n1.1 h1
        have := n2.1 h2
        cases h3 : noneB m.done with
        | true =>
          refine ⟨?_⟩; refine Spec.ofR (h := fun F w0 => ?_)
          repeat' ((conv => whnf); first | refine Q.E ?_ | (refine Stk.both (fun hb => ?_) (fun hb => ?_) <;> (try simp only [lE] at hb))); all_goals (conv => whnf)
          all_goals ((refine FinK.of (h := ?_)); (repeat' (first | exact FinL.nil | refine FinL.cons ?_ ?_ | refine Fin'.tup ?_ | exact Q.f3 | exact Q.f4 | exact Q.f5 | exact Q.f6 | refine Fin'.vb ?_ | refine Fin'.vi ?_ | refine Fin'.agg ?_)))
        | false =>
          have := n3.1 h3
          refine ⟨?_⟩; refine Spec.ofR (h := fun F w0 => ?_)
          repeat' ((conv => whnf); first | refine Q.E ?_ | (refine Stk.both (fun hb => ?_) (fun hb => ?_) <;> (try simp only [lE] at hb))); all_goals (conv => whnf)
          all_goals first | (exfalso; omega) | ((refine FinK.of (h := ?_)); (repeat' (first | exact FinL.nil | refine FinL.cons ?_ ?_ | refine Fin'.tup ?_ | exact Q.f3 | exact Q.f4 | exact Q.f5 | exact Q.f6 | refine Fin'.vb ?_ | refine Fin'.vi ?_ | refine Fin'.agg ?_)))
end Go.Proofs.YtbjepdfnmbdplaaGreat
end
section
namespace Go.Proofs.YtbjepdfnmbdplaaGreat
open Go.RowKit
set_option linter.unusedSimpArgs false
set_option linter.unusedVariables false
set_option maxRecDepth 100000
set_option maxHeartbeats 1000000
theorem take_eqG {α : Type} {a b : List α} {i : Nat} (h : a.take i = b.take i) (ha : i < a.length) (hb : i < b.length) (e : a[i] = b[i]) : a.take (i + 1) = b.take (i + 1) := by
  rw [take_snoc' a i ha, take_snoc' b i hb, h, e]
theorem Att.eq2 (a b : Att) : ([a.t, a.id] = [b.t, b.id]) = (a = b) := by
  cases a; cases b
  simp
instance equalatt_spec (a b : List Att) : HasSpec Tryz.prog 231 [PV.atts a, PV.atts b] (.v (.bool (decide (a = b)))) := by
  refine ⟨Spec.bound 0 rfl fun hl => ?_⟩; rw [List.length_map] at hl; refine Spec.ofR (h := fun F w0 => ?_)
  by_cases hl2 : a.length = b.length
  · repeat' ((conv => whnf); first | refine Q.E ?_ | (refine Stk.both (fun hb => ?_) (fun hb => ?_) <;> (try simp only [lE] at hb))); all_goals (conv => whnf)
    refine Stk.loop (ι := Nat) (fun i => [(0, PV.atts a), (1, PV.atts b), (12, PV.int (a.length : Nat)), (13, PV.int (i : Nat))]) (fun _ => []) (fun i => i ≤ a.length ∧ a.take i = b.take i) (fun i => a.length - i) 0 ⟨Nat.zero_le _, by simp⟩ (Weak.gc ⟨rfl, rfl, rfl, rfl, trivial⟩ trivial rfl rfl rfl) (fun i hi => ?_)
    obtain ⟨hi, he⟩ := hi
    by_cases hlt : i < a.length
    · have hlb : i < b.length := by omega
      by_cases hq : a[i] = b[i]
      · have hz : (!tst ([a[i].t, a[i].id] = [b[i].t, b[i].id])) = false := by rw [tst_true.2 (by rw [hq])]; rfl
        repeat' ((conv => whnf); first | refine Q.E ?_ | (refine Stk.both (fun hb => ?_) (fun hb => ?_) <;> (try simp only [lE] at hb))); all_goals (conv => whnf)
        exact ⟨i + 1, ⟨by omega, take_eqG he hlt hlb hq⟩, by omega, Weak.gc ⟨rfl, rfl, rfl, rfl, trivial⟩ trivial rfl rfl rfl⟩
      · have hz : (!tst ([a[i].t, a[i].id] = [b[i].t, b[i].id])) = true := by rw [tst_false.2 (by rw [Att.eq2]; exact hq)]; rfl
        rw [show decide (a = b) = false from decide_eq_false (fun e => hq (by subst e; rfl))]
        repeat' ((conv => whnf); first | refine Q.E ?_ | (refine Stk.both (fun hb => ?_) (fun hb => ?_) <;> (try simp only [lE] at hb))); all_goals (conv => whnf)
        ((refine FinK.of (h := ?_)); (repeat' (first | exact FinL.nil | refine FinL.cons ?_ ?_ | refine Fin'.tup ?_ | exact Q.f3 | exact Q.f4 | exact Q.f5 | exact Q.f6 | refine Fin'.vb ?_ | refine Fin'.vi ?_ | refine Fin'.agg ?_)))
    · rw [List.take_of_length_le (by omega), List.take_of_length_le (by omega)] at he
      rw [decide_eq_true he]
      repeat' ((conv => whnf); first | refine Q.E ?_ | (refine Stk.both (fun hb => ?_) (fun hb => ?_) <;> (try simp only [lE] at hb))); all_goals (conv => whnf)
      ((refine FinK.of (h := ?_)); (repeat' (first | exact FinL.nil | refine FinL.cons ?_ ?_ | refine Fin'.tup ?_ | exact Q.f3 | exact Q.f4 | exact Q.f5 | exact Q.f6 | refine Fin'.vb ?_ | refine Fin'.vi ?_ | refine Fin'.agg ?_)))
  · rw [show decide (a = b) = false from decide_eq_false (fun e => hl2 (by rw [e]))]
    repeat' ((conv => whnf); first | refine Q.E ?_ | (refine Stk.both (fun hb => ?_) (fun hb => ?_) <;> (try simp only [lE] at hb))); all_goals (conv => whnf)
    ((refine FinK.of (h := ?_)); (repeat' (first | exact FinL.nil | refine FinL.cons ?_ ?_ | refine Fin'.tup ?_ | exact Q.f3 | exact Q.f4 | exact Q.f5 | exact Q.f6 | refine Fin'.vb ?_ | refine Fin'.vi ?_ | refine Fin'.agg ?_)))
instance sameatts_spec (a b : List Att) : HasSpec Tryz.prog 64 [PV.atts a, PV.atts b] (.v (.bool (decide (a = b)))) := by
  refine ⟨Spec.bound 0 rfl fun hl => ?_⟩; rw [List.length_map] at hl; refine Spec.ofR (h := fun F w0 => ?_)
  by_cases hl2 : a.length = b.length
  · repeat' ((conv => whnf); first | refine Q.E ?_ | (refine Stk.both (fun hb => ?_) (fun hb => ?_) <;> (try simp only [lE] at hb))); all_goals (conv => whnf)
    refine Stk.loop (ι := Nat) (fun i => [(0, PV.atts a), (1, PV.atts b), (5, PV.int (i : Nat))]) (fun _ => []) (fun i => i ≤ a.length ∧ a.take i = b.take i) (fun i => a.length - i) 0 ⟨Nat.zero_le _, by simp⟩ (Weak.gc ⟨rfl, rfl, rfl, trivial⟩ trivial rfl rfl rfl) (fun i hi => ?_)
    obtain ⟨hi, he⟩ := hi
    by_cases hlt : i < a.length
    · have hlb : i < b.length := by omega
      by_cases hq : a[i] = b[i]
      · have hz : (!tst ([a[i].t, a[i].id] = [b[i].t, b[i].id])) = false := by rw [tst_true.2 (by rw [hq])]; rfl
        repeat' ((conv => whnf); first | refine Q.E ?_ | (refine Stk.both (fun hb => ?_) (fun hb => ?_) <;> (try simp only [lE] at hb))); all_goals (conv => whnf)
        exact ⟨i + 1, ⟨by omega, take_eqG he hlt hlb hq⟩, by omega, Weak.gc ⟨rfl, rfl, rfl, trivial⟩ trivial rfl rfl rfl⟩
      · have hz : (!tst ([a[i].t, a[i].id] = [b[i].t, b[i].id])) = true := by rw [tst_false.2 (by rw [Att.eq2]; exact hq)]; rfl
        rw [show decide (a = b) = false from decide_eq_false (fun e => hq (by subst e; rfl))]
        repeat' ((conv => whnf); first | refine Q.E ?_ | (refine Stk.both (fun hb => ?_) (fun hb => ?_) <;> (try simp only [lE] at hb))); all_goals (conv => whnf)
        ((refine FinK.of (h := ?_)); (repeat' (first | exact FinL.nil | refine FinL.cons ?_ ?_ | refine Fin'.tup ?_ | exact Q.f3 | exact Q.f4 | exact Q.f5 | exact Q.f6 | refine Fin'.vb ?_ | refine Fin'.vi ?_ | refine Fin'.agg ?_)))
    · rw [List.take_of_length_le (by omega), List.take_of_length_le (by omega)] at he
      rw [decide_eq_true he]
      repeat' ((conv => whnf); first | refine Q.E ?_ | (refine Stk.both (fun hb => ?_) (fun hb => ?_) <;> (try simp only [lE] at hb))); all_goals (conv => whnf)
      ((refine FinK.of (h := ?_)); (repeat' (first | exact FinL.nil | refine FinL.cons ?_ ?_ | refine Fin'.tup ?_ | exact Q.f3 | exact Q.f4 | exact Q.f5 | exact Q.f6 | refine Fin'.vb ?_ | refine Fin'.vi ?_ | refine Fin'.agg ?_)))
  · rw [show decide (a = b) = false from decide_eq_false (fun e => hl2 (by rw [e]))]
    repeat' ((conv => whnf); first | refine Q.E ?_ | (refine Stk.both (fun hb => ?_) (fun hb => ?_) <;> (try simp only [lE] at hb))); all_goals (conv => whnf)
    ((refine FinK.of (h := ?_)); (repeat' (first | exact FinL.nil | refine FinL.cons ?_ ?_ | refine Fin'.tup ?_ | exact Q.f3 | exact Q.f4 | exact Q.f5 | exact Q.f6 | refine Fin'.vb ?_ | refine Fin'.vi ?_ | refine Fin'.agg ?_)))
theorem msg_no {a b : Msg} (h : a ≠ b) : decide (a = b) = false := decide_eq_false h
theorem msg_eq {a b : Msg} : a = b ↔ a.kind = b.kind ∧ a.fr = b.fr ∧ a.id = b.id ∧ a.t = b.t ∧ a.bal = b.bal ∧ a.abal = b.abal ∧ a.phase = b.phase ∧ a.quorum = b.quorum ∧ a.payload = b.payload ∧ a.lo = b.lo ∧ a.hi = b.hi ∧ a.atts = b.atts ∧ a.marks = b.marks ∧ a.done = b.done := by
  cases a; cases b
  simp
instance msgsame_spec (a b : Msg) : HasSpec Tryz.prog 181 [.agg a.cs, .agg b.cs] (.v (.bool (decide (a = b)))) := by
  refine ⟨?_⟩; refine Spec.ofR (h := fun F w0 => ?_)
  repeat' ((conv => whnf); first | refine Q.E ?_ | (refine Stk.both (fun hb => ?_) (fun hb => ?_) <;> (try simp only [lE] at hb))); all_goals (conv => whnf)
  all_goals ((refine FinK.of (h := ?_)); (repeat' (first | exact FinL.nil | refine FinL.cons ?_ ?_ | refine Fin'.tup ?_ | exact Q.f3 | exact Q.f4 | exact Q.f5 | exact Q.f6 | refine Fin'.vb ?_ | refine Fin'.vi ?_ | refine Fin'.agg ?_)))
  all_goals first | (refine (msg_no ?_).symm; rintro rfl; contradiction) | skip
  all_goals first | (refine (msg_no ?_).symm; rintro rfl; simp_all; done) | skip
  all_goals (rw [decide_eq_decide, msg_eq]; simp_all)
instance refmsgsame_spec (a b : Msg) : HasSpec Tryz.prog 69 [.agg a.cs, .agg b.cs] (.v (.bool (decide (a = b)))) := by
  refine ⟨?_⟩; refine Spec.ofR (h := fun F w0 => ?_)
  repeat' ((conv => whnf); first | refine Q.E ?_ | (refine Stk.both (fun hb => ?_) (fun hb => ?_) <;> (try simp only [lE] at hb))); all_goals (conv => whnf)
  all_goals ((refine FinK.of (h := ?_)); (repeat' (first | exact FinL.nil | refine FinL.cons ?_ ?_ | refine Fin'.tup ?_ | exact Q.f3 | exact Q.f4 | exact Q.f5 | exact Q.f6 | refine Fin'.vb ?_ | refine Fin'.vi ?_ | refine Fin'.agg ?_)))
  all_goals first | (refine (msg_no ?_).symm; rintro rfl; contradiction) | skip
  all_goals first | (refine (msg_no ?_).symm; rintro rfl; simp_all; done) | skip
  all_goals (rw [decide_eq_decide, msg_eq]; simp_all)
def nameL : List ByteArray := [⟨#[]⟩, ⟨#[112, 114, 111, 112, 111, 115, 101]⟩, ⟨#[112, 114, 111, 112, 111, 115, 101, 100]⟩, ⟨#[97, 99, 99, 101, 112, 116]⟩, ⟨#[97, 99, 99, 101, 112, 116, 101, 100]⟩, ⟨#[99, 111, 109, 109, 105, 116]⟩, ⟨#[114, 101, 115, 99, 117, 101]⟩, ⟨#[114, 101, 115, 99, 117, 101, 100]⟩, ⟨#[114, 101, 102, 117, 115, 101]⟩, ⟨#[112, 97, 121, 108, 111, 97, 100]⟩, ⟨#[112, 114, 111, 109, 105, 115, 101, 115]⟩]
def nameS (k : Int) : ByteArray := if 0 ≤ k then nameL.getD k.toNat noByte else noByte
theorem name_empty {k : Int} (h : ¬ (1 ≤ k ∧ k ≤ 10)) : nameS k = ⟨#[]⟩ := by
  unfold nameS
  split
  · by_cases h0 : k = 0
    · subst h0; rfl
    · rw [List.getD_eq_getElem?_getD, List.getElem?_eq_none (by show 11 ≤ k.toNat; omega)]
      rfl
  · rfl
theorem name_some {k : Int} (h : 1 ≤ k ∧ k ≤ 10) : nameS k ≠ ⟨#[]⟩ := by
  have : k = 1 ∨ k = 2 ∨ k = 3 ∨ k = 4 ∨ k = 5 ∨ k = 6 ∨ k = 7 ∨ k = 8 ∨ k = 9 ∨ k = 10 := by omega
  rcases this with h | h | h | h | h | h | h | h | h | h <;> subst h <;> decide
theorem name_ld {k : Int} (h : 0 ≤ k ∧ k < 11) : (nameL.map fun s => PV.v (.string s))[0 + k.toNat * 1]? = some (.v (.string (nameS k))) := by
  have hk : k.toNat < nameL.length := by show k.toNat < 11; omega
  rw [Nat.zero_add, Nat.mul_one, List.getElem?_map, List.getElem?_eq_getElem hk]
  unfold nameS
  rw [if_pos h.1, List.getD_eq_getElem?_getD, List.getElem?_eq_getElem hk]
  rfl
instance name_spec (k : Int) : HasSpec Tryz.prog 179 [PV.int k] (.v (.string (nameS k))) := by
  by_cases h : 0 ≤ k ∧ k < 11
  · refine ⟨?_⟩; refine Spec.ofR (h := fun F w0 => ?_)
    repeat' ((conv => whnf); first | refine Q.a ?_ | refine Q.b ?_ | refine Q.c ?_ | refine Stk.is (by first | assumption | ((try simp only [lE]); first | done | assumption | omega)) ?_ | refine Stk.isnt (by first | assumption | ((try simp only [lE]); first | done | assumption | omega)) ?_ | (refine Stk.both (fun hb => ?_) (fun hb => ?_) <;> (try simp only [lE] at hb)) | refine Q.d ?_ | refine Q.e ?_ | refine Q.f ?_ | refine Q.g ?_ | refine Q.h ?_ | refine Q.i ?_ | refine Q.j ?_ | refine Q.k ?_ | refine Q.l ?_ | refine Q.m ?_ | refine Q.n ?_ | refine Q.o (h := ?_) | refine Q.p (h := ?_) | refine Q.q ?_ | refine Q.r ?_ | refine Q.s ?_ | refine Q.t ?_ | refine Q.u ?_ | refine Q.v ?_ | refine Q.w ?_ | refine Q.x ?_ | refine Q.y ?_ | refine Q.z ?_ | refine Stk.inl (h := fun tm => ?_) | refine Stk.inl0 (h := fun tm => ?_) | refine DefG.go (h := fun vs us => ?_) | intro (tm : Array Value) | refine Stk.op (ok_buildA rfl rfl rfl rfl) ?_ | refine Stk.scope ?_); all_goals (conv => whnf)
    refine Stk.ld (p := .v (.string (nameS k))) (by exact name_ld h) ?_
    repeat' ((conv => whnf); first | refine Q.E ?_ | (refine Stk.both (fun hb => ?_) (fun hb => ?_) <;> (try simp only [lE] at hb))); all_goals (conv => whnf)
    ((refine FinK.of (h := ?_)); (repeat' (first | exact FinL.nil | refine FinL.cons ?_ ?_ | refine Fin'.tup ?_ | exact Q.f3 | exact Q.f4 | exact Q.f5 | exact Q.f6 | refine Fin'.vb ?_ | refine Fin'.vi ?_ | refine Fin'.agg ?_)))
  · rw [name_empty (by omega)]
    refine ⟨?_⟩; refine Spec.ofR (h := fun F w0 => ?_)
    repeat' ((conv => whnf); first | refine Q.a ?_ | refine Q.b ?_ | refine Q.c ?_ | refine Stk.is (by first | assumption | ((try simp only [lE]); first | done | assumption | omega)) ?_ | refine Stk.isnt (by first | assumption | ((try simp only [lE]); first | done | assumption | omega)) ?_ | (refine Stk.both (fun hb => ?_) (fun hb => ?_) <;> (try simp only [lE] at hb)) | refine Q.d ?_ | refine Q.e ?_ | refine Q.f ?_ | refine Q.g ?_ | refine Q.h ?_ | refine Q.i ?_ | refine Q.j ?_ | refine Q.k ?_ | refine Q.l ?_ | refine Q.m ?_ | refine Q.n ?_ | refine Q.o (h := ?_) | refine Q.p (h := ?_) | refine Q.q ?_ | refine Q.r ?_ | refine Q.s ?_ | refine Q.t ?_ | refine Q.u ?_ | refine Q.v ?_ | refine Q.w ?_ | refine Q.x ?_ | refine Q.y ?_ | refine Q.z ?_ | refine Stk.inl (h := fun tm => ?_) | refine Stk.inl0 (h := fun tm => ?_) | refine DefG.go (h := fun vs us => ?_) | intro (tm : Array Value) | refine Stk.op (ok_buildA rfl rfl rfl rfl) ?_ | refine Stk.scope ?_); all_goals (conv => whnf)
    all_goals first | (exfalso; omega) | ((refine FinK.of (h := ?_)); (repeat' (first | exact FinL.nil | refine FinL.cons ?_ ?_ | refine Fin'.tup ?_ | exact Q.f3 | exact Q.f4 | exact Q.f5 | exact Q.f6 | refine Fin'.vb ?_ | refine Fin'.vi ?_ | refine Fin'.agg ?_)))
instance : ConcT Tryz.prog 52 := ⟨by kernel_rfl⟩
instance : ConcT Tryz.prog 245 := ⟨by kernel_rfl⟩
instance : IfcT Tryz.prog 123 := ⟨by kernel_rfl⟩
section
variable {P : Program} {X : XF} {w0 : World} {T : TT} {K : Exit → St → Prop} [tb : TabT P T]
theorem Stk.opW {nt d : Nat} {env env' : List (Nat × PV)} {lh lh' : List (Nat × LB)} {fs : List Fr} {op : Op} {ty : TypeId} {pos : String} {after : Array Edge} {ops : Array Oper} {l : List Oper} {p : PV} (h : OpOK P ⟨some d, op, ty, pos, after, none⟩ ⟨nt, env, lh⟩ p []) (hw : Weak X w0 ⟨nt, (d, p) :: env, lh⟩ ⟨nt, env', lh'⟩) (k : GoR P X w0 T (.next ⟨.ops ops l, nt, env', lh', fs⟩) K) :
    Stk P X w0 T (.stop ⟨.ops ops (⟨some d, op, ty, pos, after, none⟩ :: l), nt, env, lh, fs⟩) K := ⟨RW.st h (RW.weak hw (k.sem tb.ok tb.mixed))⟩
end
theorem failnew_spec (s : ByteArray) (e : Int) (h : e ≠ 0) : HasSpec Tryz.prog 180 [.v (.string s), PV.int e] (.ifc 245 .any) := by
  refine ⟨?_⟩; refine Spec.ofR (h := fun F w0 => ?_)
  repeat' ((conv => whnf); first | refine Q.E ?_ | (refine Stk.both (fun hb => ?_) (fun hb => ?_) <;> (try simp only [lE] at hb))); all_goals (conv => whnf)
  refine Stk.op (ok_mkIfc rfl rfl) ?_
  repeat' ((conv => whnf); first | refine Q.E ?_ | (refine Stk.both (fun hb => ?_) (fun hb => ?_) <;> (try simp only [lE] at hb))); all_goals (conv => whnf)
  refine Stk.opW (ok_mkIfc rfl rfl) Weak.hide ?_
  repeat' ((conv => whnf); first | refine Q.E ?_ | (refine Stk.both (fun hb => ?_) (fun hb => ?_) <;> (try simp only [lE] at hb))); all_goals (conv => whnf)
  ((refine FinK.of (h := ?_)); (repeat' (first | exact FinL.nil | refine FinL.cons ?_ ?_ | refine Fin'.tup ?_ | exact Q.f3 | exact Q.f4 | exact Q.f5 | exact Q.f6 | refine Fin'.vb ?_ | refine Fin'.vi ?_ | refine Fin'.agg ?_)))
theorem bare_spec (m : Msg) (h : 1 ≤ m.kind ∧ m.kind ≤ 10) : HasSpec Tryz.prog 182 [.agg m.cs] (.agg (bareM m).cs) := by
  obtain ⟨kind, fr, id, t, bal, abal, phase, quorum, payload, lo, hi, atts, marks, done⟩ := m
  simp only at h
  have : kind = 1 ∨ kind = 2 ∨ kind = 3 ∨ kind = 4 ∨ kind = 5 ∨ kind = 6 ∨ kind = 7 ∨ kind = 8 ∨ kind = 9 ∨ kind = 10 := by omega
  rcases this with h | h | h | h | h | h | h | h | h | h
  all_goals subst h
  all_goals refine ⟨?_⟩; refine Spec.ofR (h := fun F w0 => ?_)
  all_goals repeat' ((conv => whnf); first | refine Q.E ?_ | (refine Stk.both (fun hb => ?_) (fun hb => ?_) <;> (try simp only [lE] at hb))); all_goals (conv => whnf)
  all_goals ((refine FinK.of (h := ?_)); (repeat' (first | exact FinL.nil | refine FinL.cons ?_ ?_ | refine Fin'.tup ?_ | exact Q.f3 | exact Q.f4 | exact Q.f5 | exact Q.f6 | refine Fin'.vb ?_ | refine Fin'.vi ?_ | refine Fin'.agg ?_)))
end Go.Proofs.YtbjepdfnmbdplaaGreat
end
section
namespace Go.Proofs.YtbjepdfnmbdplaaGreat
open Go.RowKit
set_option linter.unusedSimpArgs false
set_option linter.unusedVariables false
set_option maxRecDepth 100000
set_option maxHeartbeats 1000000
instance may_spec (m : Msg) : HasSpec Tryz.prog 183 [.agg m.cs] (.v (.bool (mayM m))) := by
  by_cases h10 : m.kind = 10
  · rw [show mayM m = prmB m from if_pos h10]
    refine ⟨?_⟩; refine Spec.ofR (h := fun F w0 => ?_)
    repeat' ((conv => whnf); first | refine Q.E ?_ | (refine Stk.both (fun hb => ?_) (fun hb => ?_) <;> (try simp only [lE] at hb))); all_goals (conv => whnf)
    ((refine FinK.of (h := ?_)); (repeat' (first | exact FinL.nil | refine FinL.cons ?_ ?_ | refine Fin'.tup ?_ | exact Q.f3 | exact Q.f4 | exact Q.f5 | exact Q.f6 | refine Fin'.vb ?_ | refine Fin'.vi ?_ | refine Fin'.agg ?_)))
  · unfold mayM
    rw [if_neg h10]
    cases hid : idB m.id with
    | false =>
      have ji := idchk_no hid
      rw [Bool.false_and]
      refine ⟨?_⟩; refine Spec.ofR (h := fun F w0 => ?_)
      repeat' ((conv => whnf); first | refine Q.E ?_ | (refine Stk.both (fun hb => ?_) (fun hb => ?_) <;> (try simp only [lE] at hb))); all_goals (conv => whnf)
      ((refine FinK.of (h := ?_)); (repeat' (first | exact FinL.nil | refine FinL.cons ?_ ?_ | refine Fin'.tup ?_ | exact Q.f3 | exact Q.f4 | exact Q.f5 | exact Q.f6 | refine Fin'.vb ?_ | refine Fin'.vi ?_ | refine Fin'.agg ?_)))
    | true =>
      have ji := idchk_yes hid
      rw [Bool.true_and]
      by_cases h15 : m.kind = 1 ∨ m.kind = 5
      · rw [if_pos h15]
        cases ht : timeB m.t with
        | false =>
          by_cases h1 : m.kind = 1
          · refine ⟨?_⟩; refine Spec.ofR (h := fun F w0 => ?_)
            repeat' ((conv => whnf); first | refine Q.E ?_ | (refine Stk.both (fun hb => ?_) (fun hb => ?_) <;> (try simp only [lE] at hb))); all_goals (conv => whnf)
            ((refine FinK.of (h := ?_)); (repeat' (first | exact FinL.nil | refine FinL.cons ?_ ?_ | refine Fin'.tup ?_ | exact Q.f3 | exact Q.f4 | exact Q.f5 | exact Q.f6 | refine Fin'.vb ?_ | refine Fin'.vi ?_ | refine Fin'.agg ?_)))
          · have h5 : m.kind = 5 := by omega
            refine ⟨?_⟩; refine Spec.ofR (h := fun F w0 => ?_)
            repeat' ((conv => whnf); first | refine Q.E ?_ | (refine Stk.both (fun hb => ?_) (fun hb => ?_) <;> (try simp only [lE] at hb))); all_goals (conv => whnf)
            ((refine FinK.of (h := ?_)); (repeat' (first | exact FinL.nil | refine FinL.cons ?_ ?_ | refine Fin'.tup ?_ | exact Q.f3 | exact Q.f4 | exact Q.f5 | exact Q.f6 | refine Fin'.vb ?_ | refine Fin'.vi ?_ | refine Fin'.agg ?_)))
        | true =>
          by_cases h1 : m.kind = 1
          · refine ⟨?_⟩; refine Spec.ofR (h := fun F w0 => ?_)
            repeat' ((conv => whnf); first | refine Q.E ?_ | (refine Stk.both (fun hb => ?_) (fun hb => ?_) <;> (try simp only [lE] at hb))); all_goals (conv => whnf)
            ((refine FinK.of (h := ?_)); (repeat' (first | exact FinL.nil | refine FinL.cons ?_ ?_ | refine Fin'.tup ?_ | exact Q.f3 | exact Q.f4 | exact Q.f5 | exact Q.f6 | refine Fin'.vb ?_ | refine Fin'.vi ?_ | refine Fin'.agg ?_)))
          · have h5 : m.kind = 5 := by omega
            refine ⟨?_⟩; refine Spec.ofR (h := fun F w0 => ?_)
            repeat' ((conv => whnf); first | refine Q.E ?_ | (refine Stk.both (fun hb => ?_) (fun hb => ?_) <;> (try simp only [lE] at hb))); all_goals (conv => whnf)
            ((refine FinK.of (h := ?_)); (repeat' (first | exact FinL.nil | refine FinL.cons ?_ ?_ | refine Fin'.tup ?_ | exact Q.f3 | exact Q.f4 | exact Q.f5 | exact Q.f6 | refine Fin'.vb ?_ | refine Fin'.vi ?_ | refine Fin'.agg ?_)))
      · rw [if_neg h15]
        by_cases h3 : m.kind = 3
        · rw [if_pos h3]
          cases ht : timeB m.t with
          | false =>
            refine ⟨?_⟩; refine Spec.ofR (h := fun F w0 => ?_)
            repeat' ((conv => whnf); first | refine Q.E ?_ | (refine Stk.both (fun hb => ?_) (fun hb => ?_) <;> (try simp only [lE] at hb))); all_goals (conv => whnf)
            ((refine FinK.of (h := ?_)); (repeat' (first | exact FinL.nil | refine FinL.cons ?_ ?_ | refine Fin'.tup ?_ | exact Q.f3 | exact Q.f4 | exact Q.f5 | exact Q.f6 | refine Fin'.vb ?_ | refine Fin'.vi ?_ | refine Fin'.agg ?_)))
          | true =>
            cases hb : timeB m.bal with
            | false =>
              refine ⟨?_⟩; refine Spec.ofR (h := fun F w0 => ?_)
              repeat' ((conv => whnf); first | refine Q.E ?_ | (refine Stk.both (fun hb => ?_) (fun hb => ?_) <;> (try simp only [lE] at hb))); all_goals (conv => whnf)
              ((refine FinK.of (h := ?_)); (repeat' (first | exact FinL.nil | refine FinL.cons ?_ ?_ | refine Fin'.tup ?_ | exact Q.f3 | exact Q.f4 | exact Q.f5 | exact Q.f6 | refine Fin'.vb ?_ | refine Fin'.vi ?_ | refine Fin'.agg ?_)))
            | true =>
              refine ⟨?_⟩; refine Spec.ofR (h := fun F w0 => ?_)
              repeat' ((conv => whnf); first | refine Q.E ?_ | (refine Stk.both (fun hb => ?_) (fun hb => ?_) <;> (try simp only [lE] at hb))); all_goals (conv => whnf)
              ((refine FinK.of (h := ?_)); (repeat' (first | exact FinL.nil | refine FinL.cons ?_ ?_ | refine Fin'.tup ?_ | exact Q.f3 | exact Q.f4 | exact Q.f5 | exact Q.f6 | refine Fin'.vb ?_ | refine Fin'.vi ?_ | refine Fin'.agg ?_)))
        · rw [if_neg h3]
          by_cases h6 : m.kind = 6
          · rw [if_pos h6]
            cases hb : timeB m.bal with
            | false =>
              refine ⟨?_⟩; refine Spec.ofR (h := fun F w0 => ?_)
              repeat' ((conv => whnf); first | refine Q.E ?_ | (refine Stk.both (fun hb => ?_) (fun hb => ?_) <;> (try simp only [lE] at hb))); all_goals (conv => whnf)
              ((refine FinK.of (h := ?_)); (repeat' (first | exact FinL.nil | refine FinL.cons ?_ ?_ | refine Fin'.tup ?_ | exact Q.f3 | exact Q.f4 | exact Q.f5 | exact Q.f6 | refine Fin'.vb ?_ | refine Fin'.vi ?_ | refine Fin'.agg ?_)))
            | true =>
              refine ⟨?_⟩; refine Spec.ofR (h := fun F w0 => ?_)
              repeat' ((conv => whnf); first | refine Q.E ?_ | (refine Stk.both (fun hb => ?_) (fun hb => ?_) <;> (try simp only [lE] at hb))); all_goals (conv => whnf)
              ((refine FinK.of (h := ?_)); (repeat' (first | exact FinL.nil | refine FinL.cons ?_ ?_ | refine Fin'.tup ?_ | exact Q.f3 | exact Q.f4 | exact Q.f5 | exact Q.f6 | refine Fin'.vb ?_ | refine Fin'.vi ?_ | refine Fin'.agg ?_)))
          · rw [if_neg h6]
            by_cases h9 : m.kind = 9
            · rw [if_pos h9]
              refine ⟨?_⟩; refine Spec.ofR (h := fun F w0 => ?_)
              repeat' ((conv => whnf); first | refine Q.E ?_ | (refine Stk.both (fun hb => ?_) (fun hb => ?_) <;> (try simp only [lE] at hb))); all_goals (conv => whnf)
              ((refine FinK.of (h := ?_)); (repeat' (first | exact FinL.nil | refine FinL.cons ?_ ?_ | refine Fin'.tup ?_ | exact Q.f3 | exact Q.f4 | exact Q.f5 | exact Q.f6 | refine Fin'.vb ?_ | refine Fin'.vi ?_ | refine Fin'.agg ?_)))
            · rw [if_neg h9]
              by_cases h2 : m.kind = 2
              · rw [if_pos h2]
                refine ⟨?_⟩; refine Spec.ofR (h := fun F w0 => ?_)
                repeat' ((conv => whnf); first | refine Q.E ?_ | (refine Stk.both (fun hb => ?_) (fun hb => ?_) <;> (try simp only [lE] at hb))); all_goals (conv => whnf)
                ((refine FinK.of (h := ?_)); (repeat' (first | exact FinL.nil | refine FinL.cons ?_ ?_ | refine Fin'.tup ?_ | exact Q.f3 | exact Q.f4 | exact Q.f5 | exact Q.f6 | refine Fin'.vb ?_ | refine Fin'.vi ?_ | refine Fin'.agg ?_)))
              · rw [if_neg h2]
                by_cases h7 : m.kind = 7
                · rw [if_pos h7]
                  cases hb : timeB m.bal with
                  | false =>
                    refine ⟨?_⟩; refine Spec.ofR (h := fun F w0 => ?_)
                    repeat' ((conv => whnf); first | refine Q.E ?_ | (refine Stk.both (fun hb => ?_) (fun hb => ?_) <;> (try simp only [lE] at hb))); all_goals (conv => whnf)
                    ((refine FinK.of (h := ?_)); (repeat' (first | exact FinL.nil | refine FinL.cons ?_ ?_ | refine Fin'.tup ?_ | exact Q.f3 | exact Q.f4 | exact Q.f5 | exact Q.f6 | refine Fin'.vb ?_ | refine Fin'.vi ?_ | refine Fin'.agg ?_)))
                  | true =>
                    refine ⟨?_⟩; refine Spec.ofR (h := fun F w0 => ?_)
                    repeat' ((conv => whnf); first | refine Q.E ?_ | (refine Stk.both (fun hb => ?_) (fun hb => ?_) <;> (try simp only [lE] at hb))); all_goals (conv => whnf)
                    ((refine FinK.of (h := ?_)); (repeat' (first | exact FinL.nil | refine FinL.cons ?_ ?_ | refine Fin'.tup ?_ | exact Q.f3 | exact Q.f4 | exact Q.f5 | exact Q.f6 | refine Fin'.vb ?_ | refine Fin'.vi ?_ | refine Fin'.agg ?_)))
                · rw [if_neg h7]
                  refine ⟨?_⟩; refine Spec.ofR (h := fun F w0 => ?_)
                  repeat' ((conv => whnf); first | refine Q.E ?_ | (refine Stk.both (fun hb => ?_) (fun hb => ?_) <;> (try simp only [lE] at hb))); all_goals (conv => whnf)
                  ((refine FinK.of (h := ?_)); (repeat' (first | exact FinL.nil | refine FinL.cons ?_ ?_ | refine Fin'.tup ?_ | exact Q.f3 | exact Q.f4 | exact Q.f5 | exact Q.f6 | refine Fin'.vb ?_ | refine Fin'.vi ?_ | refine Fin'.agg ?_)))
theorem noByte_eq {p : ByteArray} : noByte = p ↔ p = noByte := ⟨fun h => h.symm, fun h => h.symm⟩
theorem noByte_size {p : ByteArray} (h : p = noByte) : p.size ≤ 300 := by subst h; decide
theorem msgB_eq {m : Msg} (h : 1 ≤ m.kind ∧ m.kind ≤ 10) : msgB m = (decide (1 ≤ m.fr ∧ m.fr ≤ 9) && decide (bareM m = m) && mayM m) := by
  obtain ⟨kind, fr, id, t, bal, abal, phase, quorum, payload, lo, hi, atts, marks, done⟩ := m
  simp only at h
  have hs := noByte_size (p := payload)
  have : kind = 1 ∨ kind = 2 ∨ kind = 3 ∨ kind = 4 ∨ kind = 5 ∨ kind = 6 ∨ kind = 7 ∨ kind = 8 ∨ kind = 9 ∨ kind = 10 := by omega
  rcases this with h | h | h | h | h | h | h | h | h | h
  all_goals subst h
  all_goals rw [Bool.eq_iff_iff]
  all_goals simp [msgB, bareM, mayM, kI, kT, kL, kC, kA, kP, inN, carB, tellB, timeB, msg_eq, noByte_eq]
  all_goals generalize payload.size = z at hs ⊢
  all_goals generalize idB id = A
  all_goals try generalize prmB _ = E
  all_goals generalize (payload = noByte) = B at hs ⊢
  all_goals generalize (atts = []) = C
  all_goals generalize (marks = []) = D
  all_goals try generalize (E = true) = E'
  all_goals clear h
  all_goals (cases A <;> (by_cases hB : B) <;> (by_cases hC : C) <;> (by_cases hD : D) <;> simp only [hB, hC, hD, Bool.false_eq_true, true_and, and_true, false_and, and_false, true_implies, false_implies, iff_self] at hs ⊢)
  all_goals (try split)
  all_goals (try omega)
  all_goals (by_cases hE : E')
  all_goals simp only [hE, true_and, and_true, false_and, and_false, true_implies, false_implies, iff_self, implies_true]
  all_goals omega
abbrev PV.fault : PV := .ifc 245 .any
instance fn30 : HasSpec Tryz.prog 180 [.v (.string ⟨#[109, 115, 103]⟩), PV.int 30] PV.fault := failnew_spec _ _ (by decide)
instance fn2 : HasSpec Tryz.prog 180 [.v (.string ⟨#[109, 115, 103]⟩), PV.int 2] PV.fault := failnew_spec _ _ (by decide)
theorem msg_bad {m : Msg} (h : ¬ (1 ≤ m.kind ∧ m.kind ≤ 10)) : msgB m = false := by unfold msgB; rw [decide_eq_false h]; rfl
theorem mck_no {m : Msg} (h : msgB m = false) : HasSpec Tryz.prog 90 [.agg m.cs] PV.fault := by
  by_cases hk : 1 ≤ m.kind ∧ m.kind ≤ 10
  · have hn : tst (nameS m.kind = ⟨#[]⟩) = false := tst_false.2 (name_some hk)
    have jb := bare_spec m hk
    have js := msgsame_spec (bareM m) m
    rw [msgB_eq hk] at h
    by_cases hf : 1 ≤ m.fr ∧ m.fr ≤ 9
    · rw [decide_eq_true hf, Bool.true_and] at h
      generalize bareM m = b at *
      cases hs : decide (b = m) with
      | false =>
        rw [hs] at js
        refine ⟨?_⟩; refine Spec.ofR (h := fun F w0 => ?_)
        repeat' ((conv => whnf); first | refine Q.E ?_ | (refine Stk.both (fun hb => ?_) (fun hb => ?_) <;> (try simp only [lE] at hb))); all_goals (conv => whnf)
        ((refine FinK.of (h := ?_)); (repeat' (first | exact FinL.nil | refine FinL.cons ?_ ?_ | refine Fin'.tup ?_ | exact Q.f3 | exact Q.f4 | exact Q.f5 | exact Q.f6 | refine Fin'.vb ?_ | refine Fin'.vi ?_ | refine Fin'.agg ?_)))
      | true =>
        rw [hs] at js
        rw [hs, Bool.true_and] at h
        refine ⟨?_⟩; refine Spec.ofR (h := fun F w0 => ?_)
        repeat' ((conv => whnf); first | refine Q.E ?_ | (refine Stk.both (fun hb => ?_) (fun hb => ?_) <;> (try simp only [lE] at hb))); all_goals (conv => whnf)
        ((refine FinK.of (h := ?_)); (repeat' (first | exact FinL.nil | refine FinL.cons ?_ ?_ | refine Fin'.tup ?_ | exact Q.f3 | exact Q.f4 | exact Q.f5 | exact Q.f6 | refine Fin'.vb ?_ | refine Fin'.vi ?_ | refine Fin'.agg ?_)))
    · refine ⟨?_⟩; refine Spec.ofR (h := fun F w0 => ?_)
      repeat' ((conv => whnf); first | refine Q.E ?_ | (refine Stk.both (fun hb => ?_) (fun hb => ?_) <;> (try simp only [lE] at hb))); all_goals (conv => whnf)
      all_goals first | (exfalso; omega) | ((refine FinK.of (h := ?_)); (repeat' (first | exact FinL.nil | refine FinL.cons ?_ ?_ | refine Fin'.tup ?_ | exact Q.f3 | exact Q.f4 | exact Q.f5 | exact Q.f6 | refine Fin'.vb ?_ | refine Fin'.vi ?_ | refine Fin'.agg ?_)))
  · have hn : tst (nameS m.kind = ⟨#[]⟩) = true := tst_true.2 (name_empty hk)
    refine ⟨?_⟩; refine Spec.ofR (h := fun F w0 => ?_)
    repeat' ((conv => whnf); first | refine Q.E ?_ | (refine Stk.both (fun hb => ?_) (fun hb => ?_) <;> (try simp only [lE] at hb))); all_goals (conv => whnf)
    ((refine FinK.of (h := ?_)); (repeat' (first | exact FinL.nil | refine FinL.cons ?_ ?_ | refine Fin'.tup ?_ | exact Q.f3 | exact Q.f4 | exact Q.f5 | exact Q.f6 | refine Fin'.vb ?_ | refine Fin'.vi ?_ | refine Fin'.agg ?_)))
theorem mck_yes {m : Msg} (h : msgB m = true) : HasSpec Tryz.prog 90 [.agg m.cs] (.v .nilIface) := by
  by_cases hk : 1 ≤ m.kind ∧ m.kind ≤ 10
  · have hn : tst (nameS m.kind = ⟨#[]⟩) = false := tst_false.2 (name_some hk)
    have jb := bare_spec m hk
    have js := msgsame_spec (bareM m) m
    rw [msgB_eq hk, Bool.and_eq_true, Bool.and_eq_true, decide_eq_true_iff] at h
    obtain ⟨⟨hf, hs⟩, hm⟩ := h
    rw [hs] at js
    generalize bareM m = b at *
    refine ⟨?_⟩; refine Spec.ofR (h := fun F w0 => ?_)
    repeat' ((conv => whnf); first | refine Q.E ?_ | (refine Stk.both (fun hb => ?_) (fun hb => ?_) <;> (try simp only [lE] at hb))); all_goals (conv => whnf)
    ((refine FinK.of (h := ?_)); (repeat' (first | exact FinL.nil | refine FinL.cons ?_ ?_ | refine Fin'.tup ?_ | exact Q.f3 | exact Q.f4 | exact Q.f5 | exact Q.f6 | refine Fin'.vb ?_ | refine Fin'.vi ?_ | refine Fin'.agg ?_)))
  · rw [msg_bad hk] at h
    cases h
end Go.Proofs.YtbjepdfnmbdplaaGreat
end
section
namespace Go.Proofs.YtbjepdfnmbdplaaGreat
open Go.RowKit
set_option linter.unusedSimpArgs false
set_option linter.unusedVariables false
set_option maxRecDepth 100000
set_option maxHeartbeats 1000000
def hasL : List (List UInt8) := [[], [105, 116, 99], [105, 116], [105, 116, 98, 99], [105, 98], [105, 116, 99], [105, 98, 99], [105, 116, 98, 97], [105, 98], [105, 99], [112]]
def hasW (k : Int) : List UInt8 := if 1 ≤ k ∧ k ≤ 10 then hasL.getD k.toNat [] else []
def bytes (l : List UInt8) : ByteArray := ⟨l.toArray⟩
theorem bytes_size (l : List UInt8) : (bytes l).size = l.length := by simp [bytes, ByteArray.size]
theorem bytes_at (l : List UInt8) {i : Nat} (h : i < l.length) : (bytes l)[i]? = some l[i] := by
  have h2 : i < (bytes l).size := by rw [bytes_size]; exact h
  rw [getElem?_pos (bytes l) i h2]
  rfl
theorem hasW_len (k : Int) : (hasW k).length ≤ 4 := by
  by_cases h : 1 ≤ k ∧ k ≤ 10
  · have : k = 1 ∨ k = 2 ∨ k = 3 ∨ k = 4 ∨ k = 5 ∨ k = 6 ∨ k = 7 ∨ k = 8 ∨ k = 9 ∨ k = 10 := by omega
    rcases this with h | h | h | h | h | h | h | h | h | h <;> subst h <;> decide
  · unfold hasW
    rw [if_neg h]
    decide
instance refHas_spec (k : Int) : HasSpec Tryz.prog 210 [PV.int k] (.v (.string (bytes (hasW k)))) := by
  by_cases h : 1 ≤ k ∧ k ≤ 10
  · have : k = 1 ∨ k = 2 ∨ k = 3 ∨ k = 4 ∨ k = 5 ∨ k = 6 ∨ k = 7 ∨ k = 8 ∨ k = 9 ∨ k = 10 := by omega
    rcases this with h | h | h | h | h | h | h | h | h | h
    all_goals subst h
    all_goals refine ⟨?_⟩; refine Spec.ofR (h := fun F w0 => ?_)
    all_goals repeat' ((conv => whnf); first | refine Q.E ?_ | (refine Stk.both (fun hb => ?_) (fun hb => ?_) <;> (try simp only [lE] at hb))); all_goals (conv => whnf)
    all_goals ((refine FinK.of (h := ?_)); (repeat' (first | exact FinL.nil | refine FinL.cons ?_ ?_ | refine Fin'.tup ?_ | exact Q.f3 | exact Q.f4 | exact Q.f5 | exact Q.f6 | refine Fin'.vb ?_ | refine Fin'.vi ?_ | refine Fin'.agg ?_)))
  · rw [show hasW k = [] from if_neg h]
    refine ⟨?_⟩; refine Spec.ofR (h := fun F w0 => ?_)
    repeat' ((conv => whnf); first | refine Q.E ?_ | (refine Stk.both (fun hb => ?_) (fun hb => ?_) <;> (try simp only [lE] at hb))); all_goals (conv => whnf)
    all_goals first | (exfalso; omega) | ((refine FinK.of (h := ?_)); (repeat' (first | exact FinL.nil | refine FinL.cons ?_ ?_ | refine Fin'.tup ?_ | exact Q.f3 | exact Q.f4 | exact Q.f5 | exact Q.f6 | refine Fin'.vb ?_ | refine Fin'.vi ?_ | refine Fin'.agg ?_)))
theorem lethas_spec (k : Int) (c : UInt8) : HasSpec Tryz.prog 211 [PV.int k, .v (.int .u8 (c.toNat : Nat))] (.v (.bool ((hasW k).any fun x => decide (x = c)))) := by
  have hl := hasW_len k
  have hz : ((bytes (hasW k)).size : Int) = ((hasW k).length : Nat) := by rw [bytes_size]
  have hj := refHas_spec k
  generalize hasW k = l at *
  refine ⟨?_⟩; refine Spec.ofR (h := fun F w0 => ?_)
  repeat' ((conv => whnf); first | refine Q.E ?_ | (refine Stk.both (fun hb => ?_) (fun hb => ?_) <;> (try simp only [lE] at hb))); all_goals (conv => whnf)
  refine Stk.loop (ι := Nat) (fun i => [(1, .v (.int .u8 (c.toNat : Nat))), (5, .v (.string (bytes l))), (6, PV.int (i : Nat))]) (fun _ => []) (fun i => i ≤ l.length ∧ ∀ x ∈ l.take i, decide (x = c) = false) (fun i => l.length - i) 0 ⟨Nat.zero_le _, by simp⟩ (Weak.gc ⟨rfl, rfl, rfl, trivial⟩ trivial rfl rfl rfl) (fun i hi => ?_)
  obtain ⟨hi, hno⟩ := hi
  by_cases hlt : i < l.length
  · have hb : (bytes l)[(((i : Nat) : Int)).toNat]? = some l[i] := by rw [Int.toNat_natCast]; exact bytes_at l hlt
    by_cases hq : l[i] = c
    · rw [any_at (p := fun x => decide (x = c)) hlt (decide_eq_true hq)]
      have hq2 : tst (((l[i].toNat : Nat) : Int) = ((c.toNat : Nat) : Int)) = true := tst_true.2 (by rw [hq])
      repeat' ((conv => whnf); first | refine Q.E ?_ | (refine Stk.both (fun hb => ?_) (fun hb => ?_) <;> (try simp only [lE] at hb))); all_goals (conv => whnf)
      refine Stk.op (ok_byte rfl rfl (Int.natCast_nonneg _) hb rfl) ?_
      repeat' ((conv => whnf); first | refine Q.E ?_ | (refine Stk.both (fun hb => ?_) (fun hb => ?_) <;> (try simp only [lE] at hb))); all_goals (conv => whnf)
      ((refine FinK.of (h := ?_)); (repeat' (first | exact FinL.nil | refine FinL.cons ?_ ?_ | refine Fin'.tup ?_ | exact Q.f3 | exact Q.f4 | exact Q.f5 | exact Q.f6 | refine Fin'.vb ?_ | refine Fin'.vi ?_ | refine Fin'.agg ?_)))
    · have hq2 : tst (((l[i].toNat : Nat) : Int) = ((c.toNat : Nat) : Int)) = false := tst_false.2 (fun h => hq (UInt8.toNat_inj.1 (by omega)))
      repeat' ((conv => whnf); first | refine Q.E ?_ | (refine Stk.both (fun hb => ?_) (fun hb => ?_) <;> (try simp only [lE] at hb))); all_goals (conv => whnf)
      refine Stk.op (ok_byte rfl rfl (Int.natCast_nonneg _) hb rfl) ?_
      repeat' ((conv => whnf); first | refine Q.E ?_ | (refine Stk.both (fun hb => ?_) (fun hb => ?_) <;> (try simp only [lE] at hb))); all_goals (conv => whnf)
      exact ⟨i + 1, ⟨by omega, take_no (p := fun x => decide (x = c)) hlt hno (decide_eq_false hq)⟩, by omega, Weak.gc ⟨rfl, rfl, rfl, trivial⟩ trivial rfl rfl rfl⟩
  · rw [any_none (p := fun x => decide (x = c)) hlt hno]
    repeat' ((conv => whnf); first | refine Q.E ?_ | (refine Stk.both (fun hb => ?_) (fun hb => ?_) <;> (try simp only [lE] at hb))); all_goals (conv => whnf)
    ((refine FinK.of (h := ?_)); (repeat' (first | exact FinL.nil | refine FinL.cons ?_ ?_ | refine Fin'.tup ?_ | exact Q.f3 | exact Q.f4 | exact Q.f5 | exact Q.f6 | refine Fin'.vb ?_ | refine Fin'.vi ?_ | refine Fin'.agg ?_)))
theorem has_of {k : Int} {c : UInt8} {f : Int → Bool} (h0 : ∀ k, ¬ (1 ≤ k ∧ k ≤ 10) → f k = false) (h1 : ([1, 2, 3, 4, 5, 6, 7, 8, 9, 10] : List Int).all (fun k => ((hasW k).any fun x => decide (x = c)) == f k) = true) : ((hasW k).any fun x => decide (x = c)) = f k := by
  by_cases h : 1 ≤ k ∧ k ≤ 10
  · have hm : k ∈ ([1, 2, 3, 4, 5, 6, 7, 8, 9, 10] : List Int) := by
      have : k = 1 ∨ k = 2 ∨ k = 3 ∨ k = 4 ∨ k = 5 ∨ k = 6 ∨ k = 7 ∨ k = 8 ∨ k = 9 ∨ k = 10 := by omega
      simp
      omega
    have := List.all_eq_true.1 h1 k hm
    exact eq_of_beq this
  · rw [h0 k h, show hasW k = [] from if_neg h]
    rfl
instance haskI_spec (k : Int) : HasSpec Tryz.prog 211 [PV.int k, .v (.int .u8 105)] (.v (.bool (kI k))) := by
  have h := lethas_spec k 105
  rw [has_of (f := kI) (fun k hk => decide_eq_false (by omega)) (by decide)] at h
  exact h
instance haskT_spec (k : Int) : HasSpec Tryz.prog 211 [PV.int k, .v (.int .u8 116)] (.v (.bool (kT k))) := by
  have h := lethas_spec k 116
  rw [has_of (f := kT) (fun k hk => decide_eq_false (by omega)) (by decide)] at h
  exact h
instance haskL_spec (k : Int) : HasSpec Tryz.prog 211 [PV.int k, .v (.int .u8 98)] (.v (.bool (kL k))) := by
  have h := lethas_spec k 98
  rw [has_of (f := kL) (fun k hk => decide_eq_false (by omega)) (by decide)] at h
  exact h
instance haskC_spec (k : Int) : HasSpec Tryz.prog 211 [PV.int k, .v (.int .u8 99)] (.v (.bool (kC k))) := by
  have h := lethas_spec k 99
  rw [has_of (f := kC) (fun k hk => decide_eq_false (by omega)) (by decide)] at h
  exact h
instance haskA_spec (k : Int) : HasSpec Tryz.prog 211 [PV.int k, .v (.int .u8 97)] (.v (.bool (kA k))) := by
  have h := lethas_spec k 97
  rw [has_of (f := kA) (fun k hk => decide_eq_false (by omega)) (by decide)] at h
  exact h
instance haskP_spec (k : Int) : HasSpec Tryz.prog 211 [PV.int k, .v (.int .u8 112)] (.v (.bool (kP k))) := by
  have h := lethas_spec k 112
  rw [has_of (f := kP) (fun k hk => decide_eq_false (by omega)) (by decide)] at h
  exact h
instance in_spec (b : Bool) (n lo hi : Int) : HasSpec Tryz.prog 212 [.v (.bool b), PV.int n, PV.int lo, PV.int hi] (.v (.bool (inN b n lo hi))) := by
  cases b with
  | false =>
    rw [show inN false n lo hi = decide (n = 0) from rfl]
    refine ⟨?_⟩; refine Spec.ofR (h := fun F w0 => ?_)
    repeat' ((conv => whnf); first | refine Q.E ?_ | (refine Stk.both (fun hb => ?_) (fun hb => ?_) <;> (try simp only [lE] at hb))); all_goals (conv => whnf)
    ((refine FinK.of (h := ?_)); (repeat' (first | exact FinL.nil | refine FinL.cons ?_ ?_ | refine Fin'.tup ?_ | exact Q.f3 | exact Q.f4 | exact Q.f5 | exact Q.f6 | refine Fin'.vb ?_ | refine Fin'.vi ?_ | refine Fin'.agg ?_)))
    rw [tst_eq]
  | true =>
    rw [show inN true n lo hi = decide (lo ≤ n ∧ n ≤ hi) from rfl]
    by_cases h : lo ≤ n
    · refine ⟨?_⟩; refine Spec.ofR (h := fun F w0 => ?_)
      repeat' ((conv => whnf); first | refine Q.E ?_ | (refine Stk.both (fun hb => ?_) (fun hb => ?_) <;> (try simp only [lE] at hb))); all_goals (conv => whnf)
      ((refine FinK.of (h := ?_)); (repeat' (first | exact FinL.nil | refine FinL.cons ?_ ?_ | refine Fin'.tup ?_ | exact Q.f3 | exact Q.f4 | exact Q.f5 | exact Q.f6 | refine Fin'.vb ?_ | refine Fin'.vi ?_ | refine Fin'.agg ?_)))
      rw [tst_eq, decide_eq_decide]
      omega
    · rw [decide_eq_false (fun h2 => h h2.1)]
      refine ⟨?_⟩; refine Spec.ofR (h := fun F w0 => ?_)
      repeat' ((conv => whnf); first | refine Q.E ?_ | (refine Stk.both (fun hb => ?_) (fun hb => ?_) <;> (try simp only [lE] at hb))); all_goals (conv => whnf)
      ((refine FinK.of (h := ?_)); (repeat' (first | exact FinL.nil | refine FinL.cons ?_ ?_ | refine Fin'.tup ?_ | exact Q.f3 | exact Q.f4 | exact Q.f5 | exact Q.f6 | refine Fin'.vb ?_ | refine Fin'.vi ?_ | refine Fin'.agg ?_)))
def prmF (m : Msg) : Prop := 0 ≤ m.lo ∧ m.lo ≤ m.hi ∧ m.hi ≤ 1000000 ∧ 0 ≤ m.done ∧ m.done ≤ 1000000 ∧ m.marks.length ≤ 9 ∧ m.atts.length ≤ 200
theorem prm_no1 {m : Msg} (h : ¬ prmF m) : prmB m = false := by unfold prmB; rw [decide_eq_false (by unfold prmF at h; exact h)]; rfl
theorem prm_no2 {m : Msg} {i : Nat} (hi : i < m.marks.length) (h : noneB m.marks[i] = true) : prmB m = false := by unfold prmB; rw [any_at (p := noneB) hi h]; simp
theorem prm_no3 {m : Msg} (h : attB m.lo m.hi m.atts = false) : prmB m = false := by unfold prmB; rw [h]; simp
theorem prm_yes {m : Msg} (h : prmF m) (h2 : ∀ x ∈ m.marks, noneB x = false) (h3 : attB m.lo m.hi m.atts = true) : prmB m = true := by unfold prmB; rw [decide_eq_true (by unfold prmF at h; exact h), any_all h2, h3]; rfl
instance refprm_spec (m : Msg) : HasSpec Tryz.prog 213 [.agg m.cs] (.v (.bool (prmB m))) := by
  by_cases hf : prmF m
  · have hff := hf
    unfold prmF at hf
    refine ⟨?_⟩; refine Spec.ofR (h := fun F w0 => ?_)
    repeat' ((conv => whnf); first | refine Q.E ?_ | (refine Stk.both (fun hb => ?_) (fun hb => ?_) <;> (try simp only [lE] at hb))); all_goals (conv => whnf)
    refine Stk.loop (ι := Nat) (fun i => [(1, .lp 1 0), (3, PV.int (i : Nat))]) (fun i => [(1, .box m.cs)]) (fun i => i ≤ m.marks.length ∧ ∀ x ∈ m.marks.take i, noneB x = false) (fun i => m.marks.length - i) 0 ⟨Nat.zero_le _, by simp⟩ (Weak.gc ⟨rfl, rfl, trivial⟩ ⟨rfl, trivial⟩ rfl rfl rfl) (fun i hi => ?_)
    obtain ⟨hi, hno⟩ := hi
    by_cases hlt : i < m.marks.length
    · cases hq : noneB m.marks[i] with
      | true =>
        have h2 : m.marks[i] < 0 ∨ 1000000 < m.marks[i] := by simpa [noneB] using hq
        rw [prm_no2 hlt hq]
        repeat' ((conv => whnf); first | refine Q.E ?_ | (refine Stk.both (fun hb => ?_) (fun hb => ?_) <;> (try simp only [lE] at hb))); all_goals (conv => whnf)
        all_goals first | (exfalso; omega) | ((refine FinK.of (h := ?_)); (repeat' (first | exact FinL.nil | refine FinL.cons ?_ ?_ | refine Fin'.tup ?_ | exact Q.f3 | exact Q.f4 | exact Q.f5 | exact Q.f6 | refine Fin'.vb ?_ | refine Fin'.vi ?_ | refine Fin'.agg ?_)))
      | false =>
        have h2 := noneB_p.1 hq
        repeat' ((conv => whnf); first | refine Q.E ?_ | (refine Stk.both (fun hb => ?_) (fun hb => ?_) <;> (try simp only [lE] at hb))); all_goals (conv => whnf)
        exact ⟨i + 1, ⟨by omega, take_no hlt hno hq⟩, by omega, Weak.gc ⟨rfl, rfl, trivial⟩ ⟨rfl, trivial⟩ rfl rfl rfl⟩
    · have hall := take_all (p := noneB) (by omega) hno
      repeat' ((conv => whnf); first | refine Q.E ?_ | (refine Stk.both (fun hb => ?_) (fun hb => ?_) <;> (try simp only [lE] at hb))); all_goals (conv => whnf)
      refine Stk.loop (ι := Nat) (fun i => [(1, .lp 1 0), (4, PV.int (i : Nat))]) (fun i => [(1, .box m.cs)]) (fun i => i ≤ m.atts.length ∧ prefTo (attP m.lo m.hi) m.atts i = true) (fun i => m.atts.length - i) 0 ⟨Nat.zero_le _, rfl⟩ (Weak.gc ⟨rfl, rfl, trivial⟩ ⟨rfl, trivial⟩ rfl rfl rfl) (fun i hi' => ?_)
      obtain ⟨hi', hp⟩ := hi'
      have hb := (att_last hi' hp).1
      by_cases hlt : i < m.atts.length
      · have jsp := split_spec m.atts[i].id
        have hpi : ((i : Int) - 1).toNat < m.atts.length := by omega
        have hv : (0 < i → lastI Att.t m.lo (m.atts.take i) = (m.atts[((i : Int) - 1).toNat]'hpi).t) ∧ (i = 0 → lastI Att.t m.lo (m.atts.take i) = m.lo) := by
          refine ⟨fun h0 => ?_, fun h0 => by subst h0; rfl⟩
          rw [lastI_pos Att.t m.lo hi' h0]
          congr 2
          omega
        cases hid : idB m.atts[i].id with
        | false =>
          have h2 := self_none hid
          rw [prm_no3 (pref_bad hlt (attP_f.2 fun h => by rw [hid] at h; exact absurd h.2.2.2 (by simp)))]
          repeat' ((conv => whnf); first | refine Q.E ?_ | (refine Stk.both (fun hb => ?_) (fun hb => ?_) <;> (try simp only [lE] at hb))); all_goals (conv => whnf)
          all_goals ((refine FinK.of (h := ?_)); (repeat' (first | exact FinL.nil | refine FinL.cons ?_ ?_ | refine Fin'.tup ?_ | exact Q.f3 | exact Q.f4 | exact Q.f5 | exact Q.f6 | refine Fin'.vb ?_ | refine Fin'.vi ?_ | refine Fin'.agg ?_)))
        | true =>
          have h2 := self_pos hid
          cases hq : attP m.lo m.hi (m.atts.take i) m.atts[i] with
          | true =>
            have h := attP_iff.1 hq
            have hp2 := prefTo_next hlt hp hq
            by_cases h0 : 0 < i
            · have h1 := hv.1 h0
              clear hv
              repeat' ((conv => whnf); first | refine Q.E ?_ | (refine Stk.both (fun hb => ?_) (fun hb => ?_) <;> (try simp only [lE] at hb))); all_goals (conv => whnf)
              exact ⟨i + 1, ⟨by omega, hp2⟩, by omega, Weak.gc ⟨rfl, rfl, trivial⟩ ⟨rfl, trivial⟩ rfl rfl rfl⟩
            · have h1 := hv.2 (by omega)
              clear hv
              repeat' ((conv => whnf); first | refine Q.E ?_ | (refine Stk.both (fun hb => ?_) (fun hb => ?_) <;> (try simp only [lE] at hb))); all_goals (conv => whnf)
              exact ⟨i + 1, ⟨by omega, hp2⟩, by omega, Weak.gc ⟨rfl, rfl, trivial⟩ ⟨rfl, trivial⟩ rfl rfl rfl⟩
          | false =>
            have h := attP_f.1 hq
            rw [prm_no3 (pref_bad hlt hq)]
            by_cases h0 : 0 < i
            · have h1 := hv.1 h0
              clear hv
              repeat' ((conv => whnf); first | refine Q.E ?_ | (refine Stk.both (fun hb => ?_) (fun hb => ?_) <;> (try simp only [lE] at hb))); all_goals (conv => whnf)
              all_goals first | (exact absurd ⟨by omega, by omega, by omega, hid⟩ h) | ((refine FinK.of (h := ?_)); (repeat' (first | exact FinL.nil | refine FinL.cons ?_ ?_ | refine Fin'.tup ?_ | exact Q.f3 | exact Q.f4 | exact Q.f5 | exact Q.f6 | refine Fin'.vb ?_ | refine Fin'.vi ?_ | refine Fin'.agg ?_)))
            · have h1 := hv.2 (by omega)
              clear hv
              repeat' ((conv => whnf); first | refine Q.E ?_ | (refine Stk.both (fun hb => ?_) (fun hb => ?_) <;> (try simp only [lE] at hb))); all_goals (conv => whnf)
              all_goals first | (exact absurd ⟨by omega, by omega, by omega, hid⟩ h) | ((refine FinK.of (h := ?_)); (repeat' (first | exact FinL.nil | refine FinL.cons ?_ ?_ | refine Fin'.tup ?_ | exact Q.f3 | exact Q.f4 | exact Q.f5 | exact Q.f6 | refine Fin'.vb ?_ | refine Fin'.vi ?_ | refine Fin'.agg ?_)))
      · rw [prm_yes hff hall (pref_end (by omega) hi' hp)]
        repeat' ((conv => whnf); first | refine Q.E ?_ | (refine Stk.both (fun hb => ?_) (fun hb => ?_) <;> (try simp only [lE] at hb))); all_goals (conv => whnf)
        ((refine FinK.of (h := ?_)); (repeat' (first | exact FinL.nil | refine FinL.cons ?_ ?_ | refine Fin'.tup ?_ | exact Q.f3 | exact Q.f4 | exact Q.f5 | exact Q.f6 | refine Fin'.vb ?_ | refine Fin'.vi ?_ | refine Fin'.agg ?_)))
  · rw [prm_no1 hf]
    unfold prmF at hf
    refine ⟨?_⟩; refine Spec.ofR (h := fun F w0 => ?_)
    repeat' ((conv => whnf); first | refine Q.E ?_ | (refine Stk.both (fun hb => ?_) (fun hb => ?_) <;> (try simp only [lE] at hb))); all_goals (conv => whnf)
    all_goals first | (exfalso; omega) | ((refine FinK.of (h := ?_)); (repeat' (first | exact FinL.nil | refine FinL.cons ?_ ?_ | refine Fin'.tup ?_ | exact Q.f3 | exact Q.f4 | exact Q.f5 | exact Q.f6 | refine Fin'.vb ?_ | refine Fin'.vi ?_ | refine Fin'.agg ?_)))
end Go.Proofs.YtbjepdfnmbdplaaGreat
end
section
namespace Go.Proofs.YtbjepdfnmbdplaaGreat
open Go.RowKit
set_option linter.unusedSimpArgs false
set_option linter.unusedVariables false
set_option maxRecDepth 100000
set_option maxHeartbeats 8000000
theorem has_empty {k : Int} (h : ¬ (1 ≤ k ∧ k ≤ 10)) : bytes (hasW k) = ⟨#[]⟩ := by rw [show hasW k = [] from if_neg h]; rfl
theorem has_some {k : Int} (h : 1 ≤ k ∧ k ≤ 10) : bytes (hasW k) ≠ ⟨#[]⟩ := by
  have : k = 1 ∨ k = 2 ∨ k = 3 ∨ k = 4 ∨ k = 5 ∨ k = 6 ∨ k = 7 ∨ k = 8 ∨ k = 9 ∨ k = 10 := by omega
  rcases this with h | h | h | h | h | h | h | h | h | h <;> subst h <;> decide
def c2 (m : Msg) : Bool := if kI m.kind then idB m.id else decide (m.id = 0)
def c3 (m : Msg) : Bool := inN (kT m.kind) m.t 1 1000000
def c4 (m : Msg) : Bool := inN (kL m.kind) m.bal 1 1000000
def c5 (m : Msg) : Bool := inN (kC m.kind) m.quorum 1 511
def c7 (m : Msg) : Bool := kC m.kind || decide (m.payload = noByte)
def c8 (m : Msg) : Bool := if kA m.kind then decide (0 ≤ m.abal ∧ m.abal < m.bal ∧ 1 ≤ m.phase ∧ m.phase ≤ 4 ∧ (0 < m.abal ∨ 3 ≤ m.phase)) else decide (m.abal = 0 ∧ m.phase = 0)
def c9 (m : Msg) : Bool := if kP m.kind then prmB m else decide (m.lo = 0 ∧ m.hi = 0 ∧ m.done = 0 ∧ m.atts = [] ∧ m.marks = [])
theorem msgB_c (m : Msg) : msgB m = (decide (1 ≤ m.kind ∧ m.kind ≤ 10) && (decide (1 ≤ m.fr ∧ m.fr ≤ 9) && c2 m && c3 m && c4 m && c5 m && decide (m.payload.size ≤ 300) && c7 m && c8 m && c9 m)) := rfl
theorem len0 {α : Type} {l : List α} : (l.length : Int) = 0 ↔ l = [] := by
  rw [← List.length_eq_zero_iff]
  omega
theorem kAP (k : Int) : kA k = true → kP k = false := by
  unfold kA kP
  intro h
  rw [decide_eq_true_iff] at h
  exact decide_eq_false (by omega)
theorem c2_fact (m : Msg) : ((tst (0 < selfI m.id) == kI m.kind) && (tst (0 < selfI m.id) || tst (m.id = 0))) = c2 m := by
  unfold c2
  cases hid : idB m.id with
  | true =>
    have h := idB_iff.1 hid
    have h2 := self_pos hid
    rw [tst_true.2 (show 0 < selfI m.id by omega), tst_false.2 (show ¬ m.id = 0 by omega), decide_eq_false (show ¬ m.id = 0 by omega)]
    cases kI m.kind <;> rfl
  | false =>
    have h2 := self_none hid
    rw [tst_false.2 (show ¬ 0 < selfI m.id by omega), tst_eq]
    cases kI m.kind <;> simp
theorem nc1 {m : Msg} (h : ¬ (1 ≤ m.fr ∧ m.fr ≤ 9)) : msgB m = false := by rw [msgB_c, decide_eq_false h]; simp
theorem nc2 {m : Msg} (h : c2 m = false) : msgB m = false := by rw [msgB_c, h]; simp
theorem nc3 {m : Msg} (h : inN (kT m.kind) m.t 1 1000000 = false) : msgB m = false := by rw [msgB_c, show c3 m = false from h]; simp
theorem nc4 {m : Msg} (h : inN (kL m.kind) m.bal 1 1000000 = false) : msgB m = false := by rw [msgB_c, show c4 m = false from h]; simp
theorem nc5 {m : Msg} (h : inN (kC m.kind) m.quorum 1 511 = false) : msgB m = false := by rw [msgB_c, show c5 m = false from h]; simp
theorem nc6 {m : Msg} (h : ¬ m.payload.size ≤ 300) : msgB m = false := by rw [msgB_c, decide_eq_false h]; simp
theorem nc7 {m : Msg} (h : c7 m = false) : msgB m = false := by rw [msgB_c, h]; simp
theorem nc8 {m : Msg} (h : c8 m = false) : msgB m = false := by rw [msgB_c, h]; simp
theorem nc9 {m : Msg} (h : c9 m = false) : msgB m = false := by rw [msgB_c, h]; simp
theorem yc {m : Msg} (hk : 1 ≤ m.kind ∧ m.kind ≤ 10) (h1 : 1 ≤ m.fr ∧ m.fr ≤ 9) (h2 : c2 m = true) (h3 : inN (kT m.kind) m.t 1 1000000 = true) (h4 : inN (kL m.kind) m.bal 1 1000000 = true) (h5 : inN (kC m.kind) m.quorum 1 511 = true) (h6 : m.payload.size ≤ 300) (h7 : c7 m = true) (h8 : c8 m = true) (h9 : c9 m = true) : msgB m = true := by
  rw [msgB_c, decide_eq_true hk, decide_eq_true h1, h2, show c3 m = true from h3, show c4 m = true from h4, show c5 m = true from h5, decide_eq_true h6, h7, h8, h9]
  rfl
instance refmsgcheck_spec (m : Msg) : HasSpec Tryz.prog 134 [.agg m.cs] (PV.int (if 1 ≤ m.kind ∧ m.kind ≤ 10 then errI (msgB m) 2 else 30)) := by
  by_cases hk : 1 ≤ m.kind ∧ m.kind ≤ 10
  · rw [if_pos hk]
    have hn : tst (bytes (hasW m.kind) = ⟨#[]⟩) = false := tst_false.2 (has_some hk)
    have hfact := c2_fact m
    by_cases h1 : 1 ≤ m.fr ∧ m.fr ≤ 9
    · cases he1 : (tst (0 < selfI m.id) == kI m.kind) with
      | false =>
        rw [he1, Bool.false_and] at hfact
        rw [nc2 hfact.symm]
        refine ⟨?_⟩; refine Spec.ofR (h := fun F w0 => ?_)
        repeat' ((conv => whnf); first | refine Q.E ?_ | (refine Stk.both (fun hb => ?_) (fun hb => ?_) <;> (try simp only [lE] at hb))); all_goals (conv => whnf)
        all_goals first | (exfalso; omega) | ((refine FinK.of (h := ?_)); (repeat' (first | exact FinL.nil | refine FinL.cons ?_ ?_ | refine Fin'.tup ?_ | exact Q.f3 | exact Q.f4 | exact Q.f5 | exact Q.f6 | refine Fin'.vb ?_ | refine Fin'.vi ?_ | refine Fin'.agg ?_)))
      | true =>
        by_cases he2 : 0 < selfI m.id ∨ m.id = 0
        · have h2 : c2 m = true := by
            rw [← hfact, he1, Bool.true_and, Bool.or_eq_true, tst_true, tst_true]
            exact he2
          cases h3 : inN (kT m.kind) m.t 1 1000000 with
          | false =>
            rw [nc3 h3]
            refine ⟨?_⟩; refine Spec.ofR (h := fun F w0 => ?_)
            repeat' ((conv => whnf); first | refine Q.E ?_ | (refine Stk.both (fun hb => ?_) (fun hb => ?_) <;> (try simp only [lE] at hb))); all_goals (conv => whnf)
            all_goals first | (exfalso; omega) | ((refine FinK.of (h := ?_)); (repeat' (first | exact FinL.nil | refine FinL.cons ?_ ?_ | refine Fin'.tup ?_ | exact Q.f3 | exact Q.f4 | exact Q.f5 | exact Q.f6 | refine Fin'.vb ?_ | refine Fin'.vi ?_ | refine Fin'.agg ?_)))
          | true =>
            cases h4 : inN (kL m.kind) m.bal 1 1000000 with
            | false =>
              rw [nc4 h4]
              refine ⟨?_⟩; refine Spec.ofR (h := fun F w0 => ?_)
              repeat' ((conv => whnf); first | refine Q.E ?_ | (refine Stk.both (fun hb => ?_) (fun hb => ?_) <;> (try simp only [lE] at hb))); all_goals (conv => whnf)
              all_goals first | (exfalso; omega) | ((refine FinK.of (h := ?_)); (repeat' (first | exact FinL.nil | refine FinL.cons ?_ ?_ | refine Fin'.tup ?_ | exact Q.f3 | exact Q.f4 | exact Q.f5 | exact Q.f6 | refine Fin'.vb ?_ | refine Fin'.vi ?_ | refine Fin'.agg ?_)))
            | true =>
              cases h5 : inN (kC m.kind) m.quorum 1 511 with
              | false =>
                rw [nc5 h5]
                refine ⟨?_⟩; refine Spec.ofR (h := fun F w0 => ?_)
                repeat' ((conv => whnf); first | refine Q.E ?_ | (refine Stk.both (fun hb => ?_) (fun hb => ?_) <;> (try simp only [lE] at hb))); all_goals (conv => whnf)
                all_goals first | (exfalso; omega) | ((refine FinK.of (h := ?_)); (repeat' (first | exact FinL.nil | refine FinL.cons ?_ ?_ | refine Fin'.tup ?_ | exact Q.f3 | exact Q.f4 | exact Q.f5 | exact Q.f6 | refine Fin'.vb ?_ | refine Fin'.vi ?_ | refine Fin'.agg ?_)))
              | true =>
                by_cases h6 : m.payload.size ≤ 300
                · cases h7 : c7 m with
                  | false =>
                    rw [nc7 h7]
                    unfold c7 at h7
                    rw [Bool.or_eq_false_iff, decide_eq_false_iff_not] at h7
                    have h7a := h7.1
                    have h7b : tst (m.payload = ⟨#[]⟩) = false := tst_false.2 h7.2
                    refine ⟨?_⟩; refine Spec.ofR (h := fun F w0 => ?_)
                    repeat' ((conv => whnf); first | refine Q.E ?_ | (refine Stk.both (fun hb => ?_) (fun hb => ?_) <;> (try simp only [lE] at hb))); all_goals (conv => whnf)
                    all_goals first | (exfalso; omega) | ((refine FinK.of (h := ?_)); (repeat' (first | exact FinL.nil | refine FinL.cons ?_ ?_ | refine Fin'.tup ?_ | exact Q.f3 | exact Q.f4 | exact Q.f5 | exact Q.f6 | refine Fin'.vb ?_ | refine Fin'.vi ?_ | refine Fin'.agg ?_)))
                  | true =>
                    have h77 : kC m.kind = true ∨ kC m.kind = false ∧ tst (m.payload = ⟨#[]⟩) = true := by
                      have h := h7
                      unfold c7 at h
                      rw [Bool.or_eq_true, decide_eq_true_iff] at h
                      cases hC : kC m.kind with
                      | true => exact .inl rfl
                      | false =>
                        rw [hC] at h
                        exact .inr ⟨rfl, tst_true.2 (h.resolve_left (by simp))⟩
                    cases hA : kA m.kind with
                    | true =>
                      have hP := kAP m.kind hA
                      have e8 : c8 m = decide (0 ≤ m.abal ∧ m.abal < m.bal ∧ 1 ≤ m.phase ∧ m.phase ≤ 4 ∧ (0 < m.abal ∨ 3 ≤ m.phase)) := by unfold c8; rw [hA]; rfl
                      have e9 : c9 m = decide (m.lo = 0 ∧ m.hi = 0 ∧ m.done = 0 ∧ m.atts = [] ∧ m.marks = []) := by unfold c9; rw [hP]; rfl
                      by_cases h8 : 0 ≤ m.abal ∧ m.abal < m.bal ∧ 1 ≤ m.phase ∧ m.phase ≤ 4 ∧ (0 < m.abal ∨ 3 ≤ m.phase)
                      · rw [decide_eq_true h8] at e8
                        by_cases h9 : m.lo = 0 ∧ m.hi = 0 ∧ m.done = 0 ∧ (m.atts.length : Int) = 0 ∧ (m.marks.length : Int) = 0
                        · rw [decide_eq_true ⟨h9.1, h9.2.1, h9.2.2.1, len0.1 h9.2.2.2.1, len0.1 h9.2.2.2.2⟩] at e9
                          rw [yc hk h1 h2 h3 h4 h5 h6 h7 e8 e9]
                          rcases h77 with h77 | ⟨h77, h78⟩
                          all_goals refine ⟨?_⟩; refine Spec.ofR (h := fun F w0 => ?_)
                          all_goals repeat' ((conv => whnf); first | refine Q.E ?_ | (refine Stk.both (fun hb => ?_) (fun hb => ?_) <;> (try simp only [lE] at hb))); all_goals (conv => whnf)
                          all_goals first | (exfalso; omega) | ((refine FinK.of (h := ?_)); (repeat' (first | exact FinL.nil | refine FinL.cons ?_ ?_ | refine Fin'.tup ?_ | exact Q.f3 | exact Q.f4 | exact Q.f5 | exact Q.f6 | refine Fin'.vb ?_ | refine Fin'.vi ?_ | refine Fin'.agg ?_)))
                        · rw [decide_eq_false (fun h => h9 ⟨h.1, h.2.1, h.2.2.1, len0.2 h.2.2.2.1, len0.2 h.2.2.2.2⟩)] at e9
                          rw [nc9 e9]
                          rcases h77 with h77 | ⟨h77, h78⟩
                          all_goals refine ⟨?_⟩; refine Spec.ofR (h := fun F w0 => ?_)
                          all_goals repeat' ((conv => whnf); first | refine Q.E ?_ | (refine Stk.both (fun hb => ?_) (fun hb => ?_) <;> (try simp only [lE] at hb))); all_goals (conv => whnf)
                          all_goals first | (exfalso; omega) | ((refine FinK.of (h := ?_)); (repeat' (first | exact FinL.nil | refine FinL.cons ?_ ?_ | refine Fin'.tup ?_ | exact Q.f3 | exact Q.f4 | exact Q.f5 | exact Q.f6 | refine Fin'.vb ?_ | refine Fin'.vi ?_ | refine Fin'.agg ?_)))
                      · rw [decide_eq_false h8] at e8
                        rw [nc8 e8]
                        rcases h77 with h77 | ⟨h77, h78⟩
                        all_goals refine ⟨?_⟩; refine Spec.ofR (h := fun F w0 => ?_)
                        all_goals repeat' ((conv => whnf); first | refine Q.E ?_ | (refine Stk.both (fun hb => ?_) (fun hb => ?_) <;> (try simp only [lE] at hb))); all_goals (conv => whnf)
                        all_goals first | (exfalso; omega) | ((refine FinK.of (h := ?_)); (repeat' (first | exact FinL.nil | refine FinL.cons ?_ ?_ | refine Fin'.tup ?_ | exact Q.f3 | exact Q.f4 | exact Q.f5 | exact Q.f6 | refine Fin'.vb ?_ | refine Fin'.vi ?_ | refine Fin'.agg ?_)))
                    | false =>
                      have e8 : c8 m = decide (m.abal = 0 ∧ m.phase = 0) := by unfold c8; rw [hA]; rfl
                      by_cases h8 : m.abal = 0 ∧ m.phase = 0
                      · rw [decide_eq_true h8] at e8
                        cases hP : kP m.kind with
                        | true =>
                          have e9 : c9 m = prmB m := by unfold c9; rw [hP]; rfl
                          cases h9 : prmB m with
                          | true =>
                            rw [yc hk h1 h2 h3 h4 h5 h6 h7 e8 (e9.trans h9)]
                            rcases h77 with h77 | ⟨h77, h78⟩
                            all_goals refine ⟨?_⟩; refine Spec.ofR (h := fun F w0 => ?_)
                            all_goals repeat' ((conv => whnf); first | refine Q.E ?_ | (refine Stk.both (fun hb => ?_) (fun hb => ?_) <;> (try simp only [lE] at hb))); all_goals (conv => whnf)
                            all_goals first | (exfalso; omega) | ((refine FinK.of (h := ?_)); (repeat' (first | exact FinL.nil | refine FinL.cons ?_ ?_ | refine Fin'.tup ?_ | exact Q.f3 | exact Q.f4 | exact Q.f5 | exact Q.f6 | refine Fin'.vb ?_ | refine Fin'.vi ?_ | refine Fin'.agg ?_)))
                          | false =>
                            rw [nc9 (e9.trans h9)]
                            rcases h77 with h77 | ⟨h77, h78⟩
                            all_goals refine ⟨?_⟩; refine Spec.ofR (h := fun F w0 => ?_)
                            all_goals repeat' ((conv => whnf); first | refine Q.E ?_ | (refine Stk.both (fun hb => ?_) (fun hb => ?_) <;> (try simp only [lE] at hb))); all_goals (conv => whnf)
                            all_goals first | (exfalso; omega) | ((refine FinK.of (h := ?_)); (repeat' (first | exact FinL.nil | refine FinL.cons ?_ ?_ | refine Fin'.tup ?_ | exact Q.f3 | exact Q.f4 | exact Q.f5 | exact Q.f6 | refine Fin'.vb ?_ | refine Fin'.vi ?_ | refine Fin'.agg ?_)))
                        | false =>
                          have e9 : c9 m = decide (m.lo = 0 ∧ m.hi = 0 ∧ m.done = 0 ∧ m.atts = [] ∧ m.marks = []) := by unfold c9; rw [hP]; rfl
                          by_cases h9 : m.lo = 0 ∧ m.hi = 0 ∧ m.done = 0 ∧ (m.atts.length : Int) = 0 ∧ (m.marks.length : Int) = 0
                          · rw [decide_eq_true ⟨h9.1, h9.2.1, h9.2.2.1, len0.1 h9.2.2.2.1, len0.1 h9.2.2.2.2⟩] at e9
                            rw [yc hk h1 h2 h3 h4 h5 h6 h7 e8 e9]
                            rcases h77 with h77 | ⟨h77, h78⟩
                            all_goals refine ⟨?_⟩; refine Spec.ofR (h := fun F w0 => ?_)
                            all_goals repeat' ((conv => whnf); first | refine Q.E ?_ | (refine Stk.both (fun hb => ?_) (fun hb => ?_) <;> (try simp only [lE] at hb))); all_goals (conv => whnf)
                            all_goals first | (exfalso; omega) | ((refine FinK.of (h := ?_)); (repeat' (first | exact FinL.nil | refine FinL.cons ?_ ?_ | refine Fin'.tup ?_ | exact Q.f3 | exact Q.f4 | exact Q.f5 | exact Q.f6 | refine Fin'.vb ?_ | refine Fin'.vi ?_ | refine Fin'.agg ?_)))
                          · rw [decide_eq_false (fun h => h9 ⟨h.1, h.2.1, h.2.2.1, len0.2 h.2.2.2.1, len0.2 h.2.2.2.2⟩)] at e9
                            rw [nc9 e9]
                            rcases h77 with h77 | ⟨h77, h78⟩
                            all_goals refine ⟨?_⟩; refine Spec.ofR (h := fun F w0 => ?_)
                            all_goals repeat' ((conv => whnf); first | refine Q.E ?_ | (refine Stk.both (fun hb => ?_) (fun hb => ?_) <;> (try simp only [lE] at hb))); all_goals (conv => whnf)
                            all_goals first | (exfalso; omega) | ((refine FinK.of (h := ?_)); (repeat' (first | exact FinL.nil | refine FinL.cons ?_ ?_ | refine Fin'.tup ?_ | exact Q.f3 | exact Q.f4 | exact Q.f5 | exact Q.f6 | refine Fin'.vb ?_ | refine Fin'.vi ?_ | refine Fin'.agg ?_)))
                      · rw [decide_eq_false h8] at e8
                        rw [nc8 e8]
                        rcases h77 with h77 | ⟨h77, h78⟩
                        all_goals refine ⟨?_⟩; refine Spec.ofR (h := fun F w0 => ?_)
                        all_goals repeat' ((conv => whnf); first | refine Q.E ?_ | (refine Stk.both (fun hb => ?_) (fun hb => ?_) <;> (try simp only [lE] at hb))); all_goals (conv => whnf)
                        all_goals first | (exfalso; omega) | ((refine FinK.of (h := ?_)); (repeat' (first | exact FinL.nil | refine FinL.cons ?_ ?_ | refine Fin'.tup ?_ | exact Q.f3 | exact Q.f4 | exact Q.f5 | exact Q.f6 | refine Fin'.vb ?_ | refine Fin'.vi ?_ | refine Fin'.agg ?_)))
                · rw [nc6 h6]
                  refine ⟨?_⟩; refine Spec.ofR (h := fun F w0 => ?_)
                  repeat' ((conv => whnf); first | refine Q.E ?_ | (refine Stk.both (fun hb => ?_) (fun hb => ?_) <;> (try simp only [lE] at hb))); all_goals (conv => whnf)
                  all_goals first | (exfalso; omega) | ((refine FinK.of (h := ?_)); (repeat' (first | exact FinL.nil | refine FinL.cons ?_ ?_ | refine Fin'.tup ?_ | exact Q.f3 | exact Q.f4 | exact Q.f5 | exact Q.f6 | refine Fin'.vb ?_ | refine Fin'.vi ?_ | refine Fin'.agg ?_)))
        · have h2 : c2 m = false := by
            rw [← hfact, he1, Bool.true_and, Bool.or_eq_false_iff, tst_false, tst_false]
            exact ⟨fun h => he2 (.inl h), fun h => he2 (.inr h)⟩
          rw [nc2 h2]
          refine ⟨?_⟩; refine Spec.ofR (h := fun F w0 => ?_)
          repeat' ((conv => whnf); first | refine Q.E ?_ | (refine Stk.both (fun hb => ?_) (fun hb => ?_) <;> (try simp only [lE] at hb))); all_goals (conv => whnf)
          all_goals first | (exfalso; omega) | ((refine FinK.of (h := ?_)); (repeat' (first | exact FinL.nil | refine FinL.cons ?_ ?_ | refine Fin'.tup ?_ | exact Q.f3 | exact Q.f4 | exact Q.f5 | exact Q.f6 | refine Fin'.vb ?_ | refine Fin'.vi ?_ | refine Fin'.agg ?_)))
    · rw [nc1 h1]
      refine ⟨?_⟩; refine Spec.ofR (h := fun F w0 => ?_)
      repeat' ((conv => whnf); first | refine Q.E ?_ | (refine Stk.both (fun hb => ?_) (fun hb => ?_) <;> (try simp only [lE] at hb))); all_goals (conv => whnf)
      all_goals first | (exfalso; omega) | ((refine FinK.of (h := ?_)); (repeat' (first | exact FinL.nil | refine FinL.cons ?_ ?_ | refine Fin'.tup ?_ | exact Q.f3 | exact Q.f4 | exact Q.f5 | exact Q.f6 | refine Fin'.vb ?_ | refine Fin'.vi ?_ | refine Fin'.agg ?_)))
  · rw [if_neg hk]
    have hn : tst (bytes (hasW m.kind) = ⟨#[]⟩) = true := tst_true.2 (has_empty hk)
    refine ⟨?_⟩; refine Spec.ofR (h := fun F w0 => ?_)
    repeat' ((conv => whnf); first | refine Q.E ?_ | (refine Stk.both (fun hb => ?_) (fun hb => ?_) <;> (try simp only [lE] at hb))); all_goals (conv => whnf)
    ((refine FinK.of (h := ?_)); (repeat' (first | exact FinL.nil | refine FinL.cons ?_ ?_ | refine Fin'.tup ?_ | exact Q.f3 | exact Q.f4 | exact Q.f5 | exact Q.f6 | refine Fin'.vb ?_ | refine Fin'.vi ?_ | refine Fin'.agg ?_)))
end Go.Proofs.YtbjepdfnmbdplaaGreat
end
section
namespace Go.Proofs.YtbjepdfnmbdplaaGreat
open Go.RowKit
set_option linter.unusedSimpArgs false
set_option linter.unusedVariables false
set_option maxRecDepth 100000
set_option maxHeartbeats 1000000
section
variable {P : Program} {X : XF} {w0 : World} {T : TT} {K : Exit → St → Prop} [tb : TabT P T]
theorem Stk.opDG {nt d : Nat} {env : List (Nat × PV)} {lh : List (Nat × LB)} {fs : List Fr} {op : Op} {ty : TypeId} {pos : String} {after : Array Edge} {a : Array Oper} {l : List Oper} {tl : List (List Nat × List Nat)} {p : PV} {j t : Nat} {want b : Bool} {oj : Oper} (g1 : a[j]? = some oj) (g2 : oj.dst = some t) (g3 : look t env = some (.v (.bool b))) (hbw : b = want) (h : OpOK P ⟨some d, op, ty, pos, after, none⟩ ⟨nt, env, lh⟩ p []) {ids : List Nat} (hi : (⟨nt, env, lh⟩ : St).ids ⟨some d, op, ty, pos, after, some (j, want)⟩ = ids) (k : GoR P X w0 T (.next ⟨.dops a l (([], ids) :: tl), nt, (d, p) :: env, lh, fs⟩) K) :
    Stk P X w0 T (.stop ⟨.dops a (⟨some d, op, ty, pos, after, some (j, want)⟩ :: l) tl, nt, env, lh, fs⟩) K := by
  subst hi
  exact ⟨UW.cons (o := ⟨some d, op, ty, pos, after, some (j, want)⟩) (σ := ⟨nt, env, lh⟩) (σ' := ⟨nt, (d, p) :: env, lh⟩) (x := ([], _)) (fun hr => .ok (p := p) (nb := []) (.inl ⟨oj, t, b, g1, g2, g3, by rw [hbw]; simp⟩) (.new h.unguard (.inl rfl) (newB_nil _)) hr) (k.sem tb.ok tb.mixed)⟩
end
theorem shr0 {q n : Int} (hq : 0 ≤ q ∧ q ≤ 511) (hn : 3 ≤ n ∧ n ≤ 9) : tst (q.fdiv (2 ^ min n.toNat IntKind.i64.bits) = 0) = decide (q < 2 ^ n.toNat) := by
  rw [tst_eq, decide_eq_decide, show min n.toNat IntKind.i64.bits = n.toNat from Nat.min_eq_left (by show n.toNat ≤ 64; omega), Int.fdiv_eq_ediv_of_nonneg _ (Int.le_of_lt (Int.pow_pos (by decide)))]
  have hp : (0 : Int) < 2 ^ n.toNat := Int.pow_pos (by decide)
  constructor
  · intro h
    have := Int.lt_ediv_add_one_mul_self q hp
    rw [h] at this
    omega
  · intro h
    exact Int.ediv_eq_zero_of_lt hq.1 h
theorem msg_quorum {m : Msg} (h : msgB m = true) : 0 ≤ m.quorum ∧ m.quorum ≤ 511 := by
  rw [msgB_c] at h
  simp only [Bool.and_eq_true] at h
  have h5 : c5 m = true := h.2.1.1.1.1.2
  unfold c5 inN at h5
  split at h5
  · have := of_decide_eq_true h5; omega
  · have := of_decide_eq_true h5; omega
theorem hearsB_no1 {r : Rpl} {m : Msg} (h : repB r = false) : hearsB r m = false := by unfold hearsB; rw [h]; rfl
theorem hearsB_no2 {r : Rpl} {m : Msg} (h : msgB m = false) : hearsB r m = false := by unfold hearsB; rw [h]; simp
theorem hearsB_no3 {r : Rpl} {m : Msg} (h : ¬ (m.fr ≤ r.n ∧ m.fr ≠ r.self ∧ selfI m.id ≤ r.n)) : hearsB r m = false := by
  unfold hearsB
  rw [decide_eq_false (fun h2 => h ⟨h2.1, h2.2.1, h2.2.2.1⟩)]
  simp
theorem hearsB_in {r : Rpl} {m : Msg} (h1 : repB r = true) (h2 : msgB m = true) (h : m.fr ≤ r.n ∧ m.fr ≠ r.self ∧ selfI m.id ≤ r.n) : hearsB r m = decide (m.quorum < 2 ^ r.n.toNat) := by
  unfold hearsB
  rw [h1, h2, Bool.true_and, Bool.true_and, decide_eq_decide]
  exact ⟨fun h => h.2.2.2, fun h' => ⟨h.1, h.2.1, h.2.2, h'⟩⟩
instance hears26_spec (r : Rpl) (m : Msg) : HasSpec Tryz.prog 70 [.agg r.cs, .agg m.cs] (.v (.bool (hearsB r m))) := by
  cases hr : repB r with
  | false =>
    have j1 := stbad' hr
    rw [hearsB_no1 hr]
    refine ⟨?_⟩; refine Spec.ofR (h := fun F w0 => ?_)
    repeat' ((conv => whnf); first | refine Q.E ?_ | (refine Stk.both (fun hb => ?_) (fun hb => ?_) <;> (try simp only [lE] at hb))); all_goals (conv => whnf)
    ((refine FinK.of (h := ?_)); (repeat' (first | exact FinL.nil | refine FinL.cons ?_ ?_ | refine Fin'.tup ?_ | exact Q.f3 | exact Q.f4 | exact Q.f5 | exact Q.f6 | refine Fin'.vb ?_ | refine Fin'.vi ?_ | refine Fin'.agg ?_)))
  | true =>
    have j1 := stok' hr
    cases hm : msgB m with
    | false =>
      have j2 := mck_no hm
      rw [hearsB_no2 hm]
      refine ⟨?_⟩; refine Spec.ofR (h := fun F w0 => ?_)
      repeat' ((conv => whnf); first | refine Q.E ?_ | (refine Stk.both (fun hb => ?_) (fun hb => ?_) <;> (try simp only [lE] at hb))); all_goals (conv => whnf)
      refine Stk.opDG rfl rfl rfl (by simp [tst_eq]) (ok_ifcNe rfl rfl) rfl ?_
      repeat' ((conv => whnf); first | refine Q.E ?_ | (refine Stk.both (fun hb => ?_) (fun hb => ?_) <;> (try simp only [lE] at hb))); all_goals (conv => whnf)
      ((refine FinK.of (h := ?_)); (repeat' (first | exact FinL.nil | refine FinL.cons ?_ ?_ | refine Fin'.tup ?_ | exact Q.f3 | exact Q.f4 | exact Q.f5 | exact Q.f6 | refine Fin'.vb ?_ | refine Fin'.vi ?_ | refine Fin'.agg ?_)))
    | true =>
      have j2 := mck_yes hm
      have hn := rep_nums hr
      have hq := msg_quorum hm
      by_cases h : m.fr ≤ r.n ∧ m.fr ≠ r.self ∧ selfI m.id ≤ r.n
      · rw [hearsB_in hr hm h, ← shr0 hq ⟨hn.1, hn.2.1⟩]
        refine ⟨?_⟩; refine Spec.ofR (h := fun F w0 => ?_)
        repeat' ((conv => whnf); first | refine Q.E ?_ | (refine Stk.both (fun hb => ?_) (fun hb => ?_) <;> (try simp only [lE] at hb))); all_goals (conv => whnf)
        refine Stk.opDG rfl rfl rfl (by simp [tst_eq]) (ok_nilNe rfl rfl) rfl ?_
        repeat' ((conv => whnf); first | refine Q.E ?_ | (refine Stk.both (fun hb => ?_) (fun hb => ?_) <;> (try simp only [lE] at hb))); all_goals (conv => whnf)
        ((refine FinK.of (h := ?_)); (repeat' (first | exact FinL.nil | refine FinL.cons ?_ ?_ | refine Fin'.tup ?_ | exact Q.f3 | exact Q.f4 | exact Q.f5 | exact Q.f6 | refine Fin'.vb ?_ | refine Fin'.vi ?_ | refine Fin'.agg ?_)))
      · rw [hearsB_no3 h]
        refine ⟨?_⟩; refine Spec.ofR (h := fun F w0 => ?_)
        repeat' ((conv => whnf); first | refine Q.E ?_ | (refine Stk.both (fun hb => ?_) (fun hb => ?_) <;> (try simp only [lE] at hb))); all_goals (conv => whnf)
        refine Stk.opDG rfl rfl rfl (by simp [tst_eq]) (ok_nilNe rfl rfl) rfl ?_
        repeat' ((conv => whnf); first | refine Q.E ?_ | (refine Stk.both (fun hb => ?_) (fun hb => ?_) <;> (try simp only [lE] at hb))); all_goals (conv => whnf)
        all_goals first | (exfalso; omega) | ((refine FinK.of (h := ?_)); (repeat' (first | exact FinL.nil | refine FinL.cons ?_ ?_ | refine Fin'.tup ?_ | exact Q.f3 | exact Q.f4 | exact Q.f5 | exact Q.f6 | refine Fin'.vb ?_ | refine Fin'.vi ?_ | refine Fin'.agg ?_)))
instance self26_spec (id : Int) : HasSpec Tryz.prog 135 [PV.int id] (PV.int (selfI id)) := by
  refine ⟨?_⟩; refine Spec.ofR (h := fun F w0 => ?_)
  repeat' ((conv => whnf); first | refine Q.E ?_ | (refine Stk.both (fun hb => ?_) (fun hb => ?_) <;> (try simp only [lE] at hb))); all_goals (conv => whnf)
  ((refine FinK.of (h := ?_)); (repeat' (first | exact FinL.nil | refine FinL.cons ?_ ?_ | refine Fin'.tup ?_ | exact Q.f3 | exact Q.f4 | exact Q.f5 | exact Q.f6 | refine Fin'.vb ?_ | refine Fin'.vi ?_ | refine Fin'.agg ?_)))
theorem list_last_all : ((List.range 512).all fun q => ([3, 4, 5, 6, 7, 8, 9] : List Nat).all fun n => decide ((listS (q : Nat) 9).getLast?.getD 0 ≤ (n : Nat)) == decide (q < 2 ^ n)) = true := by decide +kernel
theorem list_last {q n : Int} (hq : 0 ≤ q ∧ q ≤ 511) (hn : 3 ≤ n ∧ n ≤ 9) : decide ((listS q 9).getLast?.getD 0 ≤ n) = decide (q < 2 ^ n.toNat) := by
  obtain ⟨a, rfl⟩ := Int.eq_ofNat_of_zero_le hq.1
  obtain ⟨b, rfl⟩ := Int.eq_ofNat_of_zero_le (show 0 ≤ n by omega)
  have h1 := List.all_eq_true.1 list_last_all a (List.mem_range.2 (by omega))
  have hm : b ∈ ([3, 4, 5, 6, 7, 8, 9] : List Nat) := by
    have : b = 3 ∨ b = 4 ∨ b = 5 ∨ b = 6 ∨ b = 7 ∨ b = 8 ∨ b = 9 := by omega
    simp
    omega
  have h2 := eq_of_beq (List.all_eq_true.1 h1 b hm)
  rw [show ((b : Nat) : Int).toNat = b from Int.toNat_natCast b]
  refine h2.trans ?_
  rw [decide_eq_decide]
  constructor
  · intro h
    have : ((a : Nat) : Int) < ((2 ^ b : Nat) : Int) := by omega
    rwa [Int.natCast_pow] at this
  · intro h
    have : ((a : Nat) : Int) < ((2 ^ b : Nat) : Int) := by rw [Int.natCast_pow]; exact h
    omega
instance refhears26_spec (r : Rpl) (m : Msg) : HasSpec Tryz.prog 56 [.agg r.cs, .agg m.cs] (.v (.bool (hearsB r m))) := by
  have j2 := refmsgcheck_spec m
  cases hr : repB r with
  | false =>
    have j1 := rstbad' hr
    rw [hearsB_no1 hr]
    refine ⟨?_⟩; refine Spec.ofR (h := fun F w0 => ?_)
    repeat' ((conv => whnf); first | refine Q.E ?_ | (refine Stk.both (fun hb => ?_) (fun hb => ?_) <;> (try simp only [lE] at hb))); all_goals (conv => whnf)
    ((refine FinK.of (h := ?_)); (repeat' (first | exact FinL.nil | refine FinL.cons ?_ ?_ | refine Fin'.tup ?_ | exact Q.f3 | exact Q.f4 | exact Q.f5 | exact Q.f6 | refine Fin'.vb ?_ | refine Fin'.vi ?_ | refine Fin'.agg ?_)))
  | true =>
    have j1 := rstok' hr
    cases hm : msgB m with
    | false =>
      rw [hearsB_no2 hm]
      rw [hm] at j2
      have hne : ¬ (if 1 ≤ m.kind ∧ m.kind ≤ 10 then errI false 2 else 30) = 0 := by split <;> decide
      generalize (if 1 ≤ m.kind ∧ m.kind ≤ 10 then errI false 2 else 30) = x at *
      refine ⟨?_⟩; refine Spec.ofR (h := fun F w0 => ?_)
      repeat' ((conv => whnf); first | refine Q.E ?_ | (refine Stk.both (fun hb => ?_) (fun hb => ?_) <;> (try simp only [lE] at hb))); all_goals (conv => whnf)
      ((refine FinK.of (h := ?_)); (repeat' (first | exact FinL.nil | refine FinL.cons ?_ ?_ | refine Fin'.tup ?_ | exact Q.f3 | exact Q.f4 | exact Q.f5 | exact Q.f6 | refine Fin'.vb ?_ | refine Fin'.vi ?_ | refine Fin'.agg ?_)))
    | true =>
      have hk : 1 ≤ m.kind ∧ m.kind ≤ 10 := by
        rw [msgB_c, Bool.and_eq_true, decide_eq_true_iff] at hm
        exact hm.1
      rw [if_pos hk, hm] at j2
      have j3 : HasSpec Tryz.prog 134 [.agg m.cs] (PV.int 0) := j2
      clear j2
      have hn := rep_nums hr
      have hq := msg_quorum hm
      by_cases h : m.fr ≤ r.n ∧ m.fr ≠ r.self ∧ selfI m.id ≤ r.n
      · rw [hearsB_in hr hm h, ← list_last hq ⟨hn.1, hn.2.1⟩]
        have jl := reflist_spec m.quorum
        have hl9 : (listS m.quorum 9).length ≤ 9 := by
          unfold listS
          exact Nat.le_trans (List.length_filter_le _ _) (by simp)
        generalize listS m.quorum 9 = l at *
        by_cases h0 : l.length = 0
        · have hl0 : l = [] := List.eq_nil_of_length_eq_zero h0
          have hz : (l.length : Int) = 0 := by omega
          rw [show decide (l.getLast?.getD 0 ≤ r.n) = true by
            rw [hl0]
            exact decide_eq_true (by show (0 : Int) ≤ r.n; omega)]
          refine ⟨?_⟩; refine Spec.ofR (h := fun F w0 => ?_)
          repeat' ((conv => whnf); first | refine Q.E ?_ | (refine Stk.both (fun hb => ?_) (fun hb => ?_) <;> (try simp only [lE] at hb))); all_goals (conv => whnf)
          ((refine FinK.of (h := ?_)); (repeat' (first | exact FinL.nil | refine FinL.cons ?_ ?_ | refine Fin'.tup ?_ | exact Q.f3 | exact Q.f4 | exact Q.f5 | exact Q.f6 | refine Fin'.vb ?_ | refine Fin'.vi ?_ | refine Fin'.agg ?_)))
          all_goals (first | rfl | exact tst_true.2 (by omega) | exact tst_false.2 (by omega) | (simp [tst_eq]; done) | (simp only [Bool.not_true, Bool.not_false, Bool.and_true, Bool.true_and, Bool.and_false, Bool.false_and]; first | done | exact tst_true.2 (by omega) | exact tst_false.2 (by omega) | (rw [tst_true.2 (by omega)]; done) | (rw [tst_false.2 (by omega)]; done)))
        · have hk2 : ((l.length : Int) - 1).toNat < l.length := by omega
          have hg : l.getLast?.getD 0 = l[((l.length : Int) - 1).toNat]'hk2 := by
            rw [List.getLast?_eq_getElem?, show l.length - 1 = ((l.length : Int) - 1).toNat by omega, List.getElem?_eq_getElem hk2]
            rfl
          rw [hg]
          refine ⟨?_⟩; refine Spec.ofR (h := fun F w0 => ?_)
          repeat' ((conv => whnf); first | refine Q.E ?_ | (refine Stk.both (fun hb => ?_) (fun hb => ?_) <;> (try simp only [lE] at hb))); all_goals (conv => whnf)
          ((refine FinK.of (h := ?_)); (repeat' (first | exact FinL.nil | refine FinL.cons ?_ ?_ | refine Fin'.tup ?_ | exact Q.f3 | exact Q.f4 | exact Q.f5 | exact Q.f6 | refine Fin'.vb ?_ | refine Fin'.vi ?_ | refine Fin'.agg ?_)))
          all_goals (rw [tst_eq])
      · rw [hearsB_no3 h]
        refine ⟨?_⟩; refine Spec.ofR (h := fun F w0 => ?_)
        repeat' ((conv => whnf); first | refine Q.E ?_ | (refine Stk.both (fun hb => ?_) (fun hb => ?_) <;> (try simp only [lE] at hb))); all_goals (conv => whnf)
        all_goals first | (exfalso; omega) | ((refine FinK.of (h := ?_)); (repeat' (first | exact FinL.nil | refine FinL.cons ?_ ?_ | refine Fin'.tup ?_ | exact Q.f3 | exact Q.f4 | exact Q.f5 | exact Q.f6 | refine Fin'.vb ?_ | refine Fin'.vi ?_ | refine Fin'.agg ?_)))
end Go.Proofs.YtbjepdfnmbdplaaGreat
end
section
namespace Go.Proofs.YtbjepdfnmbdplaaGreat
open Go.RowKit
set_option linter.unusedSimpArgs false
set_option linter.unusedVariables false
set_option maxRecDepth 100000
set_option maxHeartbeats 2000000
def othK (self : Int) (k : Nat) : List Int := ((List.range k).map fun i => ((i : Nat) : Int) + 1).filter fun i => decide (i ≠ self)
theorem othK_in {self : Int} {k : Nat} (h : (k : Int) + 1 ≠ self) : othK self (k + 1) = othK self k ++ [(k : Int) + 1] := by
  unfold othK
  rw [List.range_succ, List.map_append, List.filter_append, List.map_cons, List.map_nil, List.filter_cons, if_pos (decide_eq_true h), List.filter_nil]
theorem othK_out {self : Int} {k : Nat} (h : (k : Int) + 1 = self) : othK self (k + 1) = othK self k := by
  unfold othK
  rw [List.range_succ, List.map_append, List.filter_append, List.map_cons, List.map_nil, List.filter_cons, if_neg (by simp [h]), List.filter_nil, List.append_nil]
theorem othK_len (self : Int) (k : Nat) : (othK self k).length ≤ k := by
  unfold othK
  exact Nat.le_trans (List.length_filter_le _ _) (by simp)
theorem othL_K (r : Rpl) : othL r = othK r.self r.n.toNat := rfl
theorem others_spec (r : Rpl) (h : 0 ≤ r.n ∧ r.n ≤ 9) : HasSpec Tryz.prog 152 [.agg r.cs] (PV.ints (othL r)) := by
  refine ⟨?_⟩; refine Spec.ofR (h := fun F w0 => ?_)
  repeat' ((conv => whnf); first | refine Q.E ?_ | (refine Stk.both (fun hb => ?_) (fun hb => ?_) <;> (try simp only [lE] at hb))); all_goals (conv => whnf)
  refine Stk.loop (ι := Nat) (fun i => [(1, .lp 1 0), (3, .row 3 0), (4, PV.int ((i : Nat) + 1))]) (fun i => [(3, .row 3 1 0 ((othK r.self i).map ics)), (1, .box r.cs)]) (fun i => (i : Int) ≤ r.n) (fun i => r.n.toNat - i) 0 (by simp; omega) (Weak.trans (Weak.nilrow (t := 3) (id := 3) (rt := 3) (sz := 1) rfl rfl) (Weak.gc ⟨rfl, rfl, rfl, trivial⟩ ⟨rfl, rfl, trivial⟩ rfl rfl rfl)) (fun i hi => ?_)
  by_cases hlt : (i : Int) + 1 ≤ r.n
  · have hlen := othK_len r.self i
    by_cases hs : (i : Int) + 1 = r.self
    · repeat' ((conv => whnf); first | refine Q.E ?_ | (refine Stk.both (fun hb => ?_) (fun hb => ?_) <;> (try simp only [lE] at hb))); all_goals (conv => whnf)
      refine ⟨i + 1, by omega, by omega, ?_⟩
      rw [othK_out hs]
      exact Weak.gc ⟨rfl, rfl, rfl, trivial⟩ ⟨rfl, rfl, trivial⟩ rfl (onlyH_row (fun _ => rfl) rfl) rfl
    · have e := othK_in hs
      generalize othK r.self i = o at *
      repeat' ((conv => whnf); first | refine Q.E ?_ | (refine Stk.both (fun hb => ?_) (fun hb => ?_) <;> (try simp only [lE] at hb))); all_goals (conv => whnf)
      (refine Stk.app rfl Q.app ?_)
      repeat' ((conv => whnf); first | refine Q.E ?_ | (refine Stk.both (fun hb => ?_) (fun hb => ?_) <;> (try simp only [lE] at hb))); all_goals (conv => whnf)
      refine ⟨i + 1, by omega, by omega, ?_⟩
      rw [e]
      exact Weak.rever (by rw [List.map_append]; rfl) (all_map_closed (fun _ => rfl) _) ⟨.inl ⟨rfl, rfl⟩, .inr ⟨rfl, rfl⟩, .inl ⟨rfl, rfl⟩, trivial⟩ ⟨⟨by decide, rfl, rfl⟩, trivial⟩ rfl
  · rw [othL_K, show r.n.toNat = i by omega]
    repeat' ((conv => whnf); first | refine Q.E ?_ | (refine Stk.both (fun hb => ?_) (fun hb => ?_) <;> (try simp only [lE] at hb))); all_goals (conv => whnf)
    ((refine FinK.of (h := ?_)); (repeat' (first | exact FinL.nil | refine FinL.cons ?_ ?_ | refine Fin'.tup ?_ | exact Q.f3 | exact Q.f4 | exact Q.f5 | exact Q.f6 | refine Fin'.vb ?_ | refine Fin'.vi ?_ | refine Fin'.agg ?_)))
def mkO (r : Rpl) (m : Msg) (d : Int) : Out := ⟨d, m.from r.self⟩
instance one_spec (r : Rpl) (d : Int) (m : Msg) : HasSpec Tryz.prog 151 [.agg r.cs, PV.int d, .agg m.cs] (.agg (mkO r m d).cs) := by
  refine ⟨?_⟩; refine Spec.ofR (h := fun F w0 => ?_)
  repeat' ((conv => whnf); first | refine Q.E ?_ | (refine Stk.both (fun hb => ?_) (fun hb => ?_) <;> (try simp only [lE] at hb))); all_goals (conv => whnf)
  ((refine FinK.of (h := ?_)); (repeat' (first | exact FinL.nil | refine FinL.cons ?_ ?_ | refine Fin'.tup ?_ | exact Q.f3 | exact Q.f4 | exact Q.f5 | exact Q.f6 | refine Fin'.vb ?_ | refine Fin'.vi ?_ | refine Fin'.agg ?_)))
instance all_spec (r : Rpl) (m : Msg) : HasSpec Tryz.prog 75 [.agg r.cs, .agg m.cs] (PV.outs (allO r m)) := by
  cases hr : repB r with
  | false =>
    have j1 := stbad' hr
    rw [show allO r m = [] from if_neg (by rw [hr]; simp)]
    refine ⟨?_⟩; refine Spec.ofR (h := fun F w0 => ?_)
    repeat' ((conv => whnf); first | refine Q.E ?_ | (refine Stk.both (fun hb => ?_) (fun hb => ?_) <;> (try simp only [lE] at hb))); all_goals (conv => whnf)
    ((refine FinK.of (h := ?_)); (repeat' (first | exact FinL.nil | refine FinL.cons ?_ ?_ | refine Fin'.tup ?_ | exact Q.f3 | exact Q.f4 | exact Q.f5 | exact Q.f6 | refine Fin'.vb ?_ | refine Fin'.vi ?_ | refine Fin'.agg ?_)))
  | true =>
    have j1 := stok' hr
    have hn := rep_nums hr
    have j2 := others_spec r (by omega)
    have hl : (othL r).length ≤ 9 := Nat.le_trans (othK_len _ _) (by omega)
    rw [show allO r m = (othL r).map (mkO r m) from if_pos hr]
    generalize othL r = l at *
    refine ⟨?_⟩; refine Spec.ofR (h := fun F w0 => ?_)
    repeat' ((conv => whnf); first | refine Q.E ?_ | (refine Stk.both (fun hb => ?_) (fun hb => ?_) <;> (try simp only [lE] at hb))); all_goals (conv => whnf)
    refine Stk.by j2 (h := ?_)
    repeat' ((conv => whnf); first | refine Q.E ?_ | (refine Stk.both (fun hb => ?_) (fun hb => ?_) <;> (try simp only [lE] at hb))); all_goals (conv => whnf)
    refine Stk.loop (ι := Nat) (fun i => [(3, .lp 3 0), (5, .fn (.func 151) [.agg r.cs] []), (6, .row 6 0), (17, PV.ints l), (18, PV.int (l.length : Nat)), (19, PV.int (i : Nat))]) (fun i => [(6, .row 63 15 0 (((l.take i).map (mkO r m)).map Out.cs)), (3, .box m.cs)]) (fun i => i ≤ l.length) (fun i => l.length - i) 0 (Nat.zero_le _) (Weak.trans (Weak.nilrow (t := 6) (id := 6) (rt := 63) (sz := 15) rfl rfl) (Weak.gc ⟨rfl, rfl, rfl, rfl, rfl, rfl, trivial⟩ ⟨rfl, rfl, trivial⟩ rfl rfl rfl)) (fun i hi => ?_)
    by_cases hlt : i < l.length
    · have e : (l.take (i + 1)).map (mkO r m) = (l.take i).map (mkO r m) ++ [mkO r m l[i]] := by rw [take_snoc' l i hlt, List.map_append]; rfl
      have hol : ((l.take i).map (mkO r m)).length ≤ 9 := by rw [List.length_map, List.length_take]; omega
      generalize (l.take i).map (mkO r m) = o at *
      repeat' ((conv => whnf); first | refine Q.E ?_ | (refine Stk.both (fun hb => ?_) (fun hb => ?_) <;> (try simp only [lE] at hb))); all_goals (conv => whnf)
      (refine Stk.app rfl Q.app ?_)
      repeat' ((conv => whnf); first | refine Q.E ?_ | (refine Stk.both (fun hb => ?_) (fun hb => ?_) <;> (try simp only [lE] at hb))); all_goals (conv => whnf)
      refine ⟨i + 1, by omega, by omega, ?_⟩
      rw [e]
      exact Weak.rever (by rw [List.map_append]; rfl) (all_map_closed (fun _ => rfl) _) ⟨.inl ⟨rfl, rfl⟩, .inl ⟨rfl, rfl⟩, .inr ⟨rfl, rfl⟩, .inl ⟨rfl, rfl⟩, .inl ⟨rfl, rfl⟩, .inl ⟨rfl, rfl⟩, trivial⟩ ⟨⟨by decide, rfl, rfl⟩, trivial⟩ rfl
    · rw [show l.take i = l from List.take_of_length_le (by omega)]
      generalize l.map (mkO r m) = o at *
      repeat' ((conv => whnf); first | refine Q.E ?_ | (refine Stk.both (fun hb => ?_) (fun hb => ?_) <;> (try simp only [lE] at hb))); all_goals (conv => whnf)
      ((refine FinK.of (h := ?_)); (repeat' (first | exact FinL.nil | refine FinL.cons ?_ ?_ | refine Fin'.tup ?_ | exact Q.f3 | exact Q.f4 | exact Q.f5 | exact Q.f6 | refine Fin'.vb ?_ | refine Fin'.vi ?_ | refine Fin'.agg ?_)))
instance refall_spec (r : Rpl) (m : Msg) : HasSpec Tryz.prog 81 [.agg r.cs, .agg m.cs] (PV.outs (allO r m)) := by
  cases hr : repB r with
  | false =>
    have j1 := rstbad' hr
    rw [show allO r m = [] from if_neg (by rw [hr]; simp)]
    refine ⟨?_⟩; refine Spec.ofR (h := fun F w0 => ?_)
    repeat' ((conv => whnf); first | refine Q.E ?_ | (refine Stk.both (fun hb => ?_) (fun hb => ?_) <;> (try simp only [lE] at hb))); all_goals (conv => whnf)
    refine Stk.loop (ι := Nat) (fun i => [(2, .lp 2 0), (5, .v (.slice none 0 0)), (6, PV.int 1)]) (fun i => [(2, .box r.cs)]) (fun i => i = 0) (fun i => i) 0 rfl (Weak.gc ⟨rfl, rfl, rfl, trivial⟩ ⟨rfl, trivial⟩ rfl rfl rfl) (fun i hi => ?_)
    by_cases h1 : 1 ≤ r.n
    · repeat' ((conv => whnf); first | refine Q.E ?_ | (refine Stk.both (fun hb => ?_) (fun hb => ?_) <;> (try simp only [lE] at hb))); all_goals (conv => whnf)
      ((refine FinK.of (h := ?_)); (repeat' (first | exact FinL.nil | refine FinL.cons ?_ ?_ | refine Fin'.tup ?_ | exact Q.f3 | exact Q.f4 | exact Q.f5 | exact Q.f6 | refine Fin'.vb ?_ | refine Fin'.vi ?_ | refine Fin'.agg ?_)))
    · repeat' ((conv => whnf); first | refine Q.E ?_ | (refine Stk.both (fun hb => ?_) (fun hb => ?_) <;> (try simp only [lE] at hb))); all_goals (conv => whnf)
      ((refine FinK.of (h := ?_)); (repeat' (first | exact FinL.nil | refine FinL.cons ?_ ?_ | refine Fin'.tup ?_ | exact Q.f3 | exact Q.f4 | exact Q.f5 | exact Q.f6 | refine Fin'.vb ?_ | refine Fin'.vi ?_ | refine Fin'.agg ?_)))
  | true =>
    have j1 := rstok' hr
    have hn := rep_nums hr
    rw [show allO r m = (othL r).map (mkO r m) from if_pos hr, othL_K]
    refine ⟨?_⟩; refine Spec.ofR (h := fun F w0 => ?_)
    repeat' ((conv => whnf); first | refine Q.E ?_ | (refine Stk.both (fun hb => ?_) (fun hb => ?_) <;> (try simp only [lE] at hb))); all_goals (conv => whnf)
    refine Stk.loop (ι := Nat × Msg) (fun i => [(2, .lp 2 0), (3, .lp 3 0), (5, .row 5 0), (6, PV.int ((i.1 : Nat) + 1))]) (fun i => [(5, .row 63 15 0 (((othK r.self i.1).map (mkO r m)).map Out.cs)), (2, .box r.cs), (3, .box i.2.cs)]) (fun i => (i.1 : Int) ≤ r.n ∧ i.2.from r.self = m.from r.self) (fun i => r.n.toNat - i.1) (0, m) ⟨by simp; omega, rfl⟩ (Weak.trans (Weak.nilrow (t := 5) (id := 5) (rt := 63) (sz := 15) rfl rfl) (Weak.gc ⟨rfl, rfl, rfl, rfl, trivial⟩ ⟨rfl, rfl, rfl, trivial⟩ rfl rfl rfl)) (fun ⟨i, x⟩ hi => ?_)
    obtain ⟨hi, hx⟩ := hi
    simp only at hi hx
    dsimp only
    by_cases hlt : (i : Int) + 1 ≤ r.n
    · have hlen := othK_len r.self i
      by_cases hs : (i : Int) + 1 = r.self
      · repeat' ((conv => whnf); first | refine Q.E ?_ | (refine Stk.both (fun hb => ?_) (fun hb => ?_) <;> (try simp only [lE] at hb))); all_goals (conv => whnf)
        refine ⟨(i + 1, x), ⟨by dsimp only; omega, hx⟩, by dsimp only; omega, ?_⟩
        dsimp only
        rw [othK_out hs]
        exact Weak.gc ⟨rfl, rfl, rfl, rfl, trivial⟩ ⟨rfl, rfl, rfl, trivial⟩ rfl (onlyH_row (fun _ => rfl) rfl) rfl
      · have e : (othK r.self (i + 1)).map (mkO r m) = (othK r.self i).map (mkO r m) ++ [⟨(i : Int) + 1, x.from r.self⟩] := by
          rw [othK_in hs, List.map_append]
          unfold mkO
          rw [hx]
          rfl
        have hol : ((othK r.self i).map (mkO r m)).length ≤ 9 := by rw [List.length_map]; omega
        generalize (othK r.self i).map (mkO r m) = o at *
        repeat' ((conv => whnf); first | refine Q.E ?_ | (refine Stk.both (fun hb => ?_) (fun hb => ?_) <;> (try simp only [lE] at hb))); all_goals (conv => whnf)
        (refine Stk.app rfl Q.app ?_)
        repeat' ((conv => whnf); first | refine Q.E ?_ | (refine Stk.both (fun hb => ?_) (fun hb => ?_) <;> (try simp only [lE] at hb))); all_goals (conv => whnf)
        refine ⟨(i + 1, x.from r.self), ⟨by dsimp only; omega, hx⟩, by dsimp only; omega, ?_⟩
        dsimp only
        rw [e]
        exact Weak.rever (by rw [List.map_append]; rfl) (all_map_closed (fun _ => rfl) _) ⟨.inl ⟨rfl, rfl⟩, .inl ⟨rfl, rfl⟩, .inr ⟨rfl, rfl⟩, .inl ⟨rfl, rfl⟩, trivial⟩ ⟨⟨by decide, rfl, rfl⟩, ⟨by decide, rfl, rfl⟩, trivial⟩ rfl
    · rw [show r.n.toNat = i by omega]
      generalize (othK r.self i).map (mkO r m) = o at *
      repeat' ((conv => whnf); first | refine Q.E ?_ | (refine Stk.both (fun hb => ?_) (fun hb => ?_) <;> (try simp only [lE] at hb))); all_goals (conv => whnf)
      ((refine FinK.of (h := ?_)); (repeat' (first | exact FinL.nil | refine FinL.cons ?_ ?_ | refine Fin'.tup ?_ | exact Q.f3 | exact Q.f4 | exact Q.f5 | exact Q.f6 | refine Fin'.vb ?_ | refine Fin'.vi ?_ | refine Fin'.agg ?_)))
end Go.Proofs.YtbjepdfnmbdplaaGreat
end
section
namespace Go.Proofs.YtbjepdfnmbdplaaGreat
open Go.RowKit
set_option linter.unusedSimpArgs false
set_option linter.unusedVariables false
set_option maxRecDepth 100000
set_option maxHeartbeats 2000000
instance in23_spec (t : Int) : HasSpec Tryz.prog 139 [PV.int t] (.v (.bool (timeB t))) := by
  refine ⟨?_⟩; refine Spec.ofR (h := fun F w0 => ?_)
  repeat' ((conv => whnf); first | refine Q.E ?_ | (refine Stk.both (fun hb => ?_) (fun hb => ?_) <;> (try simp only [lE] at hb))); all_goals (conv => whnf)
  all_goals ((refine FinK.of (h := ?_)); (repeat' (first | exact FinL.nil | refine FinL.cons ?_ ?_ | refine Fin'.tup ?_ | exact Q.f3 | exact Q.f4 | exact Q.f5 | exact Q.f6 | refine Fin'.vb ?_ | refine Fin'.vi ?_ | refine Fin'.agg ?_)))
  all_goals unfold timeB
  all_goals ((first | rfl | (rw [Bool.eq_iff_iff]; simp only [tst_true, tst_false, lE, decide_eq_true_eq, decide_eq_false_iff_not, Bool.and_eq_true, Bool.or_eq_true, Bool.not_eq_true', Bool.not_eq_false', Bool.false_eq_true, Bool.true_eq_false, true_iff, iff_true, false_iff, iff_false, true_and, and_true, false_and, and_false, not_false_eq_true, not_true_eq_false]; try omega)))
instance refcommit_spec (e : Ent) (t : Int) : HasSpec Tryz.prog 156 [.agg e.cs, PV.int t] (.tup [.agg (commE e t).cs, PV.int (commX e t)]) := by
  cases hE : entB e with
  | false =>
    have j0 := rchk_no hE
    have hx : commX e t = 2 := if_neg (by rw [hE]; simp)
    rw [hx, commE_no (by rw [hx]; decide)]
    refine ⟨?_⟩; refine Spec.ofR (h := fun F w0 => ?_)
    repeat' ((conv => whnf); first | refine Q.E ?_ | (refine Stk.both (fun hb => ?_) (fun hb => ?_) <;> (try simp only [lE] at hb))); all_goals (conv => whnf)
    all_goals ((refine FinK.of (h := ?_)); (repeat' (first | exact FinL.nil | refine FinL.cons ?_ ?_ | refine Fin'.tup ?_ | exact Q.f3 | exact Q.f4 | exact Q.f5 | exact Q.f6 | refine Fin'.vb ?_ | refine Fin'.vi ?_ | refine Fin'.agg ?_)))
  | true =>
    have j0 := rchk_yes hE
    cases ht : timeB t with
    | false =>
      have hx : commX e t = 2 := if_neg (by rw [ht]; simp)
      rw [hx, commE_no (by rw [hx]; decide)]
      refine ⟨?_⟩; refine Spec.ofR (h := fun F w0 => ?_)
      repeat' ((conv => whnf); first | refine Q.E ?_ | (refine Stk.both (fun hb => ?_) (fun hb => ?_) <;> (try simp only [lE] at hb))); all_goals (conv => whnf)
      all_goals ((refine FinK.of (h := ?_)); (repeat' (first | exact FinL.nil | refine FinL.cons ?_ ?_ | refine Fin'.tup ?_ | exact Q.f3 | exact Q.f4 | exact Q.f5 | exact Q.f6 | refine Fin'.vb ?_ | refine Fin'.vi ?_ | refine Fin'.agg ?_)))
    | true =>
      have hc : commX e t = if e.phase < 5 then 0 else 33 := if_pos ⟨hE, ht⟩
      by_cases hp : e.phase < 5
      · have hx : commX e t = 0 := by rw [hc, if_pos hp]
        rw [show commE e t = e.up 5 t e.bal e.abal [] from if_pos hx, hx]
        refine ⟨?_⟩; refine Spec.ofR (h := fun F w0 => ?_)
        repeat' ((conv => whnf); first | refine Q.E ?_ | (refine Stk.both (fun hb => ?_) (fun hb => ?_) <;> (try simp only [lE] at hb))); all_goals (conv => whnf)
        all_goals ((refine FinK.of (h := ?_)); (repeat' (first | exact FinL.nil | refine FinL.cons ?_ ?_ | refine Fin'.tup ?_ | exact Q.f3 | exact Q.f4 | exact Q.f5 | exact Q.f6 | refine Fin'.vb ?_ | refine Fin'.vi ?_ | refine Fin'.agg ?_)))
      · have hx : commX e t = 33 := by rw [hc, if_neg hp]
        rw [hx, commE_no (by rw [hx]; decide)]
        refine ⟨?_⟩; refine Spec.ofR (h := fun F w0 => ?_)
        repeat' ((conv => whnf); first | refine Q.E ?_ | (refine Stk.both (fun hb => ?_) (fun hb => ?_) <;> (try simp only [lE] at hb))); all_goals (conv => whnf)
        all_goals ((refine FinK.of (h := ?_)); (repeat' (first | exact FinL.nil | refine FinL.cons ?_ ?_ | refine Fin'.tup ?_ | exact Q.f3 | exact Q.f4 | exact Q.f5 | exact Q.f6 | refine Fin'.vb ?_ | refine Fin'.vi ?_ | refine Fin'.agg ?_)))
instance refaccept_spec (e : Ent) (t b : Int) : HasSpec Tryz.prog 60 [.agg e.cs, PV.int t, PV.int b] (.tup [.agg (accE e t b).cs, PV.int (accX e t b)]) := by
  cases hE : entB e with
  | false =>
    have j0 := rchk_no hE
    have hx : accX e t b = 2 := if_neg (by rw [hE]; simp)
    rw [hx, accE_no (by rw [hx]; decide)]
    refine ⟨?_⟩; refine Spec.ofR (h := fun F w0 => ?_)
    repeat' ((conv => whnf); first | refine Q.E ?_ | (refine Stk.both (fun hb => ?_) (fun hb => ?_) <;> (try simp only [lE] at hb))); all_goals (conv => whnf)
    all_goals ((refine FinK.of (h := ?_)); (repeat' (first | exact FinL.nil | refine FinL.cons ?_ ?_ | refine Fin'.tup ?_ | exact Q.f3 | exact Q.f4 | exact Q.f5 | exact Q.f6 | refine Fin'.vb ?_ | refine Fin'.vi ?_ | refine Fin'.agg ?_)))
  | true =>
    have j0 := rchk_yes hE
    cases ht : timeB t with
    | false =>
      have hx : accX e t b = 2 := if_neg (by rw [ht]; simp)
      rw [hx, accE_no (by rw [hx]; decide)]
      refine ⟨?_⟩; refine Spec.ofR (h := fun F w0 => ?_)
      repeat' ((conv => whnf); first | refine Q.E ?_ | (refine Stk.both (fun hb => ?_) (fun hb => ?_) <;> (try simp only [lE] at hb))); all_goals (conv => whnf)
      all_goals ((refine FinK.of (h := ?_)); (repeat' (first | exact FinL.nil | refine FinL.cons ?_ ?_ | refine Fin'.tup ?_ | exact Q.f3 | exact Q.f4 | exact Q.f5 | exact Q.f6 | refine Fin'.vb ?_ | refine Fin'.vi ?_ | refine Fin'.agg ?_)))
    | true =>
      cases hb : timeB b with
      | false =>
        have hx : accX e t b = 2 := if_neg (by rw [hb]; simp)
        rw [hx, accE_no (by rw [hx]; decide)]
        refine ⟨?_⟩; refine Spec.ofR (h := fun F w0 => ?_)
        repeat' ((conv => whnf); first | refine Q.E ?_ | (refine Stk.both (fun hb => ?_) (fun hb => ?_) <;> (try simp only [lE] at hb))); all_goals (conv => whnf)
        all_goals ((refine FinK.of (h := ?_)); (repeat' (first | exact FinL.nil | refine FinL.cons ?_ ?_ | refine Fin'.tup ?_ | exact Q.f3 | exact Q.f4 | exact Q.f5 | exact Q.f6 | refine Fin'.vb ?_ | refine Fin'.vi ?_ | refine Fin'.agg ?_)))
      | true =>
        have hc : accX e t b = if e.phase < 5 then (if e.bal ≤ b then 0 else 45) else 33 := if_pos ⟨hE, ht, hb⟩
        by_cases hp : e.phase < 5
        · by_cases hq : e.bal ≤ b
          · have hx : accX e t b = 0 := by rw [hc, if_pos hp, if_pos hq]
            rw [show accE e t b = e.up e.phase t b b [] from if_pos hx, hx]
            refine ⟨?_⟩; refine Spec.ofR (h := fun F w0 => ?_)
            repeat' ((conv => whnf); first | refine Q.E ?_ | (refine Stk.both (fun hb => ?_) (fun hb => ?_) <;> (try simp only [lE] at hb))); all_goals (conv => whnf)
            all_goals ((refine FinK.of (h := ?_)); (repeat' (first | exact FinL.nil | refine FinL.cons ?_ ?_ | refine Fin'.tup ?_ | exact Q.f3 | exact Q.f4 | exact Q.f5 | exact Q.f6 | refine Fin'.vb ?_ | refine Fin'.vi ?_ | refine Fin'.agg ?_)))
          · have hx : accX e t b = 45 := by rw [hc, if_pos hp, if_neg hq]
            rw [hx, accE_no (by rw [hx]; decide)]
            refine ⟨?_⟩; refine Spec.ofR (h := fun F w0 => ?_)
            repeat' ((conv => whnf); first | refine Q.E ?_ | (refine Stk.both (fun hb => ?_) (fun hb => ?_) <;> (try simp only [lE] at hb))); all_goals (conv => whnf)
            all_goals ((refine FinK.of (h := ?_)); (repeat' (first | exact FinL.nil | refine FinL.cons ?_ ?_ | refine Fin'.tup ?_ | exact Q.f3 | exact Q.f4 | exact Q.f5 | exact Q.f6 | refine Fin'.vb ?_ | refine Fin'.vi ?_ | refine Fin'.agg ?_)))
        · have hx : accX e t b = 33 := by rw [hc, if_neg hp]
          rw [hx, accE_no (by rw [hx]; decide)]
          refine ⟨?_⟩; refine Spec.ofR (h := fun F w0 => ?_)
          repeat' ((conv => whnf); first | refine Q.E ?_ | (refine Stk.both (fun hb => ?_) (fun hb => ?_) <;> (try simp only [lE] at hb))); all_goals (conv => whnf)
          all_goals ((refine FinK.of (h := ?_)); (repeat' (first | exact FinL.nil | refine FinL.cons ?_ ?_ | refine Fin'.tup ?_ | exact Q.f3 | exact Q.f4 | exact Q.f5 | exact Q.f6 | refine Fin'.vb ?_ | refine Fin'.vi ?_ | refine Fin'.agg ?_)))
instance refhear_spec (e : Ent) (b : Int) : HasSpec Tryz.prog 84 [.agg e.cs, PV.int b] (.agg (hearE e b).cs) := by
  cases hE : entB e with
  | false =>
    have j0 := rchk_no hE
    rw [show hearE e b = e from if_neg (by rw [hE]; simp)]
    refine ⟨?_⟩; refine Spec.ofR (h := fun F w0 => ?_)
    repeat' ((conv => whnf); first | refine Q.E ?_ | (refine Stk.both (fun hb => ?_) (fun hb => ?_) <;> (try simp only [lE] at hb))); all_goals (conv => whnf)
    all_goals ((refine FinK.of (h := ?_)); (repeat' (first | exact FinL.nil | refine FinL.cons ?_ ?_ | refine Fin'.tup ?_ | exact Q.f3 | exact Q.f4 | exact Q.f5 | exact Q.f6 | refine Fin'.vb ?_ | refine Fin'.vi ?_ | refine Fin'.agg ?_)))
  | true =>
    have j0 := rchk_yes hE
    cases hb : timeB b with
    | false =>
      rw [show hearE e b = e from if_neg (by rw [hb]; simp)]
      refine ⟨?_⟩; refine Spec.ofR (h := fun F w0 => ?_)
      repeat' ((conv => whnf); first | refine Q.E ?_ | (refine Stk.both (fun hb => ?_) (fun hb => ?_) <;> (try simp only [lE] at hb))); all_goals (conv => whnf)
      all_goals ((refine FinK.of (h := ?_)); (repeat' (first | exact FinL.nil | refine FinL.cons ?_ ?_ | refine Fin'.tup ?_ | exact Q.f3 | exact Q.f4 | exact Q.f5 | exact Q.f6 | refine Fin'.vb ?_ | refine Fin'.vi ?_ | refine Fin'.agg ?_)))
    | true =>
      rw [show hearE e b = { e with seen := max e.seen b } from if_pos ⟨hE, hb⟩]
      by_cases hq : e.seen < b
      · rw [show max e.seen b = b by omega]
        refine ⟨?_⟩; refine Spec.ofR (h := fun F w0 => ?_)
        repeat' ((conv => whnf); first | refine Q.E ?_ | (refine Stk.both (fun hb => ?_) (fun hb => ?_) <;> (try simp only [lE] at hb))); all_goals (conv => whnf)
        all_goals ((refine FinK.of (h := ?_)); (repeat' (first | exact FinL.nil | refine FinL.cons ?_ ?_ | refine Fin'.tup ?_ | exact Q.f3 | exact Q.f4 | exact Q.f5 | exact Q.f6 | refine Fin'.vb ?_ | refine Fin'.vi ?_ | refine Fin'.agg ?_)))
      · rw [show max e.seen b = e.seen by omega]
        refine ⟨?_⟩; refine Spec.ofR (h := fun F w0 => ?_)
        repeat' ((conv => whnf); first | refine Q.E ?_ | (refine Stk.both (fun hb => ?_) (fun hb => ?_) <;> (try simp only [lE] at hb))); all_goals (conv => whnf)
        all_goals ((refine FinK.of (h := ?_)); (repeat' (first | exact FinL.nil | refine FinL.cons ?_ ?_ | refine Fin'.tup ?_ | exact Q.f3 | exact Q.f4 | exact Q.f5 | exact Q.f6 | refine Fin'.vb ?_ | refine Fin'.vi ?_ | refine Fin'.agg ?_)))
theorem refwon_spec (e : Ent) (b f : Int) (hl : e.acks.length ≤ 1000000) : HasSpec Tryz.prog 79 [.agg e.cs, PV.int b, PV.int f] (.v (.bool (wonB e b f))) := by
  have i1 := fun k t => refwho_spec e k t hl
  cases hE : entB e with
  | false =>
    have j0 := rchk_no hE
    rw [show wonB e b f = false by unfold wonB; rw [hE]; rfl]
    refine ⟨?_⟩; refine Spec.ofR (h := fun F w0 => ?_)
    repeat' ((conv => whnf); first | refine Q.E ?_ | (refine Stk.both (fun hb => ?_) (fun hb => ?_) <;> (try simp only [lE] at hb))); all_goals (conv => whnf)
    all_goals ((refine FinK.of (h := ?_)); (repeat' (first | exact FinL.nil | refine FinL.cons ?_ ?_ | refine Fin'.tup ?_ | exact Q.f3 | exact Q.f4 | exact Q.f5 | exact Q.f6 | refine Fin'.vb ?_ | refine Fin'.vi ?_ | refine Fin'.agg ?_)))
  | true =>
    have j0 := rchk_yes hE
    rw [show wonB e b f = decide (1 ≤ b ∧ e.bal = b ∧ e.abal = b ∧ 1 ≤ f ∧ f ≤ 4 ∧ f < ((listS (whoN e 2 b : Nat) 9).length : Int)) by unfold wonB; rw [hE]; rfl]
    by_cases hc : 1 ≤ b ∧ e.bal = b ∧ e.abal = b ∧ 1 ≤ f ∧ f ≤ 4
    · refine ⟨?_⟩; refine Spec.ofR (h := fun F w0 => ?_)
      repeat' ((conv => whnf); first | refine Q.E ?_ | (refine Stk.both (fun hb => ?_) (fun hb => ?_) <;> (try simp only [lE] at hb))); all_goals (conv => whnf)
      all_goals ((refine FinK.of (h := ?_)); (repeat' (first | exact FinL.nil | refine FinL.cons ?_ ?_ | refine Fin'.tup ?_ | exact Q.f3 | exact Q.f4 | exact Q.f5 | exact Q.f6 | refine Fin'.vb ?_ | refine Fin'.vi ?_ | refine Fin'.agg ?_)))
      all_goals (rw [tst_eq, decide_eq_decide]; omega)
    · rw [decide_eq_false (fun h => hc ⟨h.1, h.2.1, h.2.2.1, h.2.2.2.1, h.2.2.2.2.1⟩)]
      refine ⟨?_⟩; refine Spec.ofR (h := fun F w0 => ?_)
      repeat' ((conv => whnf); first | refine Q.E ?_ | (refine Stk.both (fun hb => ?_) (fun hb => ?_) <;> (try simp only [lE] at hb))); all_goals (conv => whnf)
      all_goals first | (exfalso; omega) | ((refine FinK.of (h := ?_)); (repeat' (first | exact FinL.nil | refine FinL.cons ?_ ?_ | refine Fin'.tup ?_ | exact Q.f3 | exact Q.f4 | exact Q.f5 | exact Q.f6 | refine Fin'.vb ?_ | refine Fin'.vi ?_ | refine Fin'.agg ?_)))
end Go.Proofs.YtbjepdfnmbdplaaGreat
end
section
namespace Go.Proofs.YtbjepdfnmbdplaaGreat
open Go.RowKit
set_option linter.unusedSimpArgs false
set_option linter.unusedVariables false
set_option maxRecDepth 100000
set_option maxHeartbeats 2000000
theorem new_yes {id q : Int} {p : ByteArray} (h : entB (.new id q p) = true) : newR id q p = .new id q p := if_pos h
theorem new_no {id q : Int} {p : ByteArray} (h : entB (.new id q p) = false) : newR id q p = .zero := if_neg (by rw [h]; simp)
instance learn_spec (r : Rpl) (id q : Int) (p : ByteArray) : HasSpec Tryz.prog 103 [.agg r.cs, PV.int id, PV.int q, .v (.string p)] (.tup [.agg (lrnR r id q p).cs, .agg (lrnE r id q p).cs, .v (.bool (lrnB r id q p))]) := by
  cases hr : repB r with
  | false =>
    have j1 := stbad' hr
    rw [show lrnR r id q p = r from if_neg (by rw [hr]; simp), show lrnE r id q p = .zero from if_neg (by rw [hr]; simp), show lrnB r id q p = false from if_neg (by rw [hr]; simp)]
    refine ⟨?_⟩; refine Spec.ofR (h := fun F w0 => ?_)
    repeat' ((conv => whnf); first | refine Q.E ?_ | (refine Stk.both (fun hb => ?_) (fun hb => ?_) <;> (try simp only [lE] at hb))); all_goals (conv => whnf)
    all_goals ((refine FinK.of (h := ?_)); (repeat' (first | exact FinL.nil | refine FinL.cons ?_ ?_ | refine Fin'.tup ?_ | exact Q.f3 | exact Q.f4 | exact Q.f5 | exact Q.f6 | refine Fin'.vb ?_ | refine Fin'.vi ?_ | refine Fin'.agg ?_)))
  | true =>
    have j1 := stok' hr
    cases hd : doneB r id with
    | true =>
      rw [show lrnR r id q p = r from if_neg (by rw [hd]; simp), show lrnE r id q p = .zero from if_neg (by rw [hd]; simp), show lrnB r id q p = false from if_neg (by rw [hd]; simp)]
      refine ⟨?_⟩; refine Spec.ofR (h := fun F w0 => ?_)
      repeat' ((conv => whnf); first | refine Q.E ?_ | (refine Stk.both (fun hb => ?_) (fun hb => ?_) <;> (try simp only [lE] at hb))); all_goals (conv => whnf)
      all_goals ((refine FinK.of (h := ?_)); (repeat' (first | exact FinL.nil | refine FinL.cons ?_ ?_ | refine Fin'.tup ?_ | exact Q.f3 | exact Q.f4 | exact Q.f5 | exact Q.f6 | refine Fin'.vb ?_ | refine Fin'.vi ?_ | refine Fin'.agg ?_)))
    | false =>
      have hc : repB r = true ∧ doneB r id = false := ⟨hr, hd⟩
      have jf := tablefind_spec r.entries id
      cases hf : findB r.entries id with
      | true =>
        rw [hf] at jf
        rw [show lrnR r id q p = r from (if_pos hc).trans (if_pos hf), show lrnE r id q p = findT r.entries id from (if_pos hc).trans (if_pos hf), show lrnB r id q p = true from (if_pos hc).trans (if_pos hf)]
        generalize findT r.entries id = e at *
        refine ⟨?_⟩; refine Spec.ofR (h := fun F w0 => ?_)
        repeat' ((conv => whnf); first | refine Q.E ?_ | (refine Stk.both (fun hb => ?_) (fun hb => ?_) <;> (try simp only [lE] at hb))); all_goals (conv => whnf)
        all_goals ((refine FinK.of (h := ?_)); (repeat' (first | exact FinL.nil | refine FinL.cons ?_ ?_ | refine Fin'.tup ?_ | exact Q.f3 | exact Q.f4 | exact Q.f5 | exact Q.f6 | refine Fin'.vb ?_ | refine Fin'.vi ?_ | refine Fin'.agg ?_)))
      | false =>
        have hf2 : ¬ findB r.entries id = true := by rw [hf]; simp
        rw [hf] at jf
        cases he : entB (.new id q p) with
        | false =>
          rw [show lrnR r id q p = r from (if_pos hc).trans ((if_neg hf2).trans (if_neg (by rw [he]; simp))), show lrnE r id q p = .zero from (if_pos hc).trans ((if_neg hf2).trans (if_neg (by rw [he]; simp))), show lrnB r id q p = false from (if_pos hc).trans ((if_neg hf2).trans (if_neg (by rw [he]; simp)))]
          have j2 := entrynew_spec id q p
          rw [he, new_no he] at j2
          refine ⟨?_⟩; refine Spec.ofR (h := fun F w0 => ?_)
          repeat' ((conv => whnf); first | refine Q.E ?_ | (refine Stk.both (fun hb => ?_) (fun hb => ?_) <;> (try simp only [lE] at hb))); all_goals (conv => whnf)
          all_goals ((refine FinK.of (h := ?_)); (repeat' (first | exact FinL.nil | refine FinL.cons ?_ ?_ | refine Fin'.tup ?_ | exact Q.f3 | exact Q.f4 | exact Q.f5 | exact Q.f6 | refine Fin'.vb ?_ | refine Fin'.vi ?_ | refine Fin'.agg ?_)))
        | true =>
          have j2 := entrynew_spec id q p
          rw [he, new_yes he] at j2
          by_cases hx : rputX r (.new id q p) = 0
          · rw [show lrnR r id q p = rputR r (.new id q p) from (if_pos hc).trans ((if_neg hf2).trans (if_pos he)), show lrnE r id q p = .new id q p from (if_pos hc).trans ((if_neg hf2).trans (if_pos ⟨he, hx⟩)), show lrnB r id q p = true from (if_pos hc).trans ((if_neg hf2).trans (if_pos ⟨he, hx⟩))]
            generalize Ent.new id q p = e at *
            have j3 := put_spec r e
            generalize rputX r e = x at *
            generalize rputR r e = s at *
            refine ⟨?_⟩; refine Spec.ofR (h := fun F w0 => ?_)
            repeat' ((conv => whnf); first | refine Q.E ?_ | (refine Stk.both (fun hb => ?_) (fun hb => ?_) <;> (try simp only [lE] at hb))); all_goals (conv => whnf)
            all_goals ((refine FinK.of (h := ?_)); (repeat' (first | exact FinL.nil | refine FinL.cons ?_ ?_ | refine Fin'.tup ?_ | exact Q.f3 | exact Q.f4 | exact Q.f5 | exact Q.f6 | refine Fin'.vb ?_ | refine Fin'.vi ?_ | refine Fin'.agg ?_)))
          · rw [show lrnR r id q p = rputR r (.new id q p) from (if_pos hc).trans ((if_neg hf2).trans (if_pos he)), show lrnE r id q p = .zero from (if_pos hc).trans ((if_neg hf2).trans (if_neg (fun h => hx h.2))), show lrnB r id q p = false from (if_pos hc).trans ((if_neg hf2).trans (if_neg (fun h => hx h.2))), rputR_no hx]
            generalize Ent.new id q p = e at *
            have j3 := put_spec r e
            generalize rputX r e = x at *
            generalize rputR r e = s at *
            refine ⟨?_⟩; refine Spec.ofR (h := fun F w0 => ?_)
            repeat' ((conv => whnf); first | refine Q.E ?_ | (refine Stk.both (fun hb => ?_) (fun hb => ?_) <;> (try simp only [lE] at hb))); all_goals (conv => whnf)
            all_goals ((refine FinK.of (h := ?_)); (repeat' (first | exact FinL.nil | refine FinL.cons ?_ ?_ | refine Fin'.tup ?_ | exact Q.f3 | exact Q.f4 | exact Q.f5 | exact Q.f6 | refine Fin'.vb ?_ | refine Fin'.vi ?_ | refine Fin'.agg ?_)))
instance reflearn_spec (r : Rpl) (id q : Int) (p : ByteArray) : HasSpec Tryz.prog 58 [.agg r.cs, PV.int id, PV.int q, .v (.string p)] (.tup [.agg (lrnR r id q p).cs, .agg (lrnE r id q p).cs, .v (.bool (lrnB r id q p))]) := by
  cases hr : repB r with
  | false =>
    have j1 := rstbad' hr
    rw [show lrnR r id q p = r from if_neg (by rw [hr]; simp), show lrnE r id q p = .zero from if_neg (by rw [hr]; simp), show lrnB r id q p = false from if_neg (by rw [hr]; simp)]
    refine ⟨?_⟩; refine Spec.ofR (h := fun F w0 => ?_)
    repeat' ((conv => whnf); first | refine Q.E ?_ | (refine Stk.both (fun hb => ?_) (fun hb => ?_) <;> (try simp only [lE] at hb))); all_goals (conv => whnf)
    all_goals ((refine FinK.of (h := ?_)); (repeat' (first | exact FinL.nil | refine FinL.cons ?_ ?_ | refine Fin'.tup ?_ | exact Q.f3 | exact Q.f4 | exact Q.f5 | exact Q.f6 | refine Fin'.vb ?_ | refine Fin'.vi ?_ | refine Fin'.agg ?_)))
  | true =>
    have j1 := rstok' hr
    cases hd : doneB r id with
    | true =>
      rw [show lrnR r id q p = r from if_neg (by rw [hd]; simp), show lrnE r id q p = .zero from if_neg (by rw [hd]; simp), show lrnB r id q p = false from if_neg (by rw [hd]; simp)]
      refine ⟨?_⟩; refine Spec.ofR (h := fun F w0 => ?_)
      repeat' ((conv => whnf); first | refine Q.E ?_ | (refine Stk.both (fun hb => ?_) (fun hb => ?_) <;> (try simp only [lE] at hb))); all_goals (conv => whnf)
      all_goals ((refine FinK.of (h := ?_)); (repeat' (first | exact FinL.nil | refine FinL.cons ?_ ?_ | refine Fin'.tup ?_ | exact Q.f3 | exact Q.f4 | exact Q.f5 | exact Q.f6 | refine Fin'.vb ?_ | refine Fin'.vi ?_ | refine Fin'.agg ?_)))
    | false =>
      have hc : repB r = true ∧ doneB r id = false := ⟨hr, hd⟩
      have jf := reftabfind_spec r.entries id
      cases hf : findB r.entries id with
      | true =>
        rw [hf] at jf
        rw [show lrnR r id q p = r from (if_pos hc).trans (if_pos hf), show lrnE r id q p = findT r.entries id from (if_pos hc).trans (if_pos hf), show lrnB r id q p = true from (if_pos hc).trans (if_pos hf)]
        generalize findT r.entries id = e at *
        refine ⟨?_⟩; refine Spec.ofR (h := fun F w0 => ?_)
        repeat' ((conv => whnf); first | refine Q.E ?_ | (refine Stk.both (fun hb => ?_) (fun hb => ?_) <;> (try simp only [lE] at hb))); all_goals (conv => whnf)
        all_goals ((refine FinK.of (h := ?_)); (repeat' (first | exact FinL.nil | refine FinL.cons ?_ ?_ | refine Fin'.tup ?_ | exact Q.f3 | exact Q.f4 | exact Q.f5 | exact Q.f6 | refine Fin'.vb ?_ | refine Fin'.vi ?_ | refine Fin'.agg ?_)))
      | false =>
        have hf2 : ¬ findB r.entries id = true := by rw [hf]; simp
        rw [hf] at jf
        cases he : entB (.new id q p) with
        | false =>
          rw [show lrnR r id q p = r from (if_pos hc).trans ((if_neg hf2).trans (if_neg (by rw [he]; simp))), show lrnE r id q p = .zero from (if_pos hc).trans ((if_neg hf2).trans (if_neg (by rw [he]; simp))), show lrnB r id q p = false from (if_pos hc).trans ((if_neg hf2).trans (if_neg (by rw [he]; simp)))]
          have j2 := refnew_spec id q p
          rw [he, new_no he] at j2
          refine ⟨?_⟩; refine Spec.ofR (h := fun F w0 => ?_)
          repeat' ((conv => whnf); first | refine Q.E ?_ | (refine Stk.both (fun hb => ?_) (fun hb => ?_) <;> (try simp only [lE] at hb))); all_goals (conv => whnf)
          all_goals ((refine FinK.of (h := ?_)); (repeat' (first | exact FinL.nil | refine FinL.cons ?_ ?_ | refine Fin'.tup ?_ | exact Q.f3 | exact Q.f4 | exact Q.f5 | exact Q.f6 | refine Fin'.vb ?_ | refine Fin'.vi ?_ | refine Fin'.agg ?_)))
        | true =>
          have j2 := refnew_spec id q p
          rw [he, new_yes he] at j2
          by_cases hx : rputX r (.new id q p) = 0
          · rw [show lrnR r id q p = rputR r (.new id q p) from (if_pos hc).trans ((if_neg hf2).trans (if_pos he)), show lrnE r id q p = .new id q p from (if_pos hc).trans ((if_neg hf2).trans (if_pos ⟨he, hx⟩)), show lrnB r id q p = true from (if_pos hc).trans ((if_neg hf2).trans (if_pos ⟨he, hx⟩))]
            generalize Ent.new id q p = e at *
            have j3 := refput_spec r e
            generalize rputX r e = x at *
            generalize rputR r e = s at *
            refine ⟨?_⟩; refine Spec.ofR (h := fun F w0 => ?_)
            repeat' ((conv => whnf); first | refine Q.E ?_ | (refine Stk.both (fun hb => ?_) (fun hb => ?_) <;> (try simp only [lE] at hb))); all_goals (conv => whnf)
            all_goals ((refine FinK.of (h := ?_)); (repeat' (first | exact FinL.nil | refine FinL.cons ?_ ?_ | refine Fin'.tup ?_ | exact Q.f3 | exact Q.f4 | exact Q.f5 | exact Q.f6 | refine Fin'.vb ?_ | refine Fin'.vi ?_ | refine Fin'.agg ?_)))
          · rw [show lrnR r id q p = rputR r (.new id q p) from (if_pos hc).trans ((if_neg hf2).trans (if_pos he)), show lrnE r id q p = .zero from (if_pos hc).trans ((if_neg hf2).trans (if_neg (fun h => hx h.2))), show lrnB r id q p = false from (if_pos hc).trans ((if_neg hf2).trans (if_neg (fun h => hx h.2))), rputR_no hx]
            generalize Ent.new id q p = e at *
            have j3 := refput_spec r e
            generalize rputX r e = x at *
            generalize rputR r e = s at *
            refine ⟨?_⟩; refine Spec.ofR (h := fun F w0 => ?_)
            repeat' ((conv => whnf); first | refine Q.E ?_ | (refine Stk.both (fun hb => ?_) (fun hb => ?_) <;> (try simp only [lE] at hb))); all_goals (conv => whnf)
            all_goals ((refine FinK.of (h := ?_)); (repeat' (first | exact FinL.nil | refine FinL.cons ?_ ?_ | refine Fin'.tup ?_ | exact Q.f3 | exact Q.f4 | exact Q.f5 | exact Q.f6 | refine Fin'.vb ?_ | refine Fin'.vi ?_ | refine Fin'.agg ?_)))
instance bumped_spec (r : Rpl) (e : Ent) (t : Int) : HasSpec Tryz.prog 150 [.agg r.cs, .agg e.cs, PV.int t] (.tup [.agg (bmpR r e t).cs, .v (.bool (bmpB r e t))]) := by
  have j1 := put_spec r e
  by_cases hx : rputX r e = 0
  · rw [show bmpR r e t = { r with entries := putE r.entries e, clock := bumpI r.clock t } from if_pos hx, show bmpB r e t = true from decide_eq_true hx]
    rw [hx, rputR_yes hx] at j1
    generalize putE r.entries e = L at *
    refine ⟨?_⟩; refine Spec.ofR (h := fun F w0 => ?_)
    repeat' ((conv => whnf); first | refine Q.E ?_ | (refine Stk.both (fun hb => ?_) (fun hb => ?_) <;> (try simp only [lE] at hb))); all_goals (conv => whnf)
    all_goals ((refine FinK.of (h := ?_)); (repeat' (first | exact FinL.nil | refine FinL.cons ?_ ?_ | refine Fin'.tup ?_ | exact Q.f3 | exact Q.f4 | exact Q.f5 | exact Q.f6 | refine Fin'.vb ?_ | refine Fin'.vi ?_ | refine Fin'.agg ?_)))
  · rw [show bmpR r e t = r from if_neg hx, show bmpB r e t = false from decide_eq_false hx]
    generalize rputX r e = x at *
    generalize rputR r e = s at *
    refine ⟨?_⟩; refine Spec.ofR (h := fun F w0 => ?_)
    repeat' ((conv => whnf); first | refine Q.E ?_ | (refine Stk.both (fun hb => ?_) (fun hb => ?_) <;> (try simp only [lE] at hb))); all_goals (conv => whnf)
    all_goals ((refine FinK.of (h := ?_)); (repeat' (first | exact FinL.nil | refine FinL.cons ?_ ?_ | refine Fin'.tup ?_ | exact Q.f3 | exact Q.f4 | exact Q.f5 | exact Q.f6 | refine Fin'.vb ?_ | refine Fin'.vi ?_ | refine Fin'.agg ?_)))
instance refput26_spec (r : Rpl) (e : Ent) (t : Int) : HasSpec Tryz.prog 157 [.agg r.cs, .agg e.cs, PV.int t] (.tup [.agg (bmpR r e t).cs, .v (.bool (bmpB r e t))]) := by
  have j1 := refput_spec r e
  by_cases hx : rputX r e = 0
  · rw [show bmpR r e t = { r with entries := putE r.entries e, clock := bumpI r.clock t } from if_pos hx, show bmpB r e t = true from decide_eq_true hx]
    rw [hx, rputR_yes hx] at j1
    generalize putE r.entries e = L at *
    refine ⟨?_⟩; refine Spec.ofR (h := fun F w0 => ?_)
    repeat' ((conv => whnf); first | refine Q.E ?_ | (refine Stk.both (fun hb => ?_) (fun hb => ?_) <;> (try simp only [lE] at hb))); all_goals (conv => whnf)
    all_goals ((refine FinK.of (h := ?_)); (repeat' (first | exact FinL.nil | refine FinL.cons ?_ ?_ | refine Fin'.tup ?_ | exact Q.f3 | exact Q.f4 | exact Q.f5 | exact Q.f6 | refine Fin'.vb ?_ | refine Fin'.vi ?_ | refine Fin'.agg ?_)))
  · rw [show bmpR r e t = r from if_neg hx, show bmpB r e t = false from decide_eq_false hx]
    generalize rputX r e = x at *
    generalize rputR r e = s at *
    refine ⟨?_⟩; refine Spec.ofR (h := fun F w0 => ?_)
    repeat' ((conv => whnf); first | refine Q.E ?_ | (refine Stk.both (fun hb => ?_) (fun hb => ?_) <;> (try simp only [lE] at hb))); all_goals (conv => whnf)
    all_goals ((refine FinK.of (h := ?_)); (repeat' (first | exact FinL.nil | refine FinL.cons ?_ ?_ | refine Fin'.tup ?_ | exact Q.f3 | exact Q.f4 | exact Q.f5 | exact Q.f6 | refine Fin'.vb ?_ | refine Fin'.vi ?_ | refine Fin'.agg ?_)))
instance ocommit_spec (r : Rpl) (e : Ent) (t : Int) : HasSpec Tryz.prog 74 [.agg r.cs, .agg e.cs, PV.int t] (.tup [.agg (cmtR r e t).cs, .v (.bool (cmtB r e t))]) := by
  have j1 := commit_spec e t
  have j2 := bumped_spec r (commE e t) t
  by_cases hx : commX e t = 0
  · rw [show cmtR r e t = bmpR r (commE e t) t from if_pos hx, show cmtB r e t = bmpB r (commE e t) t from if_pos hx]
    generalize commX e t = x at *
    generalize commE e t = c at *
    generalize bmpR r c t = s at *
    generalize bmpB r c t = b at *
    refine ⟨?_⟩; refine Spec.ofR (h := fun F w0 => ?_)
    repeat' ((conv => whnf); first | refine Q.E ?_ | (refine Stk.both (fun hb => ?_) (fun hb => ?_) <;> (try simp only [lE] at hb))); all_goals (conv => whnf)
    all_goals ((refine FinK.of (h := ?_)); (repeat' (first | exact FinL.nil | refine FinL.cons ?_ ?_ | refine Fin'.tup ?_ | exact Q.f3 | exact Q.f4 | exact Q.f5 | exact Q.f6 | refine Fin'.vb ?_ | refine Fin'.vi ?_ | refine Fin'.agg ?_)))
  · rw [show cmtR r e t = r from if_neg hx, show cmtB r e t = false from if_neg hx]
    generalize commX e t = x at *
    generalize commE e t = c at *
    refine ⟨?_⟩; refine Spec.ofR (h := fun F w0 => ?_)
    repeat' ((conv => whnf); first | refine Q.E ?_ | (refine Stk.both (fun hb => ?_) (fun hb => ?_) <;> (try simp only [lE] at hb))); all_goals (conv => whnf)
    all_goals ((refine FinK.of (h := ?_)); (repeat' (first | exact FinL.nil | refine FinL.cons ?_ ?_ | refine Fin'.tup ?_ | exact Q.f3 | exact Q.f4 | exact Q.f5 | exact Q.f6 | refine Fin'.vb ?_ | refine Fin'.vi ?_ | refine Fin'.agg ?_)))
instance refcommit26_spec (r : Rpl) (e : Ent) (t : Int) : HasSpec Tryz.prog 80 [.agg r.cs, .agg e.cs, PV.int t] (.tup [.agg (cmtR r e t).cs, .v (.bool (cmtB r e t))]) := by
  have j1 := refcommit_spec e t
  have j2 := refput26_spec r (commE e t) t
  by_cases hx : commX e t = 0
  · rw [show cmtR r e t = bmpR r (commE e t) t from if_pos hx, show cmtB r e t = bmpB r (commE e t) t from if_pos hx]
    generalize commX e t = x at *
    generalize commE e t = c at *
    generalize bmpR r c t = s at *
    generalize bmpB r c t = b at *
    refine ⟨?_⟩; refine Spec.ofR (h := fun F w0 => ?_)
    repeat' ((conv => whnf); first | refine Q.E ?_ | (refine Stk.both (fun hb => ?_) (fun hb => ?_) <;> (try simp only [lE] at hb))); all_goals (conv => whnf)
    all_goals ((refine FinK.of (h := ?_)); (repeat' (first | exact FinL.nil | refine FinL.cons ?_ ?_ | refine Fin'.tup ?_ | exact Q.f3 | exact Q.f4 | exact Q.f5 | exact Q.f6 | refine Fin'.vb ?_ | refine Fin'.vi ?_ | refine Fin'.agg ?_)))
  · rw [show cmtR r e t = r from if_neg hx, show cmtB r e t = false from if_neg hx]
    generalize commX e t = x at *
    generalize commE e t = c at *
    refine ⟨?_⟩; refine Spec.ofR (h := fun F w0 => ?_)
    repeat' ((conv => whnf); first | refine Q.E ?_ | (refine Stk.both (fun hb => ?_) (fun hb => ?_) <;> (try simp only [lE] at hb))); all_goals (conv => whnf)
    all_goals ((refine FinK.of (h := ?_)); (repeat' (first | exact FinL.nil | refine FinL.cons ?_ ?_ | refine Fin'.tup ?_ | exact Q.f3 | exact Q.f4 | exact Q.f5 | exact Q.f6 | refine Fin'.vb ?_ | refine Fin'.vi ?_ | refine Fin'.agg ?_)))
end Go.Proofs.YtbjepdfnmbdplaaGreat
end
section
namespace Go.Proofs.YtbjepdfnmbdplaaGreat
open Go.RowKit
set_option linter.unusedSimpArgs false
set_option linter.unusedVariables false
set_option maxRecDepth 100000
set_option maxHeartbeats 2000000
def SubX (p q : PV) : Prop := ∀ (w : World) (μ : LMap) (y : Value), Rep w μ p y → Rep w μ q y
inductive SubXL : List PV → List PV → Prop
  | nil : SubXL [] []
  | cons {c d : PV} {cs ds : List PV} : SubX c d → SubXL cs ds → SubXL (c :: cs) (d :: ds)
inductive SubXR : List (List PV) → List (List PV) → Prop
  | nil : SubXR [] []
  | cons {c d : List PV} {cs ds : List (List PV)} : SubXL c d → SubXR cs ds → SubXR (c :: cs) (d :: ds)
theorem SubX.refl (p : PV) : SubX p p := fun _ _ _ h => h
theorem SubX.of {p q : PV} (h : Sub p q) : SubX p q := fun _ _ _ r => Sub.rep h r
theorem SubXL.rep {w : World} {μ : LMap} : ∀ {cs ds : List PV} (_ : SubXL cs ds) {vs : List Value}, RepL w μ cs vs → RepL w μ ds vs
  | _, _, .nil, _, r => r
  | _, _, .cons h hs, _, r => by
    simp only [RepL] at r ⊢
    obtain ⟨u, us, e, r1, r2⟩ := r
    exact ⟨u, us, e, h w μ u r1, SubXL.rep hs r2⟩
theorem SubXL.repC {w : World} {μ : LMap} {A : Option Addr} : ∀ {cs ds : List PV} (_ : SubXL cs ds) {k : Nat}, RepC w μ A cs k → RepC w μ A ds k
  | _, _, .nil, _, r => r
  | _, _, .cons h hs, _, r => by
    simp only [RepC] at r ⊢
    obtain ⟨⟨a, u, e1, e2, e3, e4, r1⟩, r2⟩ := r
    exact ⟨⟨a, u, e1, e2, e3, e4, h w μ u r1⟩, SubXL.repC hs r2⟩
theorem SubXL.len : ∀ {cs ds : List PV} (_ : SubXL cs ds), cs.length = ds.length
  | _, _, .nil => rfl
  | _, _, .cons _ hs => congrArg (· + 1) (SubXL.len hs)
theorem SubXR.repR {w : World} {μ : LMap} {A : Option Addr} {sz : Nat} : ∀ {cs ds : List (List PV)} (_ : SubXR cs ds) {k : Nat}, RepR w μ A sz cs k → RepR w μ A sz ds k
  | _, _, .nil, _, r => r
  | _, _, .cons h hs, _, r => by
    simp only [RepR] at r ⊢
    obtain ⟨h1, r1, r2⟩ := r
    exact ⟨h.len.symm.trans h1, SubXL.repC h r1, SubXR.repR hs r2⟩
theorem SubXR.len : ∀ {cs ds : List (List PV)} (_ : SubXR cs ds), cs.length = ds.length
  | _, _, .nil => rfl
  | _, _, .cons _ hs => congrArg (· + 1) (SubXR.len hs)
theorem SubX.sl {sz : Nat} {xs ys : List (List PV)} (h : SubXR xs ys) : SubX (.sl sz xs) (.sl sz ys) := fun w μ y r => by
  simp only [Rep] at r ⊢
  obtain ⟨A, c, e, h1, h2, r⟩ := r
  exact ⟨A, c, by rw [← h.len]; exact e, by rw [← h.len]; exact h1, h2, SubXR.repR h r⟩
theorem SubX.agg {cs ds : List PV} (h : SubXL cs ds) : SubX (.agg cs) (.agg ds) := fun w μ y r => by
  simp only [Rep] at r ⊢
  obtain ⟨vs, e, r, h1⟩ := r
  exact ⟨vs, e, SubXL.rep h r, h1⟩
theorem SubX.tup {cs ds : List PV} (h : SubXL cs ds) : SubX (.tup cs) (.tup ds) := fun w μ y r => by
  simp only [Rep] at r ⊢
  obtain ⟨vs, e, r⟩ := r
  exact ⟨vs, e, SubXL.rep h r⟩
theorem SubX.nil (sz : Nat) : SubX (.v (.slice none 0 0)) (.sl sz []) := SubX.of (.nil sz)
theorem HasSpec.mono {P : Program} {g : FuncId} {args : List PV} {r r' : PV} (h : HasSpec P g args r) (hm : SubX r r') (hr : r.noOwn = true := by rfl) (hr' : r'.noOwn = true := by rfl) : HasSpec P g args r' :=
  ⟨⟨h.h.enters, fun F w vs hF hv => (h.h.run F w vs hF hv).mono (by
    rintro e w' ⟨y, rfl, hb, hrr⟩
    refine ⟨y, rfl, hb, ?_⟩
    have := hm w' (LMap.none F) y (hrr.plain hr)
    cases r' <;> first | exact this | cases hr')⟩⟩
def Out.raw (o : Out) : List PV := [PV.int o.dest, PV.int o.m.kind, PV.int o.m.fr, PV.int o.m.id, PV.int o.m.t, PV.int o.m.bal, PV.int o.m.abal, PV.int o.m.phase, PV.int o.m.quorum, .v (.string o.m.payload), PV.int o.m.lo, PV.int o.m.hi, .v (.slice none 0 0), .v (.slice none 0 0), PV.int o.m.done]
theorem raw_out {o : Out} (h1 : o.m.atts = []) (h2 : o.m.marks = []) : SubX (.sl 15 [o.raw]) (PV.outs [o]) := by
  refine SubX.sl (.cons ?_ .nil)
  unfold Out.raw Out.cs Msg.cs
  rw [h1, h2]
  exact .cons (.refl _) (.cons (.refl _) (.cons (.refl _) (.cons (.refl _) (.cons (.refl _) (.cons (.refl _) (.cons (.refl _) (.cons (.refl _) (.cons (.refl _) (.cons (.refl _) (.cons (.refl _) (.cons (.refl _) (.cons (.nil _) (.cons (.nil _) (.cons (.refl _) .nil))))))))))))))
instance identmay_spec (n : Int) : HasSpec Tryz.prog 121 [PV.int n] (.v (.bool (manyB n))) := by
  refine ⟨?_⟩; refine Spec.ofR (h := fun F w0 => ?_)
  repeat' ((conv => whnf); first | refine Q.E ?_ | (refine Stk.both (fun hb => ?_) (fun hb => ?_) <;> (try simp only [lE] at hb))); all_goals (conv => whnf)
  all_goals ((refine FinK.of (h := ?_)); (repeat' (first | exact FinL.nil | refine FinL.cons ?_ ?_ | refine Fin'.tup ?_ | exact Q.f3 | exact Q.f4 | exact Q.f5 | exact Q.f6 | refine Fin'.vb ?_ | refine Fin'.vi ?_ | refine Fin'.agg ?_)))
  all_goals ((first | rfl | (rw [Bool.eq_iff_iff]; simp only [tst_true, tst_false, manyB, decide_eq_true_eq, decide_eq_false_iff_not, Bool.and_eq_true, Bool.or_eq_true, Bool.not_eq_true', Bool.not_eq_false', Bool.false_eq_true, Bool.true_eq_false, true_iff, iff_true, false_iff, iff_false, true_and, and_true, false_and, and_false, not_false_eq_true, not_true_eq_false]; try omega)))
theorem many_iff {n : Int} : manyB n = true ↔ 3 ≤ n ∧ n ≤ 9 := by unfold manyB; exact decide_eq_true_iff
instance owner_spec (b n : Int) : HasSpec Tryz.prog 48 [PV.int b, PV.int n] (PV.int (ownI b n)) := by
  by_cases h : 3 ≤ n ∧ n ≤ 9 ∧ 1 ≤ b ∧ b ≤ 1000000
  · have hm := many_iff.2 ⟨h.1, h.2.1⟩
    have h2 : 0 ≤ (b - 1) % n ∧ (b - 1) % n < n := ⟨Int.emod_nonneg _ (by omega), Int.emod_lt_of_pos _ (by omega)⟩
    rw [show ownI b n = (b - 1) % n + 1 from if_pos h]
    refine ⟨?_⟩; refine Spec.ofR (h := fun F w0 => ?_)
    repeat' ((conv => whnf); first | refine Q.a ?_ | refine Q.b ?_ | refine Q.c ?_ | refine Stk.is (by first | assumption | ((try simp only [lE]); first | done | assumption | omega)) ?_ | refine Stk.isnt (by first | assumption | ((try simp only [lE]); first | done | assumption | omega)) ?_ | (refine Stk.both (fun hb => ?_) (fun hb => ?_) <;> (try simp only [lE] at hb)) | refine Q.d ?_ | refine Q.e ?_ | refine Q.f ?_ | refine Q.g ?_ | refine Q.h ?_ | refine Q.i ?_ | refine Q.j ?_ | refine Q.k ?_ | refine Q.l ?_ | refine Q.m ?_ | refine Q.n ?_ | refine Q.o (h := ?_) | refine Q.p (h := ?_) | refine Q.q ?_ | refine Q.r ?_ | refine Q.s ?_ | refine Q.t ?_ | refine Q.u ?_ | refine Q.v ?_ | refine Q.w ?_ | refine Q.x ?_ | refine Q.y ?_ | refine Q.z ?_ | refine Stk.inl (h := fun tm => ?_) | refine Stk.inl0 (h := fun tm => ?_) | refine DefG.go (h := fun vs us => ?_) | intro (tm : Array Value) | refine Stk.op (ok_buildA rfl rfl rfl rfl) ?_ | refine Stk.scope ?_); all_goals (conv => whnf)
    ((refine FinK.of (h := ?_)); (repeat' (first | exact FinL.nil | refine FinL.cons ?_ ?_ | refine Fin'.tup ?_ | exact Q.f3 | exact Q.f4 | exact Q.f5 | exact Q.f6 | refine Fin'.vb ?_ | refine Fin'.vi ?_ | refine Fin'.agg ?_)))
  · rw [show ownI b n = 0 from if_neg h]
    cases hm : manyB n with
    | true =>
      have := many_iff.1 hm
      refine ⟨?_⟩; refine Spec.ofR (h := fun F w0 => ?_)
      repeat' ((conv => whnf); first | refine Q.a ?_ | refine Q.b ?_ | refine Q.c ?_ | refine Stk.is (by first | assumption | ((try simp only [lE]); first | done | assumption | omega)) ?_ | refine Stk.isnt (by first | assumption | ((try simp only [lE]); first | done | assumption | omega)) ?_ | (refine Stk.both (fun hb => ?_) (fun hb => ?_) <;> (try simp only [lE] at hb)) | refine Q.d ?_ | refine Q.e ?_ | refine Q.f ?_ | refine Q.g ?_ | refine Q.h ?_ | refine Q.i ?_ | refine Q.j ?_ | refine Q.k ?_ | refine Q.l ?_ | refine Q.m ?_ | refine Q.n ?_ | refine Q.o (h := ?_) | refine Q.p (h := ?_) | refine Q.q ?_ | refine Q.r ?_ | refine Q.s ?_ | refine Q.t ?_ | refine Q.u ?_ | refine Q.v ?_ | refine Q.w ?_ | refine Q.x ?_ | refine Q.y ?_ | refine Q.z ?_ | refine Stk.inl (h := fun tm => ?_) | refine Stk.inl0 (h := fun tm => ?_) | refine DefG.go (h := fun vs us => ?_) | intro (tm : Array Value) | refine Stk.op (ok_buildA rfl rfl rfl rfl) ?_ | refine Stk.scope ?_); all_goals (conv => whnf)
      all_goals first | (exfalso; omega) | ((refine FinK.of (h := ?_)); (repeat' (first | exact FinL.nil | refine FinL.cons ?_ ?_ | refine Fin'.tup ?_ | exact Q.f3 | exact Q.f4 | exact Q.f5 | exact Q.f6 | refine Fin'.vb ?_ | refine Fin'.vi ?_ | refine Fin'.agg ?_)))
    | false =>
      refine ⟨?_⟩; refine Spec.ofR (h := fun F w0 => ?_)
      repeat' ((conv => whnf); first | refine Q.a ?_ | refine Q.b ?_ | refine Q.c ?_ | refine Stk.is (by first | assumption | ((try simp only [lE]); first | done | assumption | omega)) ?_ | refine Stk.isnt (by first | assumption | ((try simp only [lE]); first | done | assumption | omega)) ?_ | (refine Stk.both (fun hb => ?_) (fun hb => ?_) <;> (try simp only [lE] at hb)) | refine Q.d ?_ | refine Q.e ?_ | refine Q.f ?_ | refine Q.g ?_ | refine Q.h ?_ | refine Q.i ?_ | refine Q.j ?_ | refine Q.k ?_ | refine Q.l ?_ | refine Q.m ?_ | refine Q.n ?_ | refine Q.o (h := ?_) | refine Q.p (h := ?_) | refine Q.q ?_ | refine Q.r ?_ | refine Q.s ?_ | refine Q.t ?_ | refine Q.u ?_ | refine Q.v ?_ | refine Q.w ?_ | refine Q.x ?_ | refine Q.y ?_ | refine Q.z ?_ | refine Stk.inl (h := fun tm => ?_) | refine Stk.inl0 (h := fun tm => ?_) | refine DefG.go (h := fun vs us => ?_) | intro (tm : Array Value) | refine Stk.op (ok_buildA rfl rfl rfl rfl) ?_ | refine Stk.scope ?_); all_goals (conv => whnf)
      all_goals ((refine FinK.of (h := ?_)); (repeat' (first | exact FinL.nil | refine FinL.cons ?_ ?_ | refine Fin'.tup ?_ | exact Q.f3 | exact Q.f4 | exact Q.f5 | exact Q.f6 | refine Fin'.vb ?_ | refine Fin'.vi ?_ | refine Fin'.agg ?_)))
instance refowner_spec (b n : Int) : HasSpec Tryz.prog 57 [PV.int b, PV.int n] (PV.int (ownI b n)) := by
  by_cases h : 3 ≤ n ∧ n ≤ 9 ∧ 1 ≤ b ∧ b ≤ 1000000
  · have h2 : 0 ≤ (b - 1) % n ∧ (b - 1) % n < n := ⟨Int.emod_nonneg _ (by omega), Int.emod_lt_of_pos _ (by omega)⟩
    rw [show ownI b n = (b - 1) % n + 1 from if_pos h]
    refine ⟨?_⟩; refine Spec.ofR (h := fun F w0 => ?_)
    repeat' ((conv => whnf); first | refine Q.a ?_ | refine Q.b ?_ | refine Q.c ?_ | refine Stk.is (by first | assumption | ((try simp only [lE]); first | done | assumption | omega)) ?_ | refine Stk.isnt (by first | assumption | ((try simp only [lE]); first | done | assumption | omega)) ?_ | (refine Stk.both (fun hb => ?_) (fun hb => ?_) <;> (try simp only [lE] at hb)) | refine Q.d ?_ | refine Q.e ?_ | refine Q.f ?_ | refine Q.g ?_ | refine Q.h ?_ | refine Q.i ?_ | refine Q.j ?_ | refine Q.k ?_ | refine Q.l ?_ | refine Q.m ?_ | refine Q.n ?_ | refine Q.o (h := ?_) | refine Q.p (h := ?_) | refine Q.q ?_ | refine Q.r ?_ | refine Q.s ?_ | refine Q.t ?_ | refine Q.u ?_ | refine Q.v ?_ | refine Q.w ?_ | refine Q.x ?_ | refine Q.y ?_ | refine Q.z ?_ | refine Stk.inl (h := fun tm => ?_) | refine Stk.inl0 (h := fun tm => ?_) | refine DefG.go (h := fun vs us => ?_) | intro (tm : Array Value) | refine Stk.op (ok_buildA rfl rfl rfl rfl) ?_ | refine Stk.scope ?_); all_goals (conv => whnf)
    ((refine FinK.of (h := ?_)); (repeat' (first | exact FinL.nil | refine FinL.cons ?_ ?_ | refine Fin'.tup ?_ | exact Q.f3 | exact Q.f4 | exact Q.f5 | exact Q.f6 | refine Fin'.vb ?_ | refine Fin'.vi ?_ | refine Fin'.agg ?_)))
    omega
  · rw [show ownI b n = 0 from if_neg h]
    refine ⟨?_⟩; refine Spec.ofR (h := fun F w0 => ?_)
    repeat' ((conv => whnf); first | refine Q.a ?_ | refine Q.b ?_ | refine Q.c ?_ | refine Stk.is (by first | assumption | ((try simp only [lE]); first | done | assumption | omega)) ?_ | refine Stk.isnt (by first | assumption | ((try simp only [lE]); first | done | assumption | omega)) ?_ | (refine Stk.both (fun hb => ?_) (fun hb => ?_) <;> (try simp only [lE] at hb)) | refine Q.d ?_ | refine Q.e ?_ | refine Q.f ?_ | refine Q.g ?_ | refine Q.h ?_ | refine Q.i ?_ | refine Q.j ?_ | refine Q.k ?_ | refine Q.l ?_ | refine Q.m ?_ | refine Q.n ?_ | refine Q.o (h := ?_) | refine Q.p (h := ?_) | refine Q.q ?_ | refine Q.r ?_ | refine Q.s ?_ | refine Q.t ?_ | refine Q.u ?_ | refine Q.v ?_ | refine Q.w ?_ | refine Q.x ?_ | refine Q.y ?_ | refine Q.z ?_ | refine Stk.inl (h := fun tm => ?_) | refine Stk.inl0 (h := fun tm => ?_) | refine DefG.go (h := fun vs us => ?_) | intro (tm : Array Value) | refine Stk.op (ok_buildA rfl rfl rfl rfl) ?_ | refine Stk.scope ?_); all_goals (conv => whnf)
    all_goals first | (exfalso; omega) | ((refine FinK.of (h := ?_)); (repeat' (first | exact FinL.nil | refine FinL.cons ?_ ?_ | refine Fin'.tup ?_ | exact Q.f3 | exact Q.f4 | exact Q.f5 | exact Q.f6 | refine Fin'.vb ?_ | refine Fin'.vi ?_ | refine Fin'.agg ?_)))
instance told27_spec (r : Rpl) (e : Ent) : HasSpec Tryz.prog 76 [.agg r.cs, .agg e.cs] (.agg (tolM r e).cs) := by
  refine ⟨?_⟩; refine Spec.ofR (h := fun F w0 => ?_)
  repeat' ((conv => whnf); first | refine Q.E ?_ | (refine Stk.both (fun hb => ?_) (fun hb => ?_) <;> (try simp only [lE] at hb))); all_goals (conv => whnf)
  ((refine FinK.of (h := ?_)); (repeat' (first | exact FinL.nil | refine FinL.cons ?_ ?_ | refine Fin'.tup ?_ | exact Q.f3 | exact Q.f4 | exact Q.f5 | exact Q.f6 | refine Fin'.vb ?_ | refine Fin'.vi ?_ | refine Fin'.agg ?_)))
theorem helpO_no1 {r : Rpl} {e : Ent} {d : Int} (h : settB e.phase = false) : helpO r e d = [] := if_neg (by rw [h]; simp)
theorem helpO_no2 {r : Rpl} {e : Ent} {d : Int} (h : repB r = false) : helpO r e d = [] := if_neg (by rw [h]; simp)
theorem helpO_no3 {r : Rpl} {e : Ent} {d : Int} (h : ¬ (1 ≤ d ∧ d ≤ r.n ∧ d ≠ r.self)) : helpO r e d = [] := if_neg (fun h2 => h h2.2.2)
theorem helpO_yes {r : Rpl} {e : Ent} {d : Int} (h1 : settB e.phase = true) (h2 : repB r = true) (h : 1 ≤ d ∧ d ≤ r.n ∧ d ≠ r.self) : helpO r e d = [⟨d, tolM r e⟩] := if_pos ⟨h1, h2, h⟩
instance help_spec (r : Rpl) (e : Ent) (d : Int) : HasSpec Tryz.prog 24 [.agg r.cs, .agg e.cs, PV.int d] (PV.outs (helpO r e d)) := by
  have hp := settB_iff (p := e.phase)
  have jp := phasesett_spec e.phase
  cases h1 : settB e.phase with
  | false =>
    rw [h1] at jp
    rw [helpO_no1 h1]
    refine ⟨?_⟩; refine Spec.ofR (h := fun F w0 => ?_)
    repeat' ((conv => whnf); first | refine Q.E ?_ | (refine Stk.both (fun hb => ?_) (fun hb => ?_) <;> (try simp only [lE] at hb))); all_goals (conv => whnf)
    ((refine FinK.of (h := ?_)); (repeat' (first | exact FinL.nil | refine FinL.cons ?_ ?_ | refine Fin'.tup ?_ | exact Q.f3 | exact Q.f4 | exact Q.f5 | exact Q.f6 | refine Fin'.vb ?_ | refine Fin'.vi ?_ | refine Fin'.agg ?_)))
  | true =>
    rw [h1] at jp
    cases h2 : repB r with
    | false =>
      have j1 := stbad' h2
      rw [helpO_no2 h2]
      refine ⟨?_⟩; refine Spec.ofR (h := fun F w0 => ?_)
      repeat' ((conv => whnf); first | refine Q.E ?_ | (refine Stk.both (fun hb => ?_) (fun hb => ?_) <;> (try simp only [lE] at hb))); all_goals (conv => whnf)
      ((refine FinK.of (h := ?_)); (repeat' (first | exact FinL.nil | refine FinL.cons ?_ ?_ | refine Fin'.tup ?_ | exact Q.f3 | exact Q.f4 | exact Q.f5 | exact Q.f6 | refine Fin'.vb ?_ | refine Fin'.vi ?_ | refine Fin'.agg ?_)))
    | true =>
      have j1 := stok' h2
      by_cases h : 1 ≤ d ∧ d ≤ r.n ∧ d ≠ r.self
      · rw [helpO_yes h1 h2 h]
        refine ⟨?_⟩; refine Spec.ofR (h := fun F w0 => ?_)
        repeat' ((conv => whnf); first | refine Q.E ?_ | (refine Stk.both (fun hb => ?_) (fun hb => ?_) <;> (try simp only [lE] at hb))); all_goals (conv => whnf)
        ((refine FinK.of (h := ?_)); (repeat' (first | exact FinL.nil | refine FinL.cons ?_ ?_ | refine Fin'.tup ?_ | exact Q.f3 | exact Q.f4 | exact Q.f5 | exact Q.f6 | refine Fin'.vb ?_ | refine Fin'.vi ?_ | refine Fin'.agg ?_)))
      · rw [helpO_no3 h]
        refine ⟨?_⟩; refine Spec.ofR (h := fun F w0 => ?_)
        repeat' ((conv => whnf); first | refine Q.E ?_ | (refine Stk.both (fun hb => ?_) (fun hb => ?_) <;> (try simp only [lE] at hb))); all_goals (conv => whnf)
        all_goals first | (exfalso; omega) | ((refine FinK.of (h := ?_)); (repeat' (first | exact FinL.nil | refine FinL.cons ?_ ?_ | refine Fin'.tup ?_ | exact Q.f3 | exact Q.f4 | exact Q.f5 | exact Q.f6 | refine Fin'.vb ?_ | refine Fin'.vi ?_ | refine Fin'.agg ?_)))
instance refhelp_spec (r : Rpl) (e : Ent) (d : Int) : HasSpec Tryz.prog 25 [.agg r.cs, .agg e.cs, PV.int d] (PV.outs (helpO r e d)) := by
  have hp := settB_iff (p := e.phase)
  cases h1 : settB e.phase with
  | false =>
    have h5 : e.phase ≠ 5 ∧ e.phase ≠ 6 := by
      rw [h1] at hp
      simp at hp
      omega
    rw [helpO_no1 h1]
    refine ⟨?_⟩; refine Spec.ofR (h := fun F w0 => ?_)
    repeat' ((conv => whnf); first | refine Q.E ?_ | (refine Stk.both (fun hb => ?_) (fun hb => ?_) <;> (try simp only [lE] at hb))); all_goals (conv => whnf)
    ((refine FinK.of (h := ?_)); (repeat' (first | exact FinL.nil | refine FinL.cons ?_ ?_ | refine Fin'.tup ?_ | exact Q.f3 | exact Q.f4 | exact Q.f5 | exact Q.f6 | refine Fin'.vb ?_ | refine Fin'.vi ?_ | refine Fin'.agg ?_)))
  | true =>
    have h5 := hp.1 h1
    cases h2 : repB r with
    | false =>
      have j1 := rstbad' h2
      rw [helpO_no2 h2]
      refine ⟨?_⟩; refine Spec.ofR (h := fun F w0 => ?_)
      repeat' ((conv => whnf); first | refine Q.E ?_ | (refine Stk.both (fun hb => ?_) (fun hb => ?_) <;> (try simp only [lE] at hb))); all_goals (conv => whnf)
      all_goals first | (exfalso; omega) | ((refine FinK.of (h := ?_)); (repeat' (first | exact FinL.nil | refine FinL.cons ?_ ?_ | refine Fin'.tup ?_ | exact Q.f3 | exact Q.f4 | exact Q.f5 | exact Q.f6 | refine Fin'.vb ?_ | refine Fin'.vi ?_ | refine Fin'.agg ?_)))
    | true =>
      have j1 := rstok' h2
      by_cases h : 1 ≤ d ∧ d ≤ r.n ∧ d ≠ r.self
      · rw [helpO_yes h1 h2 h]
        refine HasSpec.mono ?_ (raw_out (o := ⟨d, tolM r e⟩) rfl rfl)
        refine ⟨?_⟩; refine Spec.ofR (h := fun F w0 => ?_)
        repeat' ((conv => whnf); first | refine Q.E ?_ | (refine Stk.both (fun hb => ?_) (fun hb => ?_) <;> (try simp only [lE] at hb))); all_goals (conv => whnf)
        all_goals first | (exfalso; omega) | ((refine FinK.of (h := ?_)); (repeat' (first | exact FinL.nil | refine FinL.cons ?_ ?_ | refine Fin'.tup ?_ | exact Q.f3 | exact Q.f4 | exact Q.f5 | exact Q.f6 | refine Fin'.vb ?_ | refine Fin'.vi ?_ | refine Fin'.agg ?_)))
      · rw [helpO_no3 h]
        refine ⟨?_⟩; refine Spec.ofR (h := fun F w0 => ?_)
        repeat' ((conv => whnf); first | refine Q.E ?_ | (refine Stk.both (fun hb => ?_) (fun hb => ?_) <;> (try simp only [lE] at hb))); all_goals (conv => whnf)
        all_goals first | (exfalso; omega) | ((refine FinK.of (h := ?_)); (repeat' (first | exact FinL.nil | refine FinL.cons ?_ ?_ | refine Fin'.tup ?_ | exact Q.f3 | exact Q.f4 | exact Q.f5 | exact Q.f6 | refine Fin'.vb ?_ | refine Fin'.vi ?_ | refine Fin'.agg ?_)))
instance ans27_spec (r : Rpl) (m : Msg) (k b : Int) : HasSpec Tryz.prog 59 [.agg r.cs, .agg m.cs, PV.int k, PV.int b] (PV.outs (ansO r m k b)) := by
  refine HasSpec.mono ?_ (raw_out (o := ⟨m.fr, ansM r m k b⟩) rfl rfl)
  refine ⟨?_⟩; refine Spec.ofR (h := fun F w0 => ?_)
  repeat' ((conv => whnf); first | refine Q.E ?_ | (refine Stk.both (fun hb => ?_) (fun hb => ?_) <;> (try simp only [lE] at hb))); all_goals (conv => whnf)
  ((refine FinK.of (h := ?_)); (repeat' (first | exact FinL.nil | refine FinL.cons ?_ ?_ | refine Fin'.tup ?_ | exact Q.f3 | exact Q.f4 | exact Q.f5 | exact Q.f6 | refine Fin'.vb ?_ | refine Fin'.vi ?_ | refine Fin'.agg ?_)))
theorem with_spec (r : Rpl) (m : Msg) (k b : Int) : HasSpec Tryz.prog 49 [.agg (r.cs ++ m.cs), PV.int k, PV.int b] (PV.outs (ansO r m k b)) := by
  refine HasSpec.mono ?_ (raw_out (o := ⟨m.fr, ansM r m k b⟩) rfl rfl)
  refine ⟨?_⟩; refine Spec.ofR (h := fun F w0 => ?_)
  repeat' ((conv => whnf); first | refine Q.E ?_ | (refine Stk.both (fun hb => ?_) (fun hb => ?_) <;> (try simp only [lE] at hb))); all_goals (conv => whnf)
  ((refine FinK.of (h := ?_)); (repeat' (first | exact FinL.nil | refine FinL.cons ?_ ?_ | refine Fin'.tup ?_ | exact Q.f3 | exact Q.f4 | exact Q.f5 | exact Q.f6 | refine Fin'.vb ?_ | refine Fin'.vi ?_ | refine Fin'.agg ?_)))
end Go.Proofs.YtbjepdfnmbdplaaGreat
end
