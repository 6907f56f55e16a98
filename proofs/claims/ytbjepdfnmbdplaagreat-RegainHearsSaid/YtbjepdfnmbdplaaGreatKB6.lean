/- Texts joined by wip/gen/kpack.py: U14 U15 U16 U17 U18 U19 U20 U22 U21 U23 U40 D23 U41 U42 TbF U24 U25 U26. -/
import Derived.Test.YtbjepdfnmbdplaaGreatKB5
section
namespace Go.Proofs.YtbjepdfnmbdplaaGreat
open Go.RowKit
set_option linter.unusedSimpArgs false
set_option linter.unusedVariables false
set_option maxRecDepth 100000
set_option maxHeartbeats 1000000
instance mtime_spec (t : Int) : HasSpec Tryz.prog 234 [PV.int t] (.v (.bool (timeB t))) := by
  refine ⟨?_⟩; refine Spec.ofR (h := fun F w0 => ?_)
  repeat' ((conv => whnf); first | refine Q.E ?_ | (refine Stk.both (fun hb => ?_) (fun hb => ?_) <;> (try simp only [lE] at hb))); all_goals (conv => whnf)
  all_goals (refine Q.r6 (h := ?_); repeat' (first | exact Q.r0 | refine Q.r1 ?_ ?_ | refine Q.r2 ?_ | exact Q.r7 | refine Q.r3 ?_ | refine Q.r4 ?_ | refine Q.r5 ?_))
  all_goals unfold timeB
  all_goals ((first | rfl | (rw [Bool.eq_iff_iff]; simp only [tst_true, tst_false, lE, decide_eq_true_eq, decide_eq_false_iff_not, Bool.and_eq_true, Bool.or_eq_true, Bool.not_eq_true', Bool.not_eq_false', Bool.false_eq_true, Bool.true_eq_false, true_iff, iff_true, false_iff, iff_false, true_and, and_true, false_and, and_false, not_false_eq_true, not_true_eq_false]; try omega)))
instance mballot_spec (t : Int) : HasSpec Tryz.prog 236 [PV.int t] (.v (.bool (timeB t))) := by
  refine ⟨?_⟩; refine Spec.ofR (h := fun F w0 => ?_)
  repeat' ((conv => whnf); first | refine Q.E ?_ | (refine Stk.both (fun hb => ?_) (fun hb => ?_) <;> (try simp only [lE] at hb))); all_goals (conv => whnf)
  all_goals (refine Q.r6 (h := ?_); repeat' (first | exact Q.r0 | refine Q.r1 ?_ ?_ | refine Q.r2 ?_ | exact Q.r7 | refine Q.r3 ?_ | refine Q.r4 ?_ | refine Q.r5 ?_))
  all_goals unfold timeB
  all_goals ((first | rfl | (rw [Bool.eq_iff_iff]; simp only [tst_true, tst_false, lE, decide_eq_true_eq, decide_eq_false_iff_not, Bool.and_eq_true, Bool.or_eq_true, Bool.not_eq_true', Bool.not_eq_false', Bool.false_eq_true, Bool.true_eq_false, true_iff, iff_true, false_iff, iff_false, true_and, and_true, false_and, and_false, not_false_eq_true, not_true_eq_false]; try omega)))
instance mmark_spec (t : Int) : HasSpec Tryz.prog 261 [PV.int t] (.v (.bool (!noneB t))) := by
  refine ⟨?_⟩; refine Spec.ofR (h := fun F w0 => ?_)
  repeat' ((conv => whnf); first | refine Q.E ?_ | (refine Stk.both (fun hb => ?_) (fun hb => ?_) <;> (try simp only [lE] at hb))); all_goals (conv => whnf)
  all_goals (refine Q.r6 (h := ?_); repeat' (first | exact Q.r0 | refine Q.r1 ?_ ?_ | refine Q.r2 ?_ | exact Q.r7 | refine Q.r3 ?_ | refine Q.r4 ?_ | refine Q.r5 ?_))
  all_goals unfold noneB
  all_goals ((first | rfl | (rw [Bool.eq_iff_iff]; simp only [tst_true, tst_false, lE, decide_eq_true_eq, decide_eq_false_iff_not, Bool.and_eq_true, Bool.or_eq_true, Bool.not_eq_true', Bool.not_eq_false', Bool.false_eq_true, Bool.true_eq_false, true_iff, iff_true, false_iff, iff_false, true_and, and_true, false_and, and_false, not_false_eq_true, not_true_eq_false]; try omega)))
instance mprom1_spec (t : Int) : HasSpec Tryz.prog 262 [PV.int t] (.v (.bool (noneB t))) := by
  refine ⟨?_⟩; refine Spec.ofR (h := fun F w0 => ?_)
  repeat' ((conv => whnf); first | refine Q.E ?_ | (refine Stk.both (fun hb => ?_) (fun hb => ?_) <;> (try simp only [lE] at hb))); all_goals (conv => whnf)
  (refine Q.r6 (h := ?_); repeat' (first | exact Q.r0 | refine Q.r1 ?_ ?_ | refine Q.r2 ?_ | exact Q.r7 | refine Q.r3 ?_ | refine Q.r4 ?_ | refine Q.r5 ?_))
  simp
instance carried_spec (m : Msg) : HasSpec Tryz.prog 235 [.agg m.cs] (.v (.bool (carB m))) := by
  have hc := cnt_zero m.quorum
  by_cases hq : 1 ≤ m.quorum ∧ m.quorum ≤ 511
  · have hpos : ((listS m.quorum 9).length : Int) ≠ 0 := by
      intro h
      rw [hc] at h
      exact h hq
    by_cases hp : m.payload.size ≤ 300
    · rw [show carB m = true from decide_eq_true ⟨hq.1, hq.2, hp⟩]
      refine ⟨?_⟩; refine Spec.ofR (h := fun F w0 => ?_)
      repeat' ((conv => whnf); first | refine Q.E ?_ | (refine Stk.both (fun hb => ?_) (fun hb => ?_) <;> (try simp only [lE] at hb))); all_goals (conv => whnf)
      (refine Q.r6 (h := ?_); repeat' (first | exact Q.r0 | refine Q.r1 ?_ ?_ | refine Q.r2 ?_ | exact Q.r7 | refine Q.r3 ?_ | refine Q.r4 ?_ | refine Q.r5 ?_))
      all_goals (first | rfl | exact tst_true.2 (by omega) | exact tst_false.2 (by omega) | (simp [tst_eq]; done) | (simp only [Bool.not_true, Bool.not_false, Bool.and_true, Bool.true_and, Bool.and_false, Bool.false_and]; first | done | exact tst_true.2 (by omega) | exact tst_false.2 (by omega) | (rw [tst_true.2 (by omega)]; done) | (rw [tst_false.2 (by omega)]; done)))
    · rw [show carB m = false from decide_eq_false (by omega)]
      refine ⟨?_⟩; refine Spec.ofR (h := fun F w0 => ?_)
      repeat' ((conv => whnf); first | refine Q.E ?_ | (refine Stk.both (fun hb => ?_) (fun hb => ?_) <;> (try simp only [lE] at hb))); all_goals (conv => whnf)
      (refine Q.r6 (h := ?_); repeat' (first | exact Q.r0 | refine Q.r1 ?_ ?_ | refine Q.r2 ?_ | exact Q.r7 | refine Q.r3 ?_ | refine Q.r4 ?_ | refine Q.r5 ?_))
      all_goals (first | rfl | exact tst_true.2 (by omega) | exact tst_false.2 (by omega) | (simp [tst_eq]; done) | (simp only [Bool.not_true, Bool.not_false, Bool.and_true, Bool.true_and, Bool.and_false, Bool.false_and]; first | done | exact tst_true.2 (by omega) | exact tst_false.2 (by omega) | (rw [tst_true.2 (by omega)]; done) | (rw [tst_false.2 (by omega)]; done)))
  · have hz : ((listS m.quorum 9).length : Int) = 0 := by rw [hc]; exact hq
    rw [show carB m = false from decide_eq_false (by omega)]
    refine ⟨?_⟩; refine Spec.ofR (h := fun F w0 => ?_)
    repeat' ((conv => whnf); first | refine Q.E ?_ | (refine Stk.both (fun hb => ?_) (fun hb => ?_) <;> (try simp only [lE] at hb))); all_goals (conv => whnf)
    all_goals first | (exfalso; omega) | (refine Q.r6 (h := ?_); repeat' (first | exact Q.r0 | refine Q.r1 ?_ ?_ | refine Q.r2 ?_ | exact Q.r7 | refine Q.r3 ?_ | refine Q.r4 ?_ | refine Q.r5 ?_))
    all_goals (first | rfl | exact tst_true.2 (by omega) | exact tst_false.2 (by omega) | (simp [tst_eq]; done) | (simp only [Bool.not_true, Bool.not_false, Bool.and_true, Bool.true_and, Bool.and_false, Bool.false_and]; first | done | exact tst_true.2 (by omega) | exact tst_false.2 (by omega) | (rw [tst_true.2 (by omega)]; done) | (rw [tst_false.2 (by omega)]; done)))
theorem tellB_0 {m : Msg} (h : m.abal = 0) : tellB m = decide (0 < m.bal ∧ 1 ≤ m.t ∧ m.t ≤ 1000000 ∧ (m.phase = 3 ∨ m.phase = 4)) := by
  unfold tellB
  rw [if_pos h, h, ← Bool.decide_and, decide_eq_decide]
  omega
theorem tellB_1 {m : Msg} (h : ¬ m.abal = 0) : tellB m = decide (0 ≤ m.abal ∧ m.abal < m.bal ∧ 1 ≤ m.t ∧ m.t ≤ 1000000 ∧ 1 ≤ m.phase ∧ m.phase ≤ 4) := by
  unfold tellB
  rw [if_neg h, ← Bool.decide_and, decide_eq_decide]
  omega
instance mtold_spec (m : Msg) : HasSpec Tryz.prog 237 [.agg m.cs] (.v (.bool (tellB m))) := by
  have ht := timeB_iff (t := m.t)
  by_cases h : m.abal = 0
  · rw [tellB_0 h]
    cases h2 : timeB m.t with
    | true =>
      have h3 := ht.1 h2
      by_cases h4 : 0 < m.bal ∧ (m.phase = 3 ∨ m.phase = 4)
      · rw [decide_eq_true ⟨h4.1, h3.1, h3.2, h4.2⟩]
        by_cases h5 : m.phase = 3
        · refine ⟨?_⟩; refine Spec.ofR (h := fun F w0 => ?_)
          repeat' ((conv => whnf); first | refine Q.E ?_ | (refine Stk.both (fun hb => ?_) (fun hb => ?_) <;> (try simp only [lE] at hb))); all_goals (conv => whnf)
          (refine Q.r6 (h := ?_); repeat' (first | exact Q.r0 | refine Q.r1 ?_ ?_ | refine Q.r2 ?_ | exact Q.r7 | refine Q.r3 ?_ | refine Q.r4 ?_ | refine Q.r5 ?_))
          all_goals (first | rfl | exact tst_true.2 (by omega) | exact tst_false.2 (by omega) | (simp [tst_eq]; done) | (simp only [Bool.not_true, Bool.not_false, Bool.and_true, Bool.true_and, Bool.and_false, Bool.false_and]; first | done | exact tst_true.2 (by omega) | exact tst_false.2 (by omega) | (rw [tst_true.2 (by omega)]; done) | (rw [tst_false.2 (by omega)]; done)))
        · have h6 : m.phase = 4 := by omega
          refine ⟨?_⟩; refine Spec.ofR (h := fun F w0 => ?_)
          repeat' ((conv => whnf); first | refine Q.E ?_ | (refine Stk.both (fun hb => ?_) (fun hb => ?_) <;> (try simp only [lE] at hb))); all_goals (conv => whnf)
          (refine Q.r6 (h := ?_); repeat' (first | exact Q.r0 | refine Q.r1 ?_ ?_ | refine Q.r2 ?_ | exact Q.r7 | refine Q.r3 ?_ | refine Q.r4 ?_ | refine Q.r5 ?_))
          all_goals (first | rfl | exact tst_true.2 (by omega) | exact tst_false.2 (by omega) | (simp [tst_eq]; done) | (simp only [Bool.not_true, Bool.not_false, Bool.and_true, Bool.true_and, Bool.and_false, Bool.false_and]; first | done | exact tst_true.2 (by omega) | exact tst_false.2 (by omega) | (rw [tst_true.2 (by omega)]; done) | (rw [tst_false.2 (by omega)]; done)))
      · rw [decide_eq_false (fun h => h4 ⟨h.1, h.2.2.2⟩)]
        refine ⟨?_⟩; refine Spec.ofR (h := fun F w0 => ?_)
        repeat' ((conv => whnf); first | refine Q.E ?_ | (refine Stk.both (fun hb => ?_) (fun hb => ?_) <;> (try simp only [lE] at hb))); all_goals (conv => whnf)
        all_goals first | (exfalso; omega) | (refine Q.r6 (h := ?_); repeat' (first | exact Q.r0 | refine Q.r1 ?_ ?_ | refine Q.r2 ?_ | exact Q.r7 | refine Q.r3 ?_ | refine Q.r4 ?_ | refine Q.r5 ?_))
        all_goals (first | rfl | exact tst_true.2 (by omega) | exact tst_false.2 (by omega) | (simp [tst_eq]; done) | (simp only [Bool.not_true, Bool.not_false, Bool.and_true, Bool.true_and, Bool.and_false, Bool.false_and]; first | done | exact tst_true.2 (by omega) | exact tst_false.2 (by omega) | (rw [tst_true.2 (by omega)]; done) | (rw [tst_false.2 (by omega)]; done)))
    | false =>
      rw [decide_eq_false (fun h => by rw [ht.2 ⟨h.2.1, h.2.2.1⟩] at h2; cases h2)]
      refine ⟨?_⟩; refine Spec.ofR (h := fun F w0 => ?_)
      repeat' ((conv => whnf); first | refine Q.E ?_ | (refine Stk.both (fun hb => ?_) (fun hb => ?_) <;> (try simp only [lE] at hb))); all_goals (conv => whnf)
      all_goals (refine Q.r6 (h := ?_); repeat' (first | exact Q.r0 | refine Q.r1 ?_ ?_ | refine Q.r2 ?_ | exact Q.r7 | refine Q.r3 ?_ | refine Q.r4 ?_ | refine Q.r5 ?_))
  · rw [tellB_1 h]
    cases h2 : timeB m.t with
    | true =>
      have h3 := ht.1 h2
      by_cases h4 : 0 ≤ m.abal ∧ m.abal < m.bal ∧ 1 ≤ m.phase ∧ m.phase ≤ 4
      · rw [decide_eq_true ⟨h4.1, h4.2.1, h3.1, h3.2, h4.2.2⟩]
        refine ⟨?_⟩; refine Spec.ofR (h := fun F w0 => ?_)
        repeat' ((conv => whnf); first | refine Q.E ?_ | (refine Stk.both (fun hb => ?_) (fun hb => ?_) <;> (try simp only [lE] at hb))); all_goals (conv => whnf)
        (refine Q.r6 (h := ?_); repeat' (first | exact Q.r0 | refine Q.r1 ?_ ?_ | refine Q.r2 ?_ | exact Q.r7 | refine Q.r3 ?_ | refine Q.r4 ?_ | refine Q.r5 ?_))
        all_goals (first | rfl | exact tst_true.2 (by omega) | exact tst_false.2 (by omega) | (simp [tst_eq]; done) | (simp only [Bool.not_true, Bool.not_false, Bool.and_true, Bool.true_and, Bool.and_false, Bool.false_and]; first | done | exact tst_true.2 (by omega) | exact tst_false.2 (by omega) | (rw [tst_true.2 (by omega)]; done) | (rw [tst_false.2 (by omega)]; done)))
      · rw [decide_eq_false (fun h => h4 ⟨h.1, h.2.1, h.2.2.2.2⟩)]
        refine ⟨?_⟩; refine Spec.ofR (h := fun F w0 => ?_)
        repeat' ((conv => whnf); first | refine Q.E ?_ | (refine Stk.both (fun hb => ?_) (fun hb => ?_) <;> (try simp only [lE] at hb))); all_goals (conv => whnf)
        all_goals first | (exfalso; omega) | (refine Q.r6 (h := ?_); repeat' (first | exact Q.r0 | refine Q.r1 ?_ ?_ | refine Q.r2 ?_ | exact Q.r7 | refine Q.r3 ?_ | refine Q.r4 ?_ | refine Q.r5 ?_))
        all_goals (first | rfl | exact tst_true.2 (by omega) | exact tst_false.2 (by omega) | (simp [tst_eq]; done) | (simp only [Bool.not_true, Bool.not_false, Bool.and_true, Bool.true_and, Bool.and_false, Bool.false_and]; first | done | exact tst_true.2 (by omega) | exact tst_false.2 (by omega) | (rw [tst_true.2 (by omega)]; done) | (rw [tst_false.2 (by omega)]; done)))
    | false =>
      rw [decide_eq_false (fun h => by rw [ht.2 ⟨h.2.2.1, h.2.2.2.1⟩] at h2; cases h2)]
      refine ⟨?_⟩; refine Spec.ofR (h := fun F w0 => ?_)
      repeat' ((conv => whnf); first | refine Q.E ?_ | (refine Stk.both (fun hb => ?_) (fun hb => ?_) <;> (try simp only [lE] at hb))); all_goals (conv => whnf)
      all_goals (refine Q.r6 (h := ?_); repeat' (first | exact Q.r0 | refine Q.r1 ?_ ?_ | refine Q.r2 ?_ | exact Q.r7 | refine Q.r3 ?_ | refine Q.r4 ?_ | refine Q.r5 ?_))
instance attached_spec (l : List Att) (lo hi : Int) : HasSpec Tryz.prog 263 [PV.atts l, PV.int lo, PV.int hi] (.v (.bool (attB lo hi l && decide (l.length ≤ 200)))) := by
  refine ⟨Spec.bound 0 rfl fun hl => ?_⟩; rw [List.length_map] at hl; refine Spec.ofR (h := fun F w0 => ?_)
  repeat' ((conv => whnf); first | refine Q.E ?_ | (refine Stk.both (fun hb => ?_) (fun hb => ?_) <;> (try simp only [lE] at hb))); all_goals (conv => whnf)
  refine Stk.loop (ι := Nat) (fun i => [(0, PV.atts l), (2, PV.int hi), (7, PV.int (lastI Att.t lo (l.take i))), (11, PV.atts l), (12, PV.int (l.length : Nat)), (13, PV.int (i : Nat))]) (fun _ => []) (fun i => i ≤ l.length ∧ prefTo (attP lo hi) l i = true) (fun i => l.length - i) 0 ⟨Nat.zero_le _, rfl⟩ (Weak.gc ⟨rfl, rfl, rfl, rfl, rfl, rfl, trivial⟩ trivial rfl rfl rfl) (fun i hi' => ?_)
  obtain ⟨hi', hp⟩ := hi'
  have hb := (att_last hi' hp).1
  by_cases hlt : i < l.length
  · have hs := lastI_succ Att.t lo hlt
    cases hid : idB l[i].id with
    | false =>
      have ji := idchk_no hid
      rw [show attB lo hi l = false from pref_bad hlt (attP_f.2 fun h => by rw [hid] at h; exact absurd h.2.2.2 (by simp)), Bool.false_and]
      generalize lastI Att.t lo (l.take i) = la at *
      repeat' ((conv => whnf); first | refine Q.E ?_ | (refine Stk.both (fun hb => ?_) (fun hb => ?_) <;> (try simp only [lE] at hb))); all_goals (conv => whnf)
      all_goals (refine Q.r6 (h := ?_); repeat' (first | exact Q.r0 | refine Q.r1 ?_ ?_ | refine Q.r2 ?_ | exact Q.r7 | refine Q.r3 ?_ | refine Q.r4 ?_ | refine Q.r5 ?_))
    | true =>
      have ji := idchk_yes hid
      cases hq : attP lo hi (l.take i) l[i] with
      | true =>
        have h := attP_iff.1 hq
        have hp2 := prefTo_next hlt hp hq
        generalize lastI Att.t lo (l.take i) = la at h hb ⊢
        repeat' ((conv => whnf); first | refine Q.E ?_ | (refine Stk.both (fun hb => ?_) (fun hb => ?_) <;> (try simp only [lE] at hb))); all_goals (conv => whnf)
        refine ⟨i + 1, ⟨by omega, hp2⟩, by omega, ?_⟩
        rw [hs]
        exact Weak.gc ⟨rfl, rfl, rfl, rfl, rfl, rfl, trivial⟩ trivial rfl rfl rfl
      | false =>
        have h := attP_f.1 hq
        rw [show attB lo hi l = false from pref_bad hlt hq, Bool.false_and]
        generalize lastI Att.t lo (l.take i) = la at h hb ⊢
        repeat' ((conv => whnf); first | refine Q.E ?_ | (refine Stk.both (fun hb => ?_) (fun hb => ?_) <;> (try simp only [lE] at hb))); all_goals (conv => whnf)
        all_goals first | (exact absurd ⟨by omega, by omega, by omega, hid⟩ h) | (refine Q.r6 (h := ?_); repeat' (first | exact Q.r0 | refine Q.r1 ?_ ?_ | refine Q.r2 ?_ | exact Q.r7 | refine Q.r3 ?_ | refine Q.r4 ?_ | refine Q.r5 ?_))
  · rw [show attB lo hi l = true from pref_end (by omega) hi' hp, Bool.true_and]
    repeat' ((conv => whnf); first | refine Q.E ?_ | (refine Stk.both (fun hb => ?_) (fun hb => ?_) <;> (try simp only [lE] at hb))); all_goals (conv => whnf)
    (refine Q.r6 (h := ?_); repeat' (first | exact Q.r0 | refine Q.r1 ?_ ?_ | refine Q.r2 ?_ | exact Q.r7 | refine Q.r3 ?_ | refine Q.r4 ?_ | refine Q.r5 ?_))
    rw [tst_eq, decide_eq_decide]
    omega
theorem anym_spec (l : List Int) : HasSpec Tryz.prog 229 [PV.ints l, .fn (.func 262) [] []] (.v (.bool (l.any noneB))) := by
  refine ⟨Spec.bound 0 rfl fun hl => ?_⟩; rw [List.length_map] at hl; refine Spec.ofR (h := fun F w0 => ?_)
  repeat' ((conv => whnf); first | refine Q.a ?_ | refine Q.b ?_ | refine Q.c ?_ | refine Stk.is (by first | assumption | ((try simp only [lE]); first | done | assumption | omega)) ?_ | refine Stk.isnt (by first | assumption | ((try simp only [lE]); first | done | assumption | omega)) ?_ | (refine Stk.both (fun hb => ?_) (fun hb => ?_) <;> (try simp only [lE] at hb)) | refine Q.d ?_ | refine Q.e ?_ | refine Q.f ?_ | refine Q.g ?_ | refine Q.h ?_ | refine Q.i ?_ | refine Q.j ?_ | refine Q.k ?_ | refine Q.l ?_ | refine Q.m ?_ | refine Q.n ?_ | refine Q.o (h := ?_) | refine Q.p (h := ?_) | refine Q.q ?_ | refine Q.r ?_ | refine Q.s ?_ | refine Q.t ?_ | refine Q.u ?_ | refine Q.v ?_ | refine Q.w ?_ | refine Q.x ?_ | refine Q.y ?_ | refine Q.z ?_ | refine Stk.inl (h := fun tm => ?_) | refine Stk.inl0 (h := fun tm => ?_) | refine DefG.go (h := fun vs us => ?_) | intro (tm : Array Value) | refine Stk.op (ok_buildA rfl rfl rfl rfl) ?_ | refine Stk.scope ?_); all_goals (conv => whnf)
  refine Stk.loop (ι := Nat) (fun i => [(0, PV.ints l), (1, .fn (.func 262) [] []), (7, PV.int (l.length : Nat)), (8, PV.int (i : Nat))]) (fun i => []) (fun i => i ≤ l.length ∧ ∀ x ∈ l.take i, noneB x = false) (fun i => l.length - i) 0 ⟨Nat.zero_le _, by simp⟩ (Weak.gc ⟨rfl, rfl, rfl, rfl, trivial⟩ trivial rfl rfl rfl) (fun i hi => ?_)
  obtain ⟨hi, hno⟩ := hi
  by_cases hlt : i < l.length
  · have j1 := mprom1_spec l[i]
    cases hq : noneB l[i] with
    | true =>
      rw [hq] at j1
      rw [any_at (p := noneB) hlt hq]
      repeat' ((conv => whnf); first | refine Q.E ?_ | (refine Stk.both (fun hb => ?_) (fun hb => ?_) <;> (try simp only [lE] at hb))); all_goals (conv => whnf)
      (refine Q.r6 (h := ?_); repeat' (first | exact Q.r0 | refine Q.r1 ?_ ?_ | refine Q.r2 ?_ | exact Q.r7 | refine Q.r3 ?_ | refine Q.r4 ?_ | refine Q.r5 ?_))
      all_goals (first | rfl | exact tst_true.2 (by omega) | exact tst_false.2 (by omega) | (simp [tst_eq]; done) | (simp only [Bool.not_true, Bool.not_false, Bool.and_true, Bool.true_and, Bool.and_false, Bool.false_and]; first | done | exact tst_true.2 (by omega) | exact tst_false.2 (by omega) | (rw [tst_true.2 (by omega)]; done) | (rw [tst_false.2 (by omega)]; done)))
    | false =>
      rw [hq] at j1
      repeat' ((conv => whnf); first | refine Q.E ?_ | (refine Stk.both (fun hb => ?_) (fun hb => ?_) <;> (try simp only [lE] at hb))); all_goals (conv => whnf)
      exact ⟨i + 1, ⟨by omega, take_no (p := noneB) hlt hno hq⟩, by omega, Weak.gc ⟨rfl, rfl, rfl, rfl, trivial⟩ trivial rfl rfl rfl⟩
  · rw [any_none (p := noneB) hlt hno]
    repeat' ((conv => whnf); first | refine Q.E ?_ | (refine Stk.both (fun hb => ?_) (fun hb => ?_) <;> (try simp only [lE] at hb))); all_goals (conv => whnf)
    (refine Q.r6 (h := ?_); repeat' (first | exact Q.r0 | refine Q.r1 ?_ ?_ | refine Q.r2 ?_ | exact Q.r7 | refine Q.r3 ?_ | refine Q.r4 ?_ | refine Q.r5 ?_))
    all_goals (first | rfl | exact tst_true.2 (by omega) | exact tst_false.2 (by omega) | (simp [tst_eq]; done) | (simp only [Bool.not_true, Bool.not_false, Bool.and_true, Bool.true_and, Bool.and_false, Bool.false_and]; first | done | exact tst_true.2 (by omega) | exact tst_false.2 (by omega) | (rw [tst_true.2 (by omega)]; done) | (rw [tst_false.2 (by omega)]; done)))
theorem noneB_p {t : Int} : noneB t = false ↔ (0 ≤ t ∧ t ≤ 1000000) := by
  unfold noneB
  rw [decide_eq_false_iff_not]
  omega
instance promises_spec (m : Msg) : HasSpec Tryz.prog 233 [.agg m.cs] (.v (.bool (prmB m))) := by
  have j1 := anym_spec m.marks
  have j2 := attached_spec m.atts m.lo m.hi
  by_cases hf : 0 ≤ m.lo ∧ m.lo ≤ m.hi ∧ m.hi ≤ 1000000 ∧ 0 ≤ m.done ∧ m.done ≤ 1000000 ∧ m.marks.length ≤ 9
  · have n1 : noneB m.lo = false := noneB_p.2 (by omega)
    have n2 : noneB m.hi = false := noneB_p.2 (by omega)
    have n3 : noneB m.done = false := noneB_p.2 (by omega)
    have hfl : prmB m = ((attB m.lo m.hi m.atts && decide (m.atts.length ≤ 200)) && !m.marks.any noneB) := by
      unfold prmB
      by_cases h2 : m.atts.length ≤ 200
      · rw [decide_eq_true (show 0 ≤ m.lo ∧ m.lo ≤ m.hi ∧ m.hi ≤ 1000000 ∧ 0 ≤ m.done ∧ m.done ≤ 1000000 ∧ m.marks.length ≤ 9 ∧ m.atts.length ≤ 200 by omega), decide_eq_true h2, Bool.true_and, Bool.and_true, Bool.and_comm]
      · rw [decide_eq_false (show ¬ (0 ≤ m.lo ∧ m.lo ≤ m.hi ∧ m.hi ≤ 1000000 ∧ 0 ≤ m.done ∧ m.done ≤ 1000000 ∧ m.marks.length ≤ 9 ∧ m.atts.length ≤ 200) by omega), decide_eq_false h2]
        simp
    rw [hfl]
    cases ha : (attB m.lo m.hi m.atts && decide (m.atts.length ≤ 200)) with
    | false =>
      rw [ha] at j2
      refine ⟨?_⟩; refine Spec.ofR (h := fun F w0 => ?_)
      repeat' ((conv => whnf); first | refine Q.E ?_ | (refine Stk.both (fun hb => ?_) (fun hb => ?_) <;> (try simp only [lE] at hb))); all_goals (conv => whnf)
      (refine Q.r6 (h := ?_); repeat' (first | exact Q.r0 | refine Q.r1 ?_ ?_ | refine Q.r2 ?_ | exact Q.r7 | refine Q.r3 ?_ | refine Q.r4 ?_ | refine Q.r5 ?_))
      all_goals (first | rfl | exact tst_true.2 (by omega) | exact tst_false.2 (by omega) | (simp [tst_eq]; done) | (simp only [Bool.not_true, Bool.not_false, Bool.and_true, Bool.true_and, Bool.and_false, Bool.false_and]; first | done | exact tst_true.2 (by omega) | exact tst_false.2 (by omega) | (rw [tst_true.2 (by omega)]; done) | (rw [tst_false.2 (by omega)]; done)))
    | true =>
      rw [ha] at j2
      refine ⟨?_⟩; refine Spec.ofR (h := fun F w0 => ?_)
      repeat' ((conv => whnf); first | refine Q.E ?_ | (refine Stk.both (fun hb => ?_) (fun hb => ?_) <;> (try simp only [lE] at hb))); all_goals (conv => whnf)
      (refine Q.r6 (h := ?_); repeat' (first | exact Q.r0 | refine Q.r1 ?_ ?_ | refine Q.r2 ?_ | exact Q.r7 | refine Q.r3 ?_ | refine Q.r4 ?_ | refine Q.r5 ?_))
      all_goals rfl
  · rw [show prmB m = false by unfold prmB; rw [decide_eq_false (by omega)]; rfl]
    have n1 := noneB_p (t := m.lo)
    have n2 := noneB_p (t := m.hi)
    have n3 := noneB_p (t := m.done)
    cases h1 : noneB m.lo with
    | true =>
      refine ⟨?_⟩; refine Spec.ofR (h := fun F w0 => ?_)
      repeat' ((conv => whnf); first | refine Q.E ?_ | (refine Stk.both (fun hb => ?_) (fun hb => ?_) <;> (try simp only [lE] at hb))); all_goals (conv => whnf)
      (refine Q.r6 (h := ?_); repeat' (first | exact Q.r0 | refine Q.r1 ?_ ?_ | refine Q.r2 ?_ | exact Q.r7 | refine Q.r3 ?_ | refine Q.r4 ?_ | refine Q.r5 ?_))
    | false =>
      cases h2 : noneB m.hi with
      | true =>
        refine ⟨?_⟩; refine Spec.ofR (h := fun F w0 => ?_)
        repeat' ((conv => whnf); first | refine Q.E ?_ | (refine Stk.both (fun hb => ?_) (fun hb => ?_) <;> (try simp only [lE] at hb))); all_goals (conv => whnf)
        (refine Q.r6 (h := ?_); repeat' (first | exact Q.r0 | refine Q.r1 ?_ ?_ | refine Q.r2 ?_ | exact Q.r7 | refine Q.r3 ?_ | refine Q.r4 ?_ | refine Q.r5 ?_))
      | false =>
        have := n1.1 h1
        have := n2.1 h2
        cases h3 : noneB m.done with
        | true =>
          refine ⟨?_⟩; refine Spec.ofR (h := fun F w0 => ?_)
          repeat' ((conv => whnf); first | refine Q.E ?_ | (refine Stk.both (fun hb => ?_) (fun hb => ?_) <;> (try simp only [lE] at hb))); all_goals (conv => whnf)
          all_goals (refine Q.r6 (h := ?_); repeat' (first | exact Q.r0 | refine Q.r1 ?_ ?_ | refine Q.r2 ?_ | exact Q.r7 | refine Q.r3 ?_ | refine Q.r4 ?_ | refine Q.r5 ?_))
        | false =>
          have := n3.1 h3
          refine ⟨?_⟩; refine Spec.ofR (h := fun F w0 => ?_)
          repeat' ((conv => whnf); first | refine Q.E ?_ | (refine Stk.both (fun hb => ?_) (fun hb => ?_) <;> (try simp only [lE] at hb))); all_goals (conv => whnf)
          all_goals first | (exfalso; omega) | (refine Q.r6 (h := ?_); repeat' (first | exact Q.r0 | refine Q.r1 ?_ ?_ | refine Q.r2 ?_ | exact Q.r7 | refine Q.r3 ?_ | refine Q.r4 ?_ | refine Q.r5 ?_))
end Go.Proofs.YtbjepdfnmbdplaaGreat
end
section
namespace Go.Proofs.YtbjepdfnmbdplaaGreat
open Go.RowKit
set_option linter.unusedSimpArgs false
set_option linter.unusedVariables false
set_option maxRecDepth 100000
set_option maxHeartbeats 1000000
theorem take_eqG {α : Type} {a b : List α} {i : Nat} (h : a.take i = b.take i) (ha : i < a.length) (hb : i < b.length) (e : a[i] = b[i]) : a.take (i + 1) = b.take (i + 1) := by
  rw [take_snoc' a i ha, take_snoc' b i hb, h, e]
theorem Att.eq2 (a b : Att) : ([a.t, a.id] = [b.t, b.id]) = (a = b) := by
  cases a; cases b
  simp
instance equalatt_spec (a b : List Att) : HasSpec Tryz.prog 231 [PV.atts a, PV.atts b] (.v (.bool (decide (a = b)))) := by
  refine ⟨Spec.bound 0 rfl fun hl => ?_⟩; rw [List.length_map] at hl; refine Spec.ofR (h := fun F w0 => ?_)
  by_cases hl2 : a.length = b.length
  · repeat' ((conv => whnf); first | refine Q.E ?_ | (refine Stk.both (fun hb => ?_) (fun hb => ?_) <;> (try simp only [lE] at hb))); all_goals (conv => whnf)
    refine Stk.loop (ι := Nat) (fun i => [(0, PV.atts a), (1, PV.atts b), (12, PV.int (a.length : Nat)), (13, PV.int (i : Nat))]) (fun _ => []) (fun i => i ≤ a.length ∧ a.take i = b.take i) (fun i => a.length - i) 0 ⟨Nat.zero_le _, by simp⟩ (Weak.gc ⟨rfl, rfl, rfl, rfl, trivial⟩ trivial rfl rfl rfl) (fun i hi => ?_)
    obtain ⟨hi, he⟩ := hi
    by_cases hlt : i < a.length
    · have hlb : i < b.length := by omega
      by_cases hq : a[i] = b[i]
      · have hz : (!tst ([a[i].t, a[i].id] = [b[i].t, b[i].id])) = false := by rw [tst_true.2 (by rw [hq])]; rfl
        repeat' ((conv => whnf); first | refine Q.E ?_ | (refine Stk.both (fun hb => ?_) (fun hb => ?_) <;> (try simp only [lE] at hb))); all_goals (conv => whnf)
        exact ⟨i + 1, ⟨by omega, take_eqG he hlt hlb hq⟩, by omega, Weak.gc ⟨rfl, rfl, rfl, rfl, trivial⟩ trivial rfl rfl rfl⟩
      · have hz : (!tst ([a[i].t, a[i].id] = [b[i].t, b[i].id])) = true := by rw [tst_false.2 (by rw [Att.eq2]; exact hq)]; rfl
        rw [show decide (a = b) = false from decide_eq_false (fun e => hq (by subst e; rfl))]
        repeat' ((conv => whnf); first | refine Q.E ?_ | (refine Stk.both (fun hb => ?_) (fun hb => ?_) <;> (try simp only [lE] at hb))); all_goals (conv => whnf)
        (refine Q.r6 (h := ?_); repeat' (first | exact Q.r0 | refine Q.r1 ?_ ?_ | refine Q.r2 ?_ | exact Q.r7 | refine Q.r3 ?_ | refine Q.r4 ?_ | refine Q.r5 ?_))
    · rw [List.take_of_length_le (by omega), List.take_of_length_le (by omega)] at he
      rw [decide_eq_true he]
      repeat' ((conv => whnf); first | refine Q.E ?_ | (refine Stk.both (fun hb => ?_) (fun hb => ?_) <;> (try simp only [lE] at hb))); all_goals (conv => whnf)
      (refine Q.r6 (h := ?_); repeat' (first | exact Q.r0 | refine Q.r1 ?_ ?_ | refine Q.r2 ?_ | exact Q.r7 | refine Q.r3 ?_ | refine Q.r4 ?_ | refine Q.r5 ?_))
  · rw [show decide (a = b) = false from decide_eq_false (fun e => hl2 (by rw [e]))]
    repeat' ((conv => whnf); first | refine Q.E ?_ | (refine Stk.both (fun hb => ?_) (fun hb => ?_) <;> (try simp only [lE] at hb))); all_goals (conv => whnf)
    (refine Q.r6 (h := ?_); repeat' (first | exact Q.r0 | refine Q.r1 ?_ ?_ | refine Q.r2 ?_ | exact Q.r7 | refine Q.r3 ?_ | refine Q.r4 ?_ | refine Q.r5 ?_))
instance sameatts_spec (a b : List Att) : HasSpec Tryz.prog 64 [PV.atts a, PV.atts b] (.v (.bool (decide (a = b)))) := by
  refine ⟨Spec.bound 0 rfl fun hl => ?_⟩; rw [List.length_map] at hl; refine Spec.ofR (h := fun F w0 => ?_)
  by_cases hl2 : a.length = b.length
  · repeat' ((conv => whnf); first | refine Q.E ?_ | (refine Stk.both (fun hb => ?_) (fun hb => ?_) <;> (try simp only [lE] at hb))); all_goals (conv => whnf)
    refine Stk.loop (ι := Nat) (fun i => [(0, PV.atts a), (1, PV.atts b), (5, PV.int (i : Nat))]) (fun _ => []) (fun i => i ≤ a.length ∧ a.take i = b.take i) (fun i => a.length - i) 0 ⟨Nat.zero_le _, by simp⟩ (Weak.gc ⟨rfl, rfl, rfl, trivial⟩ trivial rfl rfl rfl) (fun i hi => ?_)
    obtain ⟨hi, he⟩ := hi
    by_cases hlt : i < a.length
    · have hlb : i < b.length := by omega
      by_cases hq : a[i] = b[i]
      · have hz : (!tst ([a[i].t, a[i].id] = [b[i].t, b[i].id])) = false := by rw [tst_true.2 (by rw [hq])]; rfl
        repeat' ((conv => whnf); first | refine Q.E ?_ | (refine Stk.both (fun hb => ?_) (fun hb => ?_) <;> (try simp only [lE] at hb))); all_goals (conv => whnf)
        exact ⟨i + 1, ⟨by omega, take_eqG he hlt hlb hq⟩, by omega, Weak.gc ⟨rfl, rfl, rfl, trivial⟩ trivial rfl rfl rfl⟩
      · have hz : (!tst ([a[i].t, a[i].id] = [b[i].t, b[i].id])) = true := by rw [tst_false.2 (by rw [Att.eq2]; exact hq)]; rfl
        rw [show decide (a = b) = false from decide_eq_false (fun e => hq (by subst e; rfl))]
        repeat' ((conv => whnf); first | refine Q.E ?_ | (refine Stk.both (fun hb => ?_) (fun hb => ?_) <;> (try simp only [lE] at hb))); all_goals (conv => whnf)
        (refine Q.r6 (h := ?_); repeat' (first | exact Q.r0 | refine Q.r1 ?_ ?_ | refine Q.r2 ?_ | exact Q.r7 | refine Q.r3 ?_ | refine Q.r4 ?_ | refine Q.r5 ?_))
    · rw [List.take_of_length_le (by omega), List.take_of_length_le (by omega)] at he
      rw [decide_eq_true he]
      repeat' ((conv => whnf); first | refine Q.E ?_ | (refine Stk.both (fun hb => ?_) (fun hb => ?_) <;> (try simp only [lE] at hb))); all_goals (conv => whnf)
      (refine Q.r6 (h := ?_); repeat' (first | exact Q.r0 | refine Q.r1 ?_ ?_ | refine Q.r2 ?_ | exact Q.r7 | refine Q.r3 ?_ | refine Q.r4 ?_ | refine Q.r5 ?_))
  · rw [show decide (a = b) = false from decide_eq_false (fun e => hl2 (by rw [e]))]
    repeat' ((conv => whnf); first | refine Q.E ?_ | (refine Stk.both (fun hb => ?_) (fun hb => ?_) <;> (try simp only [lE] at hb))); all_goals (conv => whnf)
    (refine Q.r6 (h := ?_); repeat' (first | exact Q.r0 | refine Q.r1 ?_ ?_ | refine Q.r2 ?_ | exact Q.r7 | refine Q.r3 ?_ | refine Q.r4 ?_ | refine Q.r5 ?_))
theorem msg_no {a b : Msg} (h : a ≠ b) : decide (a = b) = false := decide_eq_false h
theorem msg_eq {a b : Msg} : a = b ↔ a.kind = b.kind ∧ a.fr = b.fr ∧ a.id = b.id ∧ a.t = b.t ∧ a.bal = b.bal ∧ a.abal = b.abal ∧ a.phase = b.phase ∧ a.quorum = b.quorum ∧ a.payload = b.payload ∧ a.lo = b.lo ∧ a.hi = b.hi ∧ a.atts = b.atts ∧ a.marks = b.marks ∧ a.done = b.done := by
  cases a; cases b
  simp
instance msgsame_spec (a b : Msg) : HasSpec Tryz.prog 181 [.agg a.cs, .agg b.cs] (.v (.bool (decide (a = b)))) := by
  refine ⟨?_⟩; refine Spec.ofR (h := fun F w0 => ?_)
  repeat' ((conv => whnf); first | refine Q.E ?_ | (refine Stk.both (fun hb => ?_) (fun hb => ?_) <;> (try simp only [lE] at hb))); all_goals (conv => whnf)
  all_goals (refine Q.r6 (h := ?_); repeat' (first | exact Q.r0 | refine Q.r1 ?_ ?_ | refine Q.r2 ?_ | exact Q.r7 | refine Q.r3 ?_ | refine Q.r4 ?_ | refine Q.r5 ?_))
  all_goals first | (refine (msg_no ?_).symm; rintro rfl; contradiction) | skip
  all_goals first | (refine (msg_no ?_).symm; rintro rfl; simp_all; done) | skip
  all_goals (rw [decide_eq_decide, msg_eq]; simp_all)
instance refmsgsame_spec (a b : Msg) : HasSpec Tryz.prog 69 [.agg a.cs, .agg b.cs] (.v (.bool (decide (a = b)))) := by
  refine ⟨?_⟩; refine Spec.ofR (h := fun F w0 => ?_)
  repeat' ((conv => whnf); first | refine Q.E ?_ | (refine Stk.both (fun hb => ?_) (fun hb => ?_) <;> (try simp only [lE] at hb))); all_goals (conv => whnf)
  all_goals (refine Q.r6 (h := ?_); repeat' (first | exact Q.r0 | refine Q.r1 ?_ ?_ | refine Q.r2 ?_ | exact Q.r7 | refine Q.r3 ?_ | refine Q.r4 ?_ | refine Q.r5 ?_))
  all_goals first | (refine (msg_no ?_).symm; rintro rfl; contradiction) | skip
  all_goals first | (refine (msg_no ?_).symm; rintro rfl; simp_all; done) | skip
  all_goals (rw [decide_eq_decide, msg_eq]; simp_all)
def nameL : List ByteArray := [⟨#[]⟩, ⟨#[112, 114, 111, 112, 111, 115, 101]⟩, ⟨#[112, 114, 111, 112, 111, 115, 101, 100]⟩, ⟨#[97, 99, 99, 101, 112, 116]⟩, ⟨#[97, 99, 99, 101, 112, 116, 101, 100]⟩, ⟨#[99, 111, 109, 109, 105, 116]⟩, ⟨#[114, 101, 115, 99, 117, 101]⟩, ⟨#[114, 101, 115, 99, 117, 101, 100]⟩, ⟨#[114, 101, 102, 117, 115, 101]⟩, ⟨#[112, 97, 121, 108, 111, 97, 100]⟩, ⟨#[112, 114, 111, 109, 105, 115, 101, 115]⟩]
def nameS (k : Int) : ByteArray := if 0 ≤ k then nameL.getD k.toNat noByte else noByte
theorem name_empty {k : Int} (h : ¬ (1 ≤ k ∧ k ≤ 10)) : nameS k = ⟨#[]⟩ := by
  unfold nameS
  split
  · by_cases h0 : k = 0
    · subst h0; rfl
    · rw [List.getD_eq_getElem?_getD, List.getElem?_eq_none (by show 11 ≤ k.toNat; omega)]
      rfl
  · rfl
theorem name_some {k : Int} (h : 1 ≤ k ∧ k ≤ 10) : nameS k ≠ ⟨#[]⟩ := by
  have : k = 1 ∨ k = 2 ∨ k = 3 ∨ k = 4 ∨ k = 5 ∨ k = 6 ∨ k = 7 ∨ k = 8 ∨ k = 9 ∨ k = 10 := by omega
  rcases this with h | h | h | h | h | h | h | h | h | h <;> subst h <;> decide
theorem name_ld {k : Int} (h : 0 ≤ k ∧ k < 11) : (nameL.map fun s => PV.v (.string s))[0 + k.toNat * 1]? = some (.v (.string (nameS k))) := by
  have hk : k.toNat < nameL.length := by show k.toNat < 11; omega
  rw [Nat.zero_add, Nat.mul_one, List.getElem?_map, List.getElem?_eq_getElem hk]
  unfold nameS
  rw [if_pos h.1, List.getD_eq_getElem?_getD, List.getElem?_eq_getElem hk]
  rfl
instance name_spec (k : Int) : HasSpec Tryz.prog 179 [PV.int k] (.v (.string (nameS k))) := by
  by_cases h : 0 ≤ k ∧ k < 11
  · refine ⟨?_⟩; refine Spec.ofR (h := fun F w0 => ?_)
    repeat' ((conv => whnf); first | refine Q.a ?_ | refine Q.b ?_ | refine Q.c ?_ | refine Stk.is (by first | assumption | ((try simp only [lE]); first | done | assumption | omega)) ?_ | refine Stk.isnt (by first | assumption | ((try simp only [lE]); first | done | assumption | omega)) ?_ | (refine Stk.both (fun hb => ?_) (fun hb => ?_) <;> (try simp only [lE] at hb)) | refine Q.d ?_ | refine Q.e ?_ | refine Q.f ?_ | refine Q.g ?_ | refine Q.h ?_ | refine Q.i ?_ | refine Q.j ?_ | refine Q.k ?_ | refine Q.l ?_ | refine Q.m ?_ | refine Q.n ?_ | refine Q.o (h := ?_) | refine Q.p (h := ?_) | refine Q.q ?_ | refine Q.r ?_ | refine Q.s ?_ | refine Q.t ?_ | refine Q.u ?_ | refine Q.v ?_ | refine Q.w ?_ | refine Q.x ?_ | refine Q.y ?_ | refine Q.z ?_ | refine Stk.inl (h := fun tm => ?_) | refine Stk.inl0 (h := fun tm => ?_) | refine DefG.go (h := fun vs us => ?_) | intro (tm : Array Value) | refine Stk.op (ok_buildA rfl rfl rfl rfl) ?_ | refine Stk.scope ?_); all_goals (conv => whnf)
    refine Stk.ld (p := .v (.string (nameS k))) (by exact name_ld h) ?_
    repeat' ((conv => whnf); first | refine Q.E ?_ | (refine Stk.both (fun hb => ?_) (fun hb => ?_) <;> (try simp only [lE] at hb))); all_goals (conv => whnf)
    (refine Q.r6 (h := ?_); repeat' (first | exact Q.r0 | refine Q.r1 ?_ ?_ | refine Q.r2 ?_ | exact Q.r7 | refine Q.r3 ?_ | refine Q.r4 ?_ | refine Q.r5 ?_))
  · rw [name_empty (by omega)]
    refine ⟨?_⟩; refine Spec.ofR (h := fun F w0 => ?_)
    repeat' ((conv => whnf); first | refine Q.a ?_ | refine Q.b ?_ | refine Q.c ?_ | refine Stk.is (by first | assumption | ((try simp only [lE]); first | done | assumption | omega)) ?_ | refine Stk.isnt (by first | assumption | ((try simp only [lE]); first | done | assumption | omega)) ?_ | (refine Stk.both (fun hb => ?_) (fun hb => ?_) <;> (try simp only [lE] at hb)) | refine Q.d ?_ | refine Q.e ?_ | refine Q.f ?_ | refine Q.g ?_ | refine Q.h ?_ | refine Q.i ?_ | refine Q.j ?_ | refine Q.k ?_ | refine Q.l ?_ | refine Q.m ?_ | refine Q.n ?_ | refine Q.o (h := ?_) | refine Q.p (h := ?_) | refine Q.q ?_ | refine Q.r ?_ | refine Q.s ?_ | refine Q.t ?_ | refine Q.u ?_ | refine Q.v ?_ | refine Q.w ?_ | refine Q.x ?_ | refine Q.y ?_ | refine Q.z ?_ | refine Stk.inl (h := fun tm => ?_) | refine Stk.inl0 (h := fun tm => ?_) | refine DefG.go (h := fun vs us => ?_) | intro (tm : Array Value) | refine Stk.op (ok_buildA rfl rfl rfl rfl) ?_ | refine Stk.scope ?_); all_goals (conv => whnf)
    all_goals first | (exfalso; omega) | (refine Q.r6 (h := ?_); repeat' (first | exact Q.r0 | refine Q.r1 ?_ ?_ | refine Q.r2 ?_ | exact Q.r7 | refine Q.r3 ?_ | refine Q.r4 ?_ | refine Q.r5 ?_))
instance : ConcT Tryz.prog 52 := ⟨by kernel_rfl⟩
instance : ConcT Tryz.prog 245 := ⟨by kernel_rfl⟩
instance : IfcT Tryz.prog 123 := ⟨by kernel_rfl⟩
section
variable {P : Program} {X : XF} {w0 : World} {T : TT} {K : Exit → St → Prop} [tb : TabT P T]
theorem Stk.opW {nt d : Nat} {env env' : List (Nat × PV)} {lh lh' : List (Nat × LB)} {fs : List Fr} {op : Op} {ty : TypeId} {pos : String} {after : Array Edge} {ops : Array Oper} {l : List Oper} {p : PV} (h : OpOK P ⟨some d, op, ty, pos, after, none⟩ ⟨nt, env, lh⟩ p []) (hw : Weak X w0 ⟨nt, (d, p) :: env, lh⟩ ⟨nt, env', lh'⟩) (k : GoR P X w0 T (.next ⟨.ops ops l, nt, env', lh', fs⟩) K) :
    Stk P X w0 T (.stop ⟨.ops ops (⟨some d, op, ty, pos, after, none⟩ :: l), nt, env, lh, fs⟩) K := ⟨RW.st h (RW.weak hw (k.sem tb.ok tb.mixed))⟩
end
theorem failnew_spec (s : ByteArray) (e : Int) (h : e ≠ 0) : HasSpec Tryz.prog 180 [.v (.string s), PV.int e] (.ifc 245 .any) := by
  refine ⟨?_⟩; refine Spec.ofR (h := fun F w0 => ?_)
  repeat' ((conv => whnf); first | refine Q.E ?_ | (refine Stk.both (fun hb => ?_) (fun hb => ?_) <;> (try simp only [lE] at hb))); all_goals (conv => whnf)
  refine Stk.op (ok_mkIfc rfl rfl) ?_
  repeat' ((conv => whnf); first | refine Q.E ?_ | (refine Stk.both (fun hb => ?_) (fun hb => ?_) <;> (try simp only [lE] at hb))); all_goals (conv => whnf)
  refine Stk.opW (ok_mkIfc rfl rfl) Weak.hide ?_
  repeat' ((conv => whnf); first | refine Q.E ?_ | (refine Stk.both (fun hb => ?_) (fun hb => ?_) <;> (try simp only [lE] at hb))); all_goals (conv => whnf)
  (refine Q.r6 (h := ?_); repeat' (first | exact Q.r0 | refine Q.r1 ?_ ?_ | refine Q.r2 ?_ | exact Q.r7 | refine Q.r3 ?_ | refine Q.r4 ?_ | refine Q.r5 ?_))
theorem bare_spec (m : Msg) (h : 1 ≤ m.kind ∧ m.kind ≤ 10) : HasSpec Tryz.prog 182 [.agg m.cs] (.agg (bareM m).cs) := by
  obtain ⟨kind, fr, id, t, bal, abal, phase, quorum, payload, lo, hi, atts, marks, done⟩ := m
  simp only at h
  have : kind = 1 ∨ kind = 2 ∨ kind = 3 ∨ kind = 4 ∨ kind = 5 ∨ kind = 6 ∨ kind = 7 ∨ kind = 8 ∨ kind = 9 ∨ kind = 10 := by omega
  rcases this with h | h | h | h | h | h | h | h | h | h
  all_goals subst h
  all_goals refine ⟨?_⟩; refine Spec.ofR (h := fun F w0 => ?_)
  all_goals repeat' ((conv => whnf); first | refine Q.E ?_ | (refine Stk.both (fun hb => ?_) (fun hb => ?_) <;> (try simp only [lE] at hb))); all_goals (conv => whnf)
  all_goals (refine Q.r6 (h := ?_); repeat' (first | exact Q.r0 | refine Q.r1 ?_ ?_ | refine Q.r2 ?_ | exact Q.r7 | refine Q.r3 ?_ | refine Q.r4 ?_ | refine Q.r5 ?_))
end Go.Proofs.YtbjepdfnmbdplaaGreat
end
section
namespace Go.Proofs.YtbjepdfnmbdplaaGreat
open Go.RowKit
set_option linter.unusedSimpArgs false
set_option linter.unusedVariables false
set_option maxRecDepth 100000
set_option maxHeartbeats 1000000
instance may_spec (m : Msg) : HasSpec Tryz.prog 183 [.agg m.cs] (.v (.bool (mayM m))) := by
  by_cases h10 : m.kind = 10
  · rw [show mayM m = prmB m from if_pos h10]
    refine ⟨?_⟩; refine Spec.ofR (h := fun F w0 => ?_)
    repeat' ((conv => whnf); first | refine Q.E ?_ | (refine Stk.both (fun hb => ?_) (fun hb => ?_) <;> (try simp only [lE] at hb))); all_goals (conv => whnf)
    (refine Q.r6 (h := ?_); repeat' (first | exact Q.r0 | refine Q.r1 ?_ ?_ | refine Q.r2 ?_ | exact Q.r7 | refine Q.r3 ?_ | refine Q.r4 ?_ | refine Q.r5 ?_))
  · unfold mayM
    rw [if_neg h10]
    cases hid : idB m.id with
    | false =>
      have ji := idchk_no hid
      rw [Bool.false_and]
      refine ⟨?_⟩; refine Spec.ofR (h := fun F w0 => ?_)
      repeat' ((conv => whnf); first | refine Q.E ?_ | (refine Stk.both (fun hb => ?_) (fun hb => ?_) <;> (try simp only [lE] at hb))); all_goals (conv => whnf)
      (refine Q.r6 (h := ?_); repeat' (first | exact Q.r0 | refine Q.r1 ?_ ?_ | refine Q.r2 ?_ | exact Q.r7 | refine Q.r3 ?_ | refine Q.r4 ?_ | refine Q.r5 ?_))
    | true =>
      have ji := idchk_yes hid
      rw [Bool.true_and]
      by_cases h15 : m.kind = 1 ∨ m.kind = 5
      · rw [if_pos h15]
        cases ht : timeB m.t with
        | false =>
          by_cases h1 : m.kind = 1
          · refine ⟨?_⟩; refine Spec.ofR (h := fun F w0 => ?_)
            repeat' ((conv => whnf); first | refine Q.E ?_ | (refine Stk.both (fun hb => ?_) (fun hb => ?_) <;> (try simp only [lE] at hb))); all_goals (conv => whnf)
            (refine Q.r6 (h := ?_); repeat' (first | exact Q.r0 | refine Q.r1 ?_ ?_ | refine Q.r2 ?_ | exact Q.r7 | refine Q.r3 ?_ | refine Q.r4 ?_ | refine Q.r5 ?_))
          · have h5 : m.kind = 5 := by omega
            refine ⟨?_⟩; refine Spec.ofR (h := fun F w0 => ?_)
            repeat' ((conv => whnf); first | refine Q.E ?_ | (refine Stk.both (fun hb => ?_) (fun hb => ?_) <;> (try simp only [lE] at hb))); all_goals (conv => whnf)
            (refine Q.r6 (h := ?_); repeat' (first | exact Q.r0 | refine Q.r1 ?_ ?_ | refine Q.r2 ?_ | exact Q.r7 | refine Q.r3 ?_ | refine Q.r4 ?_ | refine Q.r5 ?_))
        | true =>
          by_cases h1 : m.kind = 1
          · refine ⟨?_⟩; refine Spec.ofR (h := fun F w0 => ?_)
            repeat' ((conv => whnf); first | refine Q.E ?_ | (refine Stk.both (fun hb => ?_) (fun hb => ?_) <;> (try simp only [lE] at hb))); all_goals (conv => whnf)
            (refine Q.r6 (h := ?_); repeat' (first | exact Q.r0 | refine Q.r1 ?_ ?_ | refine Q.r2 ?_ | exact Q.r7 | refine Q.r3 ?_ | refine Q.r4 ?_ | refine Q.r5 ?_))
          · have h5 : m.kind = 5 := by omega
            refine ⟨?_⟩; refine Spec.ofR (h := fun F w0 => ?_)
            repeat' ((conv => whnf); first | refine Q.E ?_ | (refine Stk.both (fun hb => ?_) (fun hb => ?_) <;> (try simp only [lE] at hb))); all_goals (conv => whnf)
            (refine Q.r6 (h := ?_); repeat' (first | exact Q.r0 | refine Q.r1 ?_ ?_ | refine Q.r2 ?_ | exact Q.r7 | refine Q.r3 ?_ | refine Q.r4 ?_ | refine Q.r5 ?_))
      · rw [if_neg h15]
        by_cases h3 : m.kind = 3
        · rw [if_pos h3]
          cases ht : timeB m.t with
          | false =>
            refine ⟨?_⟩; refine Spec.ofR (h := fun F w0 => ?_)
            repeat' ((conv => whnf); first | refine Q.E ?_ | (refine Stk.both (fun hb => ?_) (fun hb => ?_) <;> (try simp only [lE] at hb))); all_goals (conv => whnf)
            (refine Q.r6 (h := ?_); repeat' (first | exact Q.r0 | refine Q.r1 ?_ ?_ | refine Q.r2 ?_ | exact Q.r7 | refine Q.r3 ?_ | refine Q.r4 ?_ | refine Q.r5 ?_))
          | true =>
            cases hb : timeB m.bal with
            | false =>
              refine ⟨?_⟩; refine Spec.ofR (h := fun F w0 => ?_)
              repeat' ((conv => whnf); first | refine Q.E ?_ | (refine Stk.both (fun hb => ?_) (fun hb => ?_) <;> (try simp only [lE] at hb))); all_goals (conv => whnf)
              (refine Q.r6 (h := ?_); repeat' (first | exact Q.r0 | refine Q.r1 ?_ ?_ | refine Q.r2 ?_ | exact Q.r7 | refine Q.r3 ?_ | refine Q.r4 ?_ | refine Q.r5 ?_))
            | true =>
              refine ⟨?_⟩; refine Spec.ofR (h := fun F w0 => ?_)
              repeat' ((conv => whnf); first | refine Q.E ?_ | (refine Stk.both (fun hb => ?_) (fun hb => ?_) <;> (try simp only [lE] at hb))); all_goals (conv => whnf)
              (refine Q.r6 (h := ?_); repeat' (first | exact Q.r0 | refine Q.r1 ?_ ?_ | refine Q.r2 ?_ | exact Q.r7 | refine Q.r3 ?_ | refine Q.r4 ?_ | refine Q.r5 ?_))
        · rw [if_neg h3]
          by_cases h6 : m.kind = 6
          · rw [if_pos h6]
            cases hb : timeB m.bal with
            | false =>
              refine ⟨?_⟩; refine Spec.ofR (h := fun F w0 => ?_)
              repeat' ((conv => whnf); first | refine Q.E ?_ | (refine Stk.both (fun hb => ?_) (fun hb => ?_) <;> (try simp only [lE] at hb))); all_goals (conv => whnf)
              (refine Q.r6 (h := ?_); repeat' (first | exact Q.r0 | refine Q.r1 ?_ ?_ | refine Q.r2 ?_ | exact Q.r7 | refine Q.r3 ?_ | refine Q.r4 ?_ | refine Q.r5 ?_))
            | true =>
              refine ⟨?_⟩; refine Spec.ofR (h := fun F w0 => ?_)
              repeat' ((conv => whnf); first | refine Q.E ?_ | (refine Stk.both (fun hb => ?_) (fun hb => ?_) <;> (try simp only [lE] at hb))); all_goals (conv => whnf)
              (refine Q.r6 (h := ?_); repeat' (first | exact Q.r0 | refine Q.r1 ?_ ?_ | refine Q.r2 ?_ | exact Q.r7 | refine Q.r3 ?_ | refine Q.r4 ?_ | refine Q.r5 ?_))
          · rw [if_neg h6]
            by_cases h9 : m.kind = 9
            · rw [if_pos h9]
              refine ⟨?_⟩; refine Spec.ofR (h := fun F w0 => ?_)
              repeat' ((conv => whnf); first | refine Q.E ?_ | (refine Stk.both (fun hb => ?_) (fun hb => ?_) <;> (try simp only [lE] at hb))); all_goals (conv => whnf)
              (refine Q.r6 (h := ?_); repeat' (first | exact Q.r0 | refine Q.r1 ?_ ?_ | refine Q.r2 ?_ | exact Q.r7 | refine Q.r3 ?_ | refine Q.r4 ?_ | refine Q.r5 ?_))
            · rw [if_neg h9]
              by_cases h2 : m.kind = 2
              · rw [if_pos h2]
                refine ⟨?_⟩; refine Spec.ofR (h := fun F w0 => ?_)
                repeat' ((conv => whnf); first | refine Q.E ?_ | (refine Stk.both (fun hb => ?_) (fun hb => ?_) <;> (try simp only [lE] at hb))); all_goals (conv => whnf)
                (refine Q.r6 (h := ?_); repeat' (first | exact Q.r0 | refine Q.r1 ?_ ?_ | refine Q.r2 ?_ | exact Q.r7 | refine Q.r3 ?_ | refine Q.r4 ?_ | refine Q.r5 ?_))
              · rw [if_neg h2]
                by_cases h7 : m.kind = 7
                · rw [if_pos h7]
                  cases hb : timeB m.bal with
                  | false =>
                    refine ⟨?_⟩; refine Spec.ofR (h := fun F w0 => ?_)
                    repeat' ((conv => whnf); first | refine Q.E ?_ | (refine Stk.both (fun hb => ?_) (fun hb => ?_) <;> (try simp only [lE] at hb))); all_goals (conv => whnf)
                    (refine Q.r6 (h := ?_); repeat' (first | exact Q.r0 | refine Q.r1 ?_ ?_ | refine Q.r2 ?_ | exact Q.r7 | refine Q.r3 ?_ | refine Q.r4 ?_ | refine Q.r5 ?_))
                  | true =>
                    refine ⟨?_⟩; refine Spec.ofR (h := fun F w0 => ?_)
                    repeat' ((conv => whnf); first | refine Q.E ?_ | (refine Stk.both (fun hb => ?_) (fun hb => ?_) <;> (try simp only [lE] at hb))); all_goals (conv => whnf)
                    (refine Q.r6 (h := ?_); repeat' (first | exact Q.r0 | refine Q.r1 ?_ ?_ | refine Q.r2 ?_ | exact Q.r7 | refine Q.r3 ?_ | refine Q.r4 ?_ | refine Q.r5 ?_))
                · rw [if_neg h7]
                  refine ⟨?_⟩; refine Spec.ofR (h := fun F w0 => ?_)
                  repeat' ((conv => whnf); first | refine Q.E ?_ | (refine Stk.both (fun hb => ?_) (fun hb => ?_) <;> (try simp only [lE] at hb))); all_goals (conv => whnf)
                  (refine Q.r6 (h := ?_); repeat' (first | exact Q.r0 | refine Q.r1 ?_ ?_ | refine Q.r2 ?_ | exact Q.r7 | refine Q.r3 ?_ | refine Q.r4 ?_ | refine Q.r5 ?_))
theorem noByte_eq {p : ByteArray} : noByte = p ↔ p = noByte := ⟨fun h => h.symm, fun h => h.symm⟩
theorem noByte_size {p : ByteArray} (h : p = noByte) : p.size ≤ 300 := by subst h; decide
theorem msgB_eq {m : Msg} (h : 1 ≤ m.kind ∧ m.kind ≤ 10) : msgB m = (decide (1 ≤ m.fr ∧ m.fr ≤ 9) && decide (bareM m = m) && mayM m) := by
  obtain ⟨kind, fr, id, t, bal, abal, phase, quorum, payload, lo, hi, atts, marks, done⟩ := m
  simp only at h
  have hs := noByte_size (p := payload)
  have : kind = 1 ∨ kind = 2 ∨ kind = 3 ∨ kind = 4 ∨ kind = 5 ∨ kind = 6 ∨ kind = 7 ∨ kind = 8 ∨ kind = 9 ∨ kind = 10 := by omega
  rcases this with h | h | h | h | h | h | h | h | h | h
  all_goals subst h
  all_goals rw [Bool.eq_iff_iff]
  all_goals simp [msgB, bareM, mayM, kI, kT, kL, kC, kA, kP, inN, carB, tellB, timeB, msg_eq, noByte_eq]
  all_goals generalize payload.size = z at hs ⊢
  all_goals generalize idB id = A
  all_goals try generalize prmB _ = E
  all_goals generalize (payload = noByte) = B at hs ⊢
  all_goals generalize (atts = []) = C
  all_goals generalize (marks = []) = D
  all_goals try generalize (E = true) = E'
  all_goals clear h
  all_goals (cases A <;> (by_cases hB : B) <;> (by_cases hC : C) <;> (by_cases hD : D) <;> simp only [hB, hC, hD, Bool.false_eq_true, true_and, and_true, false_and, and_false, true_implies, false_implies, iff_self] at hs ⊢)
  all_goals (try split)
  all_goals (try omega)
  all_goals (by_cases hE : E')
  all_goals simp only [hE, true_and, and_true, false_and, and_false, true_implies, false_implies, iff_self, implies_true]
  all_goals omega
abbrev PV.fault : PV := .ifc 245 .any
instance fn30 : HasSpec Tryz.prog 180 [.v (.string ⟨#[109, 115, 103]⟩), PV.int 30] PV.fault := failnew_spec _ _ (by decide)
instance fn2 : HasSpec Tryz.prog 180 [.v (.string ⟨#[109, 115, 103]⟩), PV.int 2] PV.fault := failnew_spec _ _ (by decide)
theorem msg_bad {m : Msg} (h : ¬ (1 ≤ m.kind ∧ m.kind ≤ 10)) : msgB m = false := by unfold msgB; rw [decide_eq_false h]; rfl
theorem mck_no {m : Msg} (h : msgB m = false) : HasSpec Tryz.prog 90 [.agg m.cs] PV.fault := by
  by_cases hk : 1 ≤ m.kind ∧ m.kind ≤ 10
  · have hn : tst (nameS m.kind = ⟨#[]⟩) = false := tst_false.2 (name_some hk)
    have jb := bare_spec m hk
    have js := msgsame_spec (bareM m) m
    rw [msgB_eq hk] at h
    by_cases hf : 1 ≤ m.fr ∧ m.fr ≤ 9
    · rw [decide_eq_true hf, Bool.true_and] at h
      generalize bareM m = b at *
      cases hs : decide (b = m) with
      | false =>
        rw [hs] at js
        refine ⟨?_⟩; refine Spec.ofR (h := fun F w0 => ?_)
        repeat' ((conv => whnf); first | refine Q.E ?_ | (refine Stk.both (fun hb => ?_) (fun hb => ?_) <;> (try simp only [lE] at hb))); all_goals (conv => whnf)
        (refine Q.r6 (h := ?_); repeat' (first | exact Q.r0 | refine Q.r1 ?_ ?_ | refine Q.r2 ?_ | exact Q.r7 | refine Q.r3 ?_ | refine Q.r4 ?_ | refine Q.r5 ?_))
      | true =>
        rw [hs] at js
        rw [hs, Bool.true_and] at h
        refine ⟨?_⟩; refine Spec.ofR (h := fun F w0 => ?_)
        repeat' ((conv => whnf); first | refine Q.E ?_ | (refine Stk.both (fun hb => ?_) (fun hb => ?_) <;> (try simp only [lE] at hb))); all_goals (conv => whnf)
        (refine Q.r6 (h := ?_); repeat' (first | exact Q.r0 | refine Q.r1 ?_ ?_ | refine Q.r2 ?_ | exact Q.r7 | refine Q.r3 ?_ | refine Q.r4 ?_ | refine Q.r5 ?_))
    · refine ⟨?_⟩; refine Spec.ofR (h := fun F w0 => ?_)
      repeat' ((conv => whnf); first | refine Q.E ?_ | (refine Stk.both (fun hb => ?_) (fun hb => ?_) <;> (try simp only [lE] at hb))); all_goals (conv => whnf)
      all_goals first | (exfalso; omega) | (refine Q.r6 (h := ?_); repeat' (first | exact Q.r0 | refine Q.r1 ?_ ?_ | refine Q.r2 ?_ | exact Q.r7 | refine Q.r3 ?_ | refine Q.r4 ?_ | refine Q.r5 ?_))
  · have hn : tst (nameS m.kind = ⟨#[]⟩) = true := tst_true.2 (name_empty hk)
    refine ⟨?_⟩; refine Spec.ofR (h := fun F w0 => ?_)
    repeat' ((conv => whnf); first | refine Q.E ?_ | (refine Stk.both (fun hb => ?_) (fun hb => ?_) <;> (try simp only [lE] at hb))); all_goals (conv => whnf)
    (refine Q.r6 (h := ?_); repeat' (first | exact Q.r0 | refine Q.r1 ?_ ?_ | refine Q.r2 ?_ | exact Q.r7 | refine Q.r3 ?_ | refine Q.r4 ?_ | refine Q.r5 ?_))
theorem mck_yes {m : Msg} (h : msgB m = true) : HasSpec Tryz.prog 90 [.agg m.cs] (.v .nilIface) := by
  by_cases hk : 1 ≤ m.kind ∧ m.kind ≤ 10
  · have hn : tst (nameS m.kind = ⟨#[]⟩) = false := tst_false.2 (name_some hk)
    have jb := bare_spec m hk
    have js := msgsame_spec (bareM m) m
    rw [msgB_eq hk, Bool.and_eq_true, Bool.and_eq_true, decide_eq_true_iff] at h
    obtain ⟨⟨hf, hs⟩, hm⟩ := h
    rw [hs] at js
    generalize bareM m = b at *
    refine ⟨?_⟩; refine Spec.ofR (h := fun F w0 => ?_)
    repeat' ((conv => whnf); first | refine Q.E ?_ | (refine Stk.both (fun hb => ?_) (fun hb => ?_) <;> (try simp only [lE] at hb))); all_goals (conv => whnf)
    (refine Q.r6 (h := ?_); repeat' (first | exact Q.r0 | refine Q.r1 ?_ ?_ | refine Q.r2 ?_ | exact Q.r7 | refine Q.r3 ?_ | refine Q.r4 ?_ | refine Q.r5 ?_))
  · rw [msg_bad hk] at h
    cases h
end Go.Proofs.YtbjepdfnmbdplaaGreat
end
section
namespace Go.Proofs.YtbjepdfnmbdplaaGreat
open Go.RowKit
set_option linter.unusedSimpArgs false
set_option linter.unusedVariables false
set_option maxRecDepth 100000
set_option maxHeartbeats 1000000
def hasL : List (List UInt8) := [[], [105, 116, 99], [105, 116], [105, 116, 98, 99], [105, 98], [105, 116, 99], [105, 98, 99], [105, 116, 98, 97], [105, 98], [105, 99], [112]]
def hasW (k : Int) : List UInt8 := if 1 ≤ k ∧ k ≤ 10 then hasL.getD k.toNat [] else []
def bytes (l : List UInt8) : ByteArray := ⟨l.toArray⟩
theorem bytes_size (l : List UInt8) : (bytes l).size = l.length := by simp [bytes, ByteArray.size]
theorem bytes_at (l : List UInt8) {i : Nat} (h : i < l.length) : (bytes l)[i]? = some l[i] := by
  have h2 : i < (bytes l).size := by rw [bytes_size]; exact h
  rw [getElem?_pos (bytes l) i h2]
  rfl
theorem hasW_len (k : Int) : (hasW k).length ≤ 4 := by
  by_cases h : 1 ≤ k ∧ k ≤ 10
  · have : k = 1 ∨ k = 2 ∨ k = 3 ∨ k = 4 ∨ k = 5 ∨ k = 6 ∨ k = 7 ∨ k = 8 ∨ k = 9 ∨ k = 10 := by omega
    rcases this with h | h | h | h | h | h | h | h | h | h <;> subst h <;> decide
  · unfold hasW
    rw [if_neg h]
    decide
instance refHas_spec (k : Int) : HasSpec Tryz.prog 210 [PV.int k] (.v (.string (bytes (hasW k)))) := by
  by_cases h : 1 ≤ k ∧ k ≤ 10
  · have : k = 1 ∨ k = 2 ∨ k = 3 ∨ k = 4 ∨ k = 5 ∨ k = 6 ∨ k = 7 ∨ k = 8 ∨ k = 9 ∨ k = 10 := by omega
    rcases this with h | h | h | h | h | h | h | h | h | h
    all_goals subst h
    all_goals refine ⟨?_⟩; refine Spec.ofR (h := fun F w0 => ?_)
    all_goals repeat' ((conv => whnf); first | refine Q.E ?_ | (refine Stk.both (fun hb => ?_) (fun hb => ?_) <;> (try simp only [lE] at hb))); all_goals (conv => whnf)
    all_goals (refine Q.r6 (h := ?_); repeat' (first | exact Q.r0 | refine Q.r1 ?_ ?_ | refine Q.r2 ?_ | exact Q.r7 | refine Q.r3 ?_ | refine Q.r4 ?_ | refine Q.r5 ?_))
  · rw [show hasW k = [] from if_neg h]
    refine ⟨?_⟩; refine Spec.ofR (h := fun F w0 => ?_)
    repeat' ((conv => whnf); first | refine Q.E ?_ | (refine Stk.both (fun hb => ?_) (fun hb => ?_) <;> (try simp only [lE] at hb))); all_goals (conv => whnf)
    all_goals first | (exfalso; omega) | (refine Q.r6 (h := ?_); repeat' (first | exact Q.r0 | refine Q.r1 ?_ ?_ | refine Q.r2 ?_ | exact Q.r7 | refine Q.r3 ?_ | refine Q.r4 ?_ | refine Q.r5 ?_))
theorem lethas_spec (k : Int) (c : UInt8) : HasSpec Tryz.prog 211 [PV.int k, .v (.int .u8 (c.toNat : Nat))] (.v (.bool ((hasW k).any fun x => decide (x = c)))) := by
  have hl := hasW_len k
  have hz : ((bytes (hasW k)).size : Int) = ((hasW k).length : Nat) := by rw [bytes_size]
  have hj := refHas_spec k
  generalize hasW k = l at *
  refine ⟨?_⟩; refine Spec.ofR (h := fun F w0 => ?_)
  repeat' ((conv => whnf); first | refine Q.E ?_ | (refine Stk.both (fun hb => ?_) (fun hb => ?_) <;> (try simp only [lE] at hb))); all_goals (conv => whnf)
  refine Stk.loop (ι := Nat) (fun i => [(1, .v (.int .u8 (c.toNat : Nat))), (5, .v (.string (bytes l))), (6, PV.int (i : Nat))]) (fun _ => []) (fun i => i ≤ l.length ∧ ∀ x ∈ l.take i, decide (x = c) = false) (fun i => l.length - i) 0 ⟨Nat.zero_le _, by simp⟩ (Weak.gc ⟨rfl, rfl, rfl, trivial⟩ trivial rfl rfl rfl) (fun i hi => ?_)
  obtain ⟨hi, hno⟩ := hi
  by_cases hlt : i < l.length
  · have hb : (bytes l)[(((i : Nat) : Int)).toNat]? = some l[i] := by rw [Int.toNat_natCast]; exact bytes_at l hlt
    by_cases hq : l[i] = c
    · rw [any_at (p := fun x => decide (x = c)) hlt (decide_eq_true hq)]
      have hq2 : tst (((l[i].toNat : Nat) : Int) = ((c.toNat : Nat) : Int)) = true := tst_true.2 (by rw [hq])
      repeat' ((conv => whnf); first | refine Q.E ?_ | (refine Stk.both (fun hb => ?_) (fun hb => ?_) <;> (try simp only [lE] at hb))); all_goals (conv => whnf)
      refine Stk.op (ok_byte rfl rfl (Int.natCast_nonneg _) hb rfl) ?_
      repeat' ((conv => whnf); first | refine Q.E ?_ | (refine Stk.both (fun hb => ?_) (fun hb => ?_) <;> (try simp only [lE] at hb))); all_goals (conv => whnf)
      (refine Q.r6 (h := ?_); repeat' (first | exact Q.r0 | refine Q.r1 ?_ ?_ | refine Q.r2 ?_ | exact Q.r7 | refine Q.r3 ?_ | refine Q.r4 ?_ | refine Q.r5 ?_))
    · have hq2 : tst (((l[i].toNat : Nat) : Int) = ((c.toNat : Nat) : Int)) = false := tst_false.2 (fun h => hq (UInt8.toNat_inj.1 (by omega)))
      repeat' ((conv => whnf); first | refine Q.E ?_ | (refine Stk.both (fun hb => ?_) (fun hb => ?_) <;> (try simp only [lE] at hb))); all_goals (conv => whnf)
      refine Stk.op (ok_byte rfl rfl (Int.natCast_nonneg _) hb rfl) ?_
      repeat' ((conv => whnf); first | refine Q.E ?_ | (refine Stk.both (fun hb => ?_) (fun hb => ?_) <;> (try simp only [lE] at hb))); all_goals (conv => whnf)
      exact ⟨i + 1, ⟨by omega, take_no (p := fun x => decide (x = c)) hlt hno (decide_eq_false hq)⟩, by omega, Weak.gc ⟨rfl, rfl, rfl, trivial⟩ trivial rfl rfl rfl⟩
  · rw [any_none (p := fun x => decide (x = c)) hlt hno]
    repeat' ((conv => whnf); first | refine Q.E ?_ | (refine Stk.both (fun hb => ?_) (fun hb => ?_) <;> (try simp only [lE] at hb))); all_goals (conv => whnf)
    (refine Q.r6 (h := ?_); repeat' (first | exact Q.r0 | refine Q.r1 ?_ ?_ | refine Q.r2 ?_ | exact Q.r7 | refine Q.r3 ?_ | refine Q.r4 ?_ | refine Q.r5 ?_))
theorem has_of {k : Int} {c : UInt8} {f : Int → Bool} (h0 : ∀ k, ¬ (1 ≤ k ∧ k ≤ 10) → f k = false) (h1 : ([1, 2, 3, 4, 5, 6, 7, 8, 9, 10] : List Int).all (fun k => ((hasW k).any fun x => decide (x = c)) == f k) = true) : ((hasW k).any fun x => decide (x = c)) = f k := by
  by_cases h : 1 ≤ k ∧ k ≤ 10
  · have hm : k ∈ ([1, 2, 3, 4, 5, 6, 7, 8, 9, 10] : List Int) := by
      have : k = 1 ∨ k = 2 ∨ k = 3 ∨ k = 4 ∨ k = 5 ∨ k = 6 ∨ k = 7 ∨ k = 8 ∨ k = 9 ∨ k = 10 := by omega
      simp
      omega
    have := List.all_eq_true.1 h1 k hm
    exact eq_of_beq this
  · rw [h0 k h, show hasW k = [] from if_neg h]
    rfl
instance haskI_spec (k : Int) : HasSpec Tryz.prog 211 [PV.int k, .v (.int .u8 105)] (.v (.bool (kI k))) := by
  have h := lethas_spec k 105
  rw [has_of (f := kI) (fun k hk => decide_eq_false (by omega)) (by decide)] at h
  exact h
instance haskT_spec (k : Int) : HasSpec Tryz.prog 211 [PV.int k, .v (.int .u8 116)] (.v (.bool (kT k))) := by
  have h := lethas_spec k 116
  rw [has_of (f := kT) (fun k hk => decide_eq_false (by omega)) (by decide)] at h
  exact h
instance haskL_spec (k : Int) : HasSpec Tryz.prog 211 [PV.int k, .v (.int .u8 98)] (.v (.bool (kL k))) := by
  have h := lethas_spec k 98
  rw [has_of (f := kL) (fun k hk => decide_eq_false (by omega)) (by decide)] at h
  exact h
instance haskC_spec (k : Int) : HasSpec Tryz.prog 211 [PV.int k, .v (.int .u8 99)] (.v (.bool (kC k))) := by
  have h := lethas_spec k 99
  rw [has_of (f := kC) (fun k hk => decide_eq_false (by omega)) (by decide)] at h
  exact h
instance haskA_spec (k : Int) : HasSpec Tryz.prog 211 [PV.int k, .v (.int .u8 97)] (.v (.bool (kA k))) := by
  have h := lethas_spec k 97
  rw [has_of (f := kA) (fun k hk => decide_eq_false (by omega)) (by decide)] at h
  exact h
instance haskP_spec (k : Int) : HasSpec Tryz.prog 211 [PV.int k, .v (.int .u8 112)] (.v (.bool (kP k))) := by
  have h := lethas_spec k 112
  rw [has_of (f := kP) (fun k hk => decide_eq_false (by omega)) (by decide)] at h
  exact h
instance in_spec (b : Bool) (n lo hi : Int) : HasSpec Tryz.prog 212 [.v (.bool b), PV.int n, PV.int lo, PV.int hi] (.v (.bool (inN b n lo hi))) := by
  cases b with
  | false =>
    rw [show inN false n lo hi = decide (n = 0) from rfl]
    refine ⟨?_⟩; refine Spec.ofR (h := fun F w0 => ?_)
    repeat' ((conv => whnf); first | refine Q.E ?_ | (refine Stk.both (fun hb => ?_) (fun hb => ?_) <;> (try simp only [lE] at hb))); all_goals (conv => whnf)
    (refine Q.r6 (h := ?_); repeat' (first | exact Q.r0 | refine Q.r1 ?_ ?_ | refine Q.r2 ?_ | exact Q.r7 | refine Q.r3 ?_ | refine Q.r4 ?_ | refine Q.r5 ?_))
    rw [tst_eq]
  | true =>
    rw [show inN true n lo hi = decide (lo ≤ n ∧ n ≤ hi) from rfl]
    by_cases h : lo ≤ n
    · refine ⟨?_⟩; refine Spec.ofR (h := fun F w0 => ?_)
      repeat' ((conv => whnf); first | refine Q.E ?_ | (refine Stk.both (fun hb => ?_) (fun hb => ?_) <;> (try simp only [lE] at hb))); all_goals (conv => whnf)
      (refine Q.r6 (h := ?_); repeat' (first | exact Q.r0 | refine Q.r1 ?_ ?_ | refine Q.r2 ?_ | exact Q.r7 | refine Q.r3 ?_ | refine Q.r4 ?_ | refine Q.r5 ?_))
      rw [tst_eq, decide_eq_decide]
      omega
    · rw [decide_eq_false (fun h2 => h h2.1)]
      refine ⟨?_⟩; refine Spec.ofR (h := fun F w0 => ?_)
      repeat' ((conv => whnf); first | refine Q.E ?_ | (refine Stk.both (fun hb => ?_) (fun hb => ?_) <;> (try simp only [lE] at hb))); all_goals (conv => whnf)
      (refine Q.r6 (h := ?_); repeat' (first | exact Q.r0 | refine Q.r1 ?_ ?_ | refine Q.r2 ?_ | exact Q.r7 | refine Q.r3 ?_ | refine Q.r4 ?_ | refine Q.r5 ?_))
def prmF (m : Msg) : Prop := 0 ≤ m.lo ∧ m.lo ≤ m.hi ∧ m.hi ≤ 1000000 ∧ 0 ≤ m.done ∧ m.done ≤ 1000000 ∧ m.marks.length ≤ 9 ∧ m.atts.length ≤ 200
theorem prm_no1 {m : Msg} (h : ¬ prmF m) : prmB m = false := by unfold prmB; rw [decide_eq_false (by unfold prmF at h; exact h)]; rfl
theorem prm_no2 {m : Msg} {i : Nat} (hi : i < m.marks.length) (h : noneB m.marks[i] = true) : prmB m = false := by unfold prmB; rw [any_at (p := noneB) hi h]; simp
theorem prm_no3 {m : Msg} (h : attB m.lo m.hi m.atts = false) : prmB m = false := by unfold prmB; rw [h]; simp
theorem prm_yes {m : Msg} (h : prmF m) (h2 : ∀ x ∈ m.marks, noneB x = false) (h3 : attB m.lo m.hi m.atts = true) : prmB m = true := by unfold prmB; rw [decide_eq_true (by unfold prmF at h; exact h), any_all h2, h3]; rfl
instance refprm_spec (m : Msg) : HasSpec Tryz.prog 213 [.agg m.cs] (.v (.bool (prmB m))) := by
  by_cases hf : prmF m
  · have hff := hf
    unfold prmF at hf
    refine ⟨?_⟩; refine Spec.ofR (h := fun F w0 => ?_)
    repeat' ((conv => whnf); first | refine Q.E ?_ | (refine Stk.both (fun hb => ?_) (fun hb => ?_) <;> (try simp only [lE] at hb))); all_goals (conv => whnf)
    refine Stk.loop (ι := Nat) (fun i => [(1, .lp 1 0), (3, PV.int (i : Nat))]) (fun i => [(1, .box m.cs)]) (fun i => i ≤ m.marks.length ∧ ∀ x ∈ m.marks.take i, noneB x = false) (fun i => m.marks.length - i) 0 ⟨Nat.zero_le _, by simp⟩ (Weak.gc ⟨rfl, rfl, trivial⟩ ⟨rfl, trivial⟩ rfl rfl rfl) (fun i hi => ?_)
    obtain ⟨hi, hno⟩ := hi
    by_cases hlt : i < m.marks.length
    · cases hq : noneB m.marks[i] with
      | true =>
        have h2 : m.marks[i] < 0 ∨ 1000000 < m.marks[i] := by simpa [noneB] using hq
        rw [prm_no2 hlt hq]
        repeat' ((conv => whnf); first | refine Q.E ?_ | (refine Stk.both (fun hb => ?_) (fun hb => ?_) <;> (try simp only [lE] at hb))); all_goals (conv => whnf)
        all_goals first | (exfalso; omega) | (refine Q.r6 (h := ?_); repeat' (first | exact Q.r0 | refine Q.r1 ?_ ?_ | refine Q.r2 ?_ | exact Q.r7 | refine Q.r3 ?_ | refine Q.r4 ?_ | refine Q.r5 ?_))
      | false =>
        have h2 := noneB_p.1 hq
        repeat' ((conv => whnf); first | refine Q.E ?_ | (refine Stk.both (fun hb => ?_) (fun hb => ?_) <;> (try simp only [lE] at hb))); all_goals (conv => whnf)
        exact ⟨i + 1, ⟨by omega, take_no hlt hno hq⟩, by omega, Weak.gc ⟨rfl, rfl, trivial⟩ ⟨rfl, trivial⟩ rfl rfl rfl⟩
    · have hall := take_all (p := noneB) (by omega) hno
      repeat' ((conv => whnf); first | refine Q.E ?_ | (refine Stk.both (fun hb => ?_) (fun hb => ?_) <;> (try simp only [lE] at hb))); all_goals (conv => whnf)
      refine Stk.loop (ι := Nat) (fun i => [(1, .lp 1 0), (4, PV.int (i : Nat))]) (fun i => [(1, .box m.cs)]) (fun i => i ≤ m.atts.length ∧ prefTo (attP m.lo m.hi) m.atts i = true) (fun i => m.atts.length - i) 0 ⟨Nat.zero_le _, rfl⟩ (Weak.gc ⟨rfl, rfl, trivial⟩ ⟨rfl, trivial⟩ rfl rfl rfl) (fun i hi' => ?_)
      obtain ⟨hi', hp⟩ := hi'
      have hb := (att_last hi' hp).1
      by_cases hlt : i < m.atts.length
      · have jsp := split_spec m.atts[i].id
        have hpi : ((i : Int) - 1).toNat < m.atts.length := by omega
        have hv : (0 < i → lastI Att.t m.lo (m.atts.take i) = (m.atts[((i : Int) - 1).toNat]'hpi).t) ∧ (i = 0 → lastI Att.t m.lo (m.atts.take i) = m.lo) := by
          refine ⟨fun h0 => ?_, fun h0 => by subst h0; rfl⟩
          rw [lastI_pos Att.t m.lo hi' h0]
          congr 2
          omega
        cases hid : idB m.atts[i].id with
        | false =>
          have h2 := self_none hid
          rw [prm_no3 (pref_bad hlt (attP_f.2 fun h => by rw [hid] at h; exact absurd h.2.2.2 (by simp)))]
          repeat' ((conv => whnf); first | refine Q.E ?_ | (refine Stk.both (fun hb => ?_) (fun hb => ?_) <;> (try simp only [lE] at hb))); all_goals (conv => whnf)
          all_goals (refine Q.r6 (h := ?_); repeat' (first | exact Q.r0 | refine Q.r1 ?_ ?_ | refine Q.r2 ?_ | exact Q.r7 | refine Q.r3 ?_ | refine Q.r4 ?_ | refine Q.r5 ?_))
        | true =>
          have h2 := self_pos hid
          cases hq : attP m.lo m.hi (m.atts.take i) m.atts[i] with
          | true =>
            have h := attP_iff.1 hq
            have hp2 := prefTo_next hlt hp hq
            by_cases h0 : 0 < i
            · have h1 := hv.1 h0
              clear hv
              repeat' ((conv => whnf); first | refine Q.E ?_ | (refine Stk.both (fun hb => ?_) (fun hb => ?_) <;> (try simp only [lE] at hb))); all_goals (conv => whnf)
              exact ⟨i + 1, ⟨by omega, hp2⟩, by omega, Weak.gc ⟨rfl, rfl, trivial⟩ ⟨rfl, trivial⟩ rfl rfl rfl⟩
            · have h1 := hv.2 (by omega)
              clear hv
              repeat' ((conv => whnf); first | refine Q.E ?_ | (refine Stk.both (fun hb => ?_) (fun hb => ?_) <;> (try simp only [lE] at hb))); all_goals (conv => whnf)
              exact ⟨i + 1, ⟨by omega, hp2⟩, by omega, Weak.gc ⟨rfl, rfl, trivial⟩ ⟨rfl, trivial⟩ rfl rfl rfl⟩
          | false =>
            have h := attP_f.1 hq
            rw [prm_no3 (pref_bad hlt hq)]
            by_cases h0 : 0 < i
            · have h1 := hv.1 h0
              clear hv
              repeat' ((conv => whnf); first | refine Q.E ?_ | (refine Stk.both (fun hb => ?_) (fun hb => ?_) <;> (try simp only [lE] at hb))); all_goals (conv => whnf)
              all_goals first | (exact absurd ⟨by omega, by omega, by omega, hid⟩ h) | (refine Q.r6 (h := ?_); repeat' (first | exact Q.r0 | refine Q.r1 ?_ ?_ | refine Q.r2 ?_ | exact Q.r7 | refine Q.r3 ?_ | refine Q.r4 ?_ | refine Q.r5 ?_))
            · have h1 := hv.2 (by omega)
              clear hv
              repeat' ((conv => whnf); first | refine Q.E ?_ | (refine Stk.both (fun hb => ?_) (fun hb => ?_) <;> (try simp only [lE] at hb))); all_goals (conv => whnf)
              all_goals first | (exact absurd ⟨by omega, by omega, by omega, hid⟩ h) | (refine Q.r6 (h := ?_); repeat' (first | exact Q.r0 | refine Q.r1 ?_ ?_ | refine Q.r2 ?_ | exact Q.r7 | refine Q.r3 ?_ | refine Q.r4 ?_ | refine Q.r5 ?_))
      · rw [prm_yes hff hall (pref_end (by omega) hi' hp)]
        repeat' ((conv => whnf); first | refine Q.E ?_ | (refine Stk.both (fun hb => ?_) (fun hb => ?_) <;> (try simp only [lE] at hb))); all_goals (conv => whnf)
        (refine Q.r6 (h := ?_); repeat' (first | exact Q.r0 | refine Q.r1 ?_ ?_ | refine Q.r2 ?_ | exact Q.r7 | refine Q.r3 ?_ | refine Q.r4 ?_ | refine Q.r5 ?_))
  · rw [prm_no1 hf]
    unfold prmF at hf
    refine ⟨?_⟩; refine Spec.ofR (h := fun F w0 => ?_)
    repeat' ((conv => whnf); first | refine Q.E ?_ | (refine Stk.both (fun hb => ?_) (fun hb => ?_) <;> (try simp only [lE] at hb))); all_goals (conv => whnf)
    all_goals first | (exfalso; omega) | (refine Q.r6 (h := ?_); repeat' (first | exact Q.r0 | refine Q.r1 ?_ ?_ | refine Q.r2 ?_ | exact Q.r7 | refine Q.r3 ?_ | refine Q.r4 ?_ | refine Q.r5 ?_))
end Go.Proofs.YtbjepdfnmbdplaaGreat
end
section
namespace Go.Proofs.YtbjepdfnmbdplaaGreat
open Go.RowKit
set_option linter.unusedSimpArgs false
set_option linter.unusedVariables false
set_option maxRecDepth 100000
set_option maxHeartbeats 8000000
theorem has_empty {k : Int} (h : ¬ (1 ≤ k ∧ k ≤ 10)) : bytes (hasW k) = ⟨#[]⟩ := by rw [show hasW k = [] from if_neg h]; rfl
theorem has_some {k : Int} (h : 1 ≤ k ∧ k ≤ 10) : bytes (hasW k) ≠ ⟨#[]⟩ := by
  have : k = 1 ∨ k = 2 ∨ k = 3 ∨ k = 4 ∨ k = 5 ∨ k = 6 ∨ k = 7 ∨ k = 8 ∨ k = 9 ∨ k = 10 := by omega
  rcases this with h | h | h | h | h | h | h | h | h | h <;> subst h <;> decide
def c2 (m : Msg) : Bool := if kI m.kind then idB m.id else decide (m.id = 0)
def c3 (m : Msg) : Bool := inN (kT m.kind) m.t 1 1000000
def c4 (m : Msg) : Bool := inN (kL m.kind) m.bal 1 1000000
def c5 (m : Msg) : Bool := inN (kC m.kind) m.quorum 1 511
def c7 (m : Msg) : Bool := kC m.kind || decide (m.payload = noByte)
def c8 (m : Msg) : Bool := if kA m.kind then decide (0 ≤ m.abal ∧ m.abal < m.bal ∧ 1 ≤ m.phase ∧ m.phase ≤ 4 ∧ (0 < m.abal ∨ 3 ≤ m.phase)) else decide (m.abal = 0 ∧ m.phase = 0)
def c9 (m : Msg) : Bool := if kP m.kind then prmB m else decide (m.lo = 0 ∧ m.hi = 0 ∧ m.done = 0 ∧ m.atts = [] ∧ m.marks = [])
theorem msgB_c (m : Msg) : msgB m = (decide (1 ≤ m.kind ∧ m.kind ≤ 10) && (decide (1 ≤ m.fr ∧ m.fr ≤ 9) && c2 m && c3 m && c4 m && c5 m && decide (m.payload.size ≤ 300) && c7 m && c8 m && c9 m)) := rfl
theorem len0 {α : Type} {l : List α} : (l.length : Int) = 0 ↔ l = [] := by
  rw [← List.length_eq_zero_iff]
  omega
theorem kAP (k : Int) : kA k = true → kP k = false := by
  unfold kA kP
  intro h
  rw [decide_eq_true_iff] at h
  exact decide_eq_false (by omega)
theorem c2_fact (m : Msg) : ((tst (0 < selfI m.id) == kI m.kind) && (tst (0 < selfI m.id) || tst (m.id = 0))) = c2 m := by
  unfold c2
  cases hid : idB m.id with
  | true =>
    have h := idB_iff.1 hid
    have h2 := self_pos hid
    rw [tst_true.2 (show 0 < selfI m.id by omega), tst_false.2 (show ¬ m.id = 0 by omega), decide_eq_false (show ¬ m.id = 0 by omega)]
    cases kI m.kind <;> rfl
  | false =>
    have h2 := self_none hid
    rw [tst_false.2 (show ¬ 0 < selfI m.id by omega), tst_eq]
    cases kI m.kind <;> simp
theorem nc1 {m : Msg} (h : ¬ (1 ≤ m.fr ∧ m.fr ≤ 9)) : msgB m = false := by rw [msgB_c, decide_eq_false h]; simp
theorem nc2 {m : Msg} (h : c2 m = false) : msgB m = false := by rw [msgB_c, h]; simp
theorem nc3 {m : Msg} (h : inN (kT m.kind) m.t 1 1000000 = false) : msgB m = false := by rw [msgB_c, show c3 m = false from h]; simp
theorem nc4 {m : Msg} (h : inN (kL m.kind) m.bal 1 1000000 = false) : msgB m = false := by rw [msgB_c, show c4 m = false from h]; simp
theorem nc5 {m : Msg} (h : inN (kC m.kind) m.quorum 1 511 = false) : msgB m = false := by rw [msgB_c, show c5 m = false from h]; simp
theorem nc6 {m : Msg} (h : ¬ m.payload.size ≤ 300) : msgB m = false := by rw [msgB_c, decide_eq_false h]; simp
theorem nc7 {m : Msg} (h : c7 m = false) : msgB m = false := by rw [msgB_c, h]; simp
theorem nc8 {m : Msg} (h : c8 m = false) : msgB m = false := by rw [msgB_c, h]; simp
theorem nc9 {m : Msg} (h : c9 m = false) : msgB m = false := by rw [msgB_c, h]; simp
theorem yc {m : Msg} (hk : 1 ≤ m.kind ∧ m.kind ≤ 10) (h1 : 1 ≤ m.fr ∧ m.fr ≤ 9) (h2 : c2 m = true) (h3 : inN (kT m.kind) m.t 1 1000000 = true) (h4 : inN (kL m.kind) m.bal 1 1000000 = true) (h5 : inN (kC m.kind) m.quorum 1 511 = true) (h6 : m.payload.size ≤ 300) (h7 : c7 m = true) (h8 : c8 m = true) (h9 : c9 m = true) : msgB m = true := by
  rw [msgB_c, decide_eq_true hk, decide_eq_true h1, h2, show c3 m = true from h3, show c4 m = true from h4, show c5 m = true from h5, decide_eq_true h6, h7, h8, h9]
  rfl
instance refmsgcheck_spec (m : Msg) : HasSpec Tryz.prog 134 [.agg m.cs] (PV.int (if 1 ≤ m.kind ∧ m.kind ≤ 10 then errI (msgB m) 2 else 30)) := by
  by_cases hk : 1 ≤ m.kind ∧ m.kind ≤ 10
  · rw [if_pos hk]
    have hn : tst (bytes (hasW m.kind) = ⟨#[]⟩) = false := tst_false.2 (has_some hk)
    have hfact := c2_fact m
    by_cases h1 : 1 ≤ m.fr ∧ m.fr ≤ 9
    · cases he1 : (tst (0 < selfI m.id) == kI m.kind) with
      | false =>
        rw [he1, Bool.false_and] at hfact
        rw [nc2 hfact.symm]
        refine ⟨?_⟩; refine Spec.ofR (h := fun F w0 => ?_)
        repeat' ((conv => whnf); first | refine Q.E ?_ | (refine Stk.both (fun hb => ?_) (fun hb => ?_) <;> (try simp only [lE] at hb))); all_goals (conv => whnf)
        all_goals first | (exfalso; omega) | (refine Q.r6 (h := ?_); repeat' (first | exact Q.r0 | refine Q.r1 ?_ ?_ | refine Q.r2 ?_ | exact Q.r7 | refine Q.r3 ?_ | refine Q.r4 ?_ | refine Q.r5 ?_))
      | true =>
        by_cases he2 : 0 < selfI m.id ∨ m.id = 0
        · have h2 : c2 m = true := by
            rw [← hfact, he1, Bool.true_and, Bool.or_eq_true, tst_true, tst_true]
            exact he2
          cases h3 : inN (kT m.kind) m.t 1 1000000 with
          | false =>
            rw [nc3 h3]
            refine ⟨?_⟩; refine Spec.ofR (h := fun F w0 => ?_)
            repeat' ((conv => whnf); first | refine Q.E ?_ | (refine Stk.both (fun hb => ?_) (fun hb => ?_) <;> (try simp only [lE] at hb))); all_goals (conv => whnf)
            all_goals first | (exfalso; omega) | (refine Q.r6 (h := ?_); repeat' (first | exact Q.r0 | refine Q.r1 ?_ ?_ | refine Q.r2 ?_ | exact Q.r7 | refine Q.r3 ?_ | refine Q.r4 ?_ | refine Q.r5 ?_))
          | true =>
            cases h4 : inN (kL m.kind) m.bal 1 1000000 with
            | false =>
              rw [nc4 h4]
              refine ⟨?_⟩; refine Spec.ofR (h := fun F w0 => ?_)
              repeat' ((conv => whnf); first | refine Q.E ?_ | (refine Stk.both (fun hb => ?_) (fun hb => ?_) <;> (try simp only [lE] at hb))); all_goals (conv => whnf)
              all_goals first | (exfalso; omega) | (refine Q.r6 (h := ?_); repeat' (first | exact Q.r0 | refine Q.r1 ?_ ?_ | refine Q.r2 ?_ | exact Q.r7 | refine Q.r3 ?_ | refine Q.r4 ?_ | refine Q.r5 ?_))
            | true =>
              cases h5 : inN (kC m.kind) m.quorum 1 511 with
              | false =>
                rw [nc5 h5]
                refine ⟨?_⟩; refine Spec.ofR (h := fun F w0 => ?_)
                repeat' ((conv => whnf); first | refine Q.E ?_ | (refine Stk.both (fun hb => ?_) (fun hb => ?_) <;> (try simp only [lE] at hb))); all_goals (conv => whnf)
                all_goals first | (exfalso; omega) | (refine Q.r6 (h := ?_); repeat' (first | exact Q.r0 | refine Q.r1 ?_ ?_ | refine Q.r2 ?_ | exact Q.r7 | refine Q.r3 ?_ | refine Q.r4 ?_ | refine Q.r5 ?_))
              | true =>
                by_cases h6 : m.payload.size ≤ 300
                · cases h7 : c7 m with
                  | false =>
                    rw [nc7 h7]
                    unfold c7 at h7
                    rw [Bool.or_eq_false_iff, decide_eq_false_iff_not] at h7
                    have h7a := h7.1
                    have h7b : tst (m.payload = ⟨#[]⟩) = false := tst_false.2 h7.2
                    refine ⟨?_⟩; refine Spec.ofR (h := fun F w0 => ?_)
                    repeat' ((conv => whnf); first | refine Q.E ?_ | (refine Stk.both (fun hb => ?_) (fun hb => ?_) <;> (try simp only [lE] at hb))); all_goals (conv => whnf)
                    all_goals first | (exfalso; omega) | (refine Q.r6 (h := ?_); repeat' (first | exact Q.r0 | refine Q.r1 ?_ ?_ | refine Q.r2 ?_ | exact Q.r7 | refine Q.r3 ?_ | refine Q.r4 ?_ | refine Q.r5 ?_))
                  | true =>
                    have h77 : kC m.kind = true ∨ kC m.kind = false ∧ tst (m.payload = ⟨#[]⟩) = true := by
                      have h := h7
                      unfold c7 at h
                      rw [Bool.or_eq_true, decide_eq_true_iff] at h
                      cases hC : kC m.kind with
                      | true => exact .inl rfl
                      | false =>
                        rw [hC] at h
                        exact .inr ⟨rfl, tst_true.2 (h.resolve_left (by simp))⟩
                    cases hA : kA m.kind with
                    | true =>
                      have hP := kAP m.kind hA
                      have e8 : c8 m = decide (0 ≤ m.abal ∧ m.abal < m.bal ∧ 1 ≤ m.phase ∧ m.phase ≤ 4 ∧ (0 < m.abal ∨ 3 ≤ m.phase)) := by unfold c8; rw [hA]; rfl
                      have e9 : c9 m = decide (m.lo = 0 ∧ m.hi = 0 ∧ m.done = 0 ∧ m.atts = [] ∧ m.marks = []) := by unfold c9; rw [hP]; rfl
                      by_cases h8 : 0 ≤ m.abal ∧ m.abal < m.bal ∧ 1 ≤ m.phase ∧ m.phase ≤ 4 ∧ (0 < m.abal ∨ 3 ≤ m.phase)
                      · rw [decide_eq_true h8] at e8
                        by_cases h9 : m.lo = 0 ∧ m.hi = 0 ∧ m.done = 0 ∧ (m.atts.length : Int) = 0 ∧ (m.marks.length : Int) = 0
                        · rw [decide_eq_true ⟨h9.1, h9.2.1, h9.2.2.1, len0.1 h9.2.2.2.1, len0.1 h9.2.2.2.2⟩] at e9
                          rw [yc hk h1 h2 h3 h4 h5 h6 h7 e8 e9]
                          rcases h77 with h77 | ⟨h77, h78⟩
                          all_goals refine ⟨?_⟩; refine Spec.ofR (h := fun F w0 => ?_)
                          all_goals repeat' ((conv => whnf); first | refine Q.E ?_ | (refine Stk.both (fun hb => ?_) (fun hb => ?_) <;> (try simp only [lE] at hb))); all_goals (conv => whnf)
                          all_goals first | (exfalso; omega) | (refine Q.r6 (h := ?_); repeat' (first | exact Q.r0 | refine Q.r1 ?_ ?_ | refine Q.r2 ?_ | exact Q.r7 | refine Q.r3 ?_ | refine Q.r4 ?_ | refine Q.r5 ?_))
                        · rw [decide_eq_false (fun h => h9 ⟨h.1, h.2.1, h.2.2.1, len0.2 h.2.2.2.1, len0.2 h.2.2.2.2⟩)] at e9
                          rw [nc9 e9]
                          rcases h77 with h77 | ⟨h77, h78⟩
                          all_goals refine ⟨?_⟩; refine Spec.ofR (h := fun F w0 => ?_)
                          all_goals repeat' ((conv => whnf); first | refine Q.E ?_ | (refine Stk.both (fun hb => ?_) (fun hb => ?_) <;> (try simp only [lE] at hb))); all_goals (conv => whnf)
                          all_goals first | (exfalso; omega) | (refine Q.r6 (h := ?_); repeat' (first | exact Q.r0 | refine Q.r1 ?_ ?_ | refine Q.r2 ?_ | exact Q.r7 | refine Q.r3 ?_ | refine Q.r4 ?_ | refine Q.r5 ?_))
                      · rw [decide_eq_false h8] at e8
                        rw [nc8 e8]
                        rcases h77 with h77 | ⟨h77, h78⟩
                        all_goals refine ⟨?_⟩; refine Spec.ofR (h := fun F w0 => ?_)
                        all_goals repeat' ((conv => whnf); first | refine Q.E ?_ | (refine Stk.both (fun hb => ?_) (fun hb => ?_) <;> (try simp only [lE] at hb))); all_goals (conv => whnf)
                        all_goals first | (exfalso; omega) | (refine Q.r6 (h := ?_); repeat' (first | exact Q.r0 | refine Q.r1 ?_ ?_ | refine Q.r2 ?_ | exact Q.r7 | refine Q.r3 ?_ | refine Q.r4 ?_ | refine Q.r5 ?_))
                    | false =>
                      have e8 : c8 m = decide (m.abal = 0 ∧ m.phase = 0) := by unfold c8; rw [hA]; rfl
                      by_cases h8 : m.abal = 0 ∧ m.phase = 0
                      · rw [decide_eq_true h8] at e8
                        cases hP : kP m.kind with
                        | true =>
                          have e9 : c9 m = prmB m := by unfold c9; rw [hP]; rfl
                          cases h9 : prmB m with
                          | true =>
                            rw [yc hk h1 h2 h3 h4 h5 h6 h7 e8 (e9.trans h9)]
                            rcases h77 with h77 | ⟨h77, h78⟩
                            all_goals refine ⟨?_⟩; refine Spec.ofR (h := fun F w0 => ?_)
                            all_goals repeat' ((conv => whnf); first | refine Q.E ?_ | (refine Stk.both (fun hb => ?_) (fun hb => ?_) <;> (try simp only [lE] at hb))); all_goals (conv => whnf)
                            all_goals first | (exfalso; omega) | (refine Q.r6 (h := ?_); repeat' (first | exact Q.r0 | refine Q.r1 ?_ ?_ | refine Q.r2 ?_ | exact Q.r7 | refine Q.r3 ?_ | refine Q.r4 ?_ | refine Q.r5 ?_))
                          | false =>
                            rw [nc9 (e9.trans h9)]
                            rcases h77 with h77 | ⟨h77, h78⟩
                            all_goals refine ⟨?_⟩; refine Spec.ofR (h := fun F w0 => ?_)
                            all_goals repeat' ((conv => whnf); first | refine Q.E ?_ | (refine Stk.both (fun hb => ?_) (fun hb => ?_) <;> (try simp only [lE] at hb))); all_goals (conv => whnf)
                            all_goals first | (exfalso; omega) | (refine Q.r6 (h := ?_); repeat' (first | exact Q.r0 | refine Q.r1 ?_ ?_ | refine Q.r2 ?_ | exact Q.r7 | refine Q.r3 ?_ | refine Q.r4 ?_ | refine Q.r5 ?_))
                        | false =>
                          have e9 : c9 m = decide (m.lo = 0 ∧ m.hi = 0 ∧ m.done = 0 ∧ m.atts = [] ∧ m.marks = []) := by unfold c9; rw [hP]; rfl
                          by_cases h9 : m.lo = 0 ∧ m.hi = 0 ∧ m.done = 0 ∧ (m.atts.length : Int) = 0 ∧ (m.marks.length : Int) = 0
                          · rw [decide_eq_true ⟨h9.1, h9.2.1, h9.2.2.1, len0.1 h9.2.2.2.1, len0.1 h9.2.2.2.2⟩] at e9
                            rw [yc hk h1 h2 h3 h4 h5 h6 h7 e8 e9]
                            rcases h77 with h77 | ⟨h77, h78⟩
                            all_goals refine ⟨?_⟩; refine Spec.ofR (h := fun F w0 => ?_)
                            all_goals repeat' ((conv => whnf); first | refine Q.E ?_ | (refine Stk.both (fun hb => ?_) (fun hb => ?_) <;> (try simp only [lE] at hb))); all_goals (conv => whnf)
                            all_goals first | (exfalso; omega) | (refine Q.r6 (h := ?_); repeat' (first | exact Q.r0 | refine Q.r1 ?_ ?_ | refine Q.r2 ?_ | exact Q.r7 | refine Q.r3 ?_ | refine Q.r4 ?_ | refine Q.r5 ?_))
                          · rw [decide_eq_false (fun h => h9 ⟨h.1, h.2.1, h.2.2.1, len0.2 h.2.2.2.1, len0.2 h.2.2.2.2⟩)] at e9
                            rw [nc9 e9]
                            rcases h77 with h77 | ⟨h77, h78⟩
                            all_goals refine ⟨?_⟩; refine Spec.ofR (h := fun F w0 => ?_)
                            all_goals repeat' ((conv => whnf); first | refine Q.E ?_ | (refine Stk.both (fun hb => ?_) (fun hb => ?_) <;> (try simp only [lE] at hb))); all_goals (conv => whnf)
                            all_goals first | (exfalso; omega) | (refine Q.r6 (h := ?_); repeat' (first | exact Q.r0 | refine Q.r1 ?_ ?_ | refine Q.r2 ?_ | exact Q.r7 | refine Q.r3 ?_ | refine Q.r4 ?_ | refine Q.r5 ?_))
                      · rw [decide_eq_false h8] at e8
                        rw [nc8 e8]
                        rcases h77 with h77 | ⟨h77, h78⟩
                        all_goals refine ⟨?_⟩; refine Spec.ofR (h := fun F w0 => ?_)
                        all_goals repeat' ((conv => whnf); first | refine Q.E ?_ | (refine Stk.both (fun hb => ?_) (fun hb => ?_) <;> (try simp only [lE] at hb))); all_goals (conv => whnf)
                        all_goals first | (exfalso; omega) | (refine Q.r6 (h := ?_); repeat' (first | exact Q.r0 | refine Q.r1 ?_ ?_ | refine Q.r2 ?_ | exact Q.r7 | refine Q.r3 ?_ | refine Q.r4 ?_ | refine Q.r5 ?_))
                · rw [nc6 h6]
                  refine ⟨?_⟩; refine Spec.ofR (h := fun F w0 => ?_)
                  repeat' ((conv => whnf); first | refine Q.E ?_ | (refine Stk.both (fun hb => ?_) (fun hb => ?_) <;> (try simp only [lE] at hb))); all_goals (conv => whnf)
                  all_goals first | (exfalso; omega) | (refine Q.r6 (h := ?_); repeat' (first | exact Q.r0 | refine Q.r1 ?_ ?_ | refine Q.r2 ?_ | exact Q.r7 | refine Q.r3 ?_ | refine Q.r4 ?_ | refine Q.r5 ?_))
        · have h2 : c2 m = false := by
            rw [← hfact, he1, Bool.true_and, Bool.or_eq_false_iff, tst_false, tst_false]
            exact ⟨fun h => he2 (.inl h), fun h => he2 (.inr h)⟩
          rw [nc2 h2]
          refine ⟨?_⟩; refine Spec.ofR (h := fun F w0 => ?_)
          repeat' ((conv => whnf); first | refine Q.E ?_ | (refine Stk.both (fun hb => ?_) (fun hb => ?_) <;> (try simp only [lE] at hb))); all_goals (conv => whnf)
          all_goals first | (exfalso; omega) | (refine Q.r6 (h := ?_); repeat' (first | exact Q.r0 | refine Q.r1 ?_ ?_ | refine Q.r2 ?_ | exact Q.r7 | refine Q.r3 ?_ | refine Q.r4 ?_ | refine Q.r5 ?_))
    · rw [nc1 h1]
      refine ⟨?_⟩; refine Spec.ofR (h := fun F w0 => ?_)
      repeat' ((conv => whnf); first | refine Q.E ?_ | (refine Stk.both (fun hb => ?_) (fun hb => ?_) <;> (try simp only [lE] at hb))); all_goals (conv => whnf)
      all_goals first | (exfalso; omega) | (refine Q.r6 (h := ?_); repeat' (first | exact Q.r0 | refine Q.r1 ?_ ?_ | refine Q.r2 ?_ | exact Q.r7 | refine Q.r3 ?_ | refine Q.r4 ?_ | refine Q.r5 ?_))
  · rw [if_neg hk]
    have hn : tst (bytes (hasW m.kind) = ⟨#[]⟩) = true := tst_true.2 (has_empty hk)
    refine ⟨?_⟩; refine Spec.ofR (h := fun F w0 => ?_)
    repeat' ((conv => whnf); first | refine Q.E ?_ | (refine Stk.both (fun hb => ?_) (fun hb => ?_) <;> (try simp only [lE] at hb))); all_goals (conv => whnf)
    (refine Q.r6 (h := ?_); repeat' (first | exact Q.r0 | refine Q.r1 ?_ ?_ | refine Q.r2 ?_ | exact Q.r7 | refine Q.r3 ?_ | refine Q.r4 ?_ | refine Q.r5 ?_))
end Go.Proofs.YtbjepdfnmbdplaaGreat
end
section
namespace Go.Proofs.YtbjepdfnmbdplaaGreat
open Go.RowKit
set_option linter.unusedSimpArgs false
set_option linter.unusedVariables false
set_option maxRecDepth 100000
set_option maxHeartbeats 1000000
section
variable {P : Program} {X : XF} {w0 : World} {T : TT} {K : Exit → St → Prop} [tb : TabT P T]
theorem Stk.opDG {nt d : Nat} {env : List (Nat × PV)} {lh : List (Nat × LB)} {fs : List Fr} {op : Op} {ty : TypeId} {pos : String} {after : Array Edge} {a : Array Oper} {l : List Oper} {tl : List (List Nat × List Nat)} {p : PV} {j t : Nat} {want b : Bool} {oj : Oper} (g1 : a[j]? = some oj) (g2 : oj.dst = some t) (g3 : look t env = some (.v (.bool b))) (hbw : b = want) (h : OpOK P ⟨some d, op, ty, pos, after, none⟩ ⟨nt, env, lh⟩ p []) {ids : List Nat} (hi : (⟨nt, env, lh⟩ : St).ids ⟨some d, op, ty, pos, after, some (j, want)⟩ = ids) (k : GoR P X w0 T (.next ⟨.dops a l (([], ids) :: tl), nt, (d, p) :: env, lh, fs⟩) K) :
    Stk P X w0 T (.stop ⟨.dops a (⟨some d, op, ty, pos, after, some (j, want)⟩ :: l) tl, nt, env, lh, fs⟩) K := by
  subst hi
  exact ⟨UW.cons (o := ⟨some d, op, ty, pos, after, some (j, want)⟩) (σ := ⟨nt, env, lh⟩) (σ' := ⟨nt, (d, p) :: env, lh⟩) (x := ([], _)) (fun hr => .ok (p := p) (nb := []) (.inl ⟨oj, t, b, g1, g2, g3, by rw [hbw]; simp⟩) (.new h.unguard (.inl rfl) (newB_nil _)) hr) (k.sem tb.ok tb.mixed)⟩
end
theorem shr0 {q n : Int} (hq : 0 ≤ q ∧ q ≤ 511) (hn : 3 ≤ n ∧ n ≤ 9) : tst (q.fdiv (2 ^ min n.toNat IntKind.i64.bits) = 0) = decide (q < 2 ^ n.toNat) := by
  rw [tst_eq, decide_eq_decide, show min n.toNat IntKind.i64.bits = n.toNat from Nat.min_eq_left (by show n.toNat ≤ 64; omega), Int.fdiv_eq_ediv_of_nonneg _ (Int.le_of_lt (Int.pow_pos (by decide)))]
  have hp : (0 : Int) < 2 ^ n.toNat := Int.pow_pos (by decide)
  constructor
  · intro h
    have := Int.lt_ediv_add_one_mul_self q hp
    rw [h] at this
    omega
  · intro h
    exact Int.ediv_eq_zero_of_lt hq.1 h
theorem msg_quorum {m : Msg} (h : msgB m = true) : 0 ≤ m.quorum ∧ m.quorum ≤ 511 := by
  rw [msgB_c] at h
  simp only [Bool.and_eq_true] at h
  have h5 : c5 m = true := h.2.1.1.1.1.2
  unfold c5 inN at h5
  split at h5
  · have := of_decide_eq_true h5; omega
  · have := of_decide_eq_true h5; omega
theorem hearsB_no1 {r : Rpl} {m : Msg} (h : repB r = false) : hearsB r m = false := by unfold hearsB; rw [h]; rfl
theorem hearsB_no2 {r : Rpl} {m : Msg} (h : msgB m = false) : hearsB r m = false := by unfold hearsB; rw [h]; simp
theorem hearsB_no3 {r : Rpl} {m : Msg} (h : ¬ (m.fr ≤ r.n ∧ m.fr ≠ r.self ∧ selfI m.id ≤ r.n)) : hearsB r m = false := by
  unfold hearsB
  rw [decide_eq_false (fun h2 => h ⟨h2.1, h2.2.1, h2.2.2.1⟩)]
  simp
theorem hearsB_in {r : Rpl} {m : Msg} (h1 : repB r = true) (h2 : msgB m = true) (h : m.fr ≤ r.n ∧ m.fr ≠ r.self ∧ selfI m.id ≤ r.n) : hearsB r m = decide (m.quorum < 2 ^ r.n.toNat) := by
  unfold hearsB
  rw [h1, h2, Bool.true_and, Bool.true_and, decide_eq_decide]
  exact ⟨fun h => h.2.2.2, fun h' => ⟨h.1, h.2.1, h.2.2, h'⟩⟩
instance hears26_spec (r : Rpl) (m : Msg) : HasSpec Tryz.prog 70 [.agg r.cs, .agg m.cs] (.v (.bool (hearsB r m))) := by
  cases hr : repB r with
  | false =>
    have j1 := stbad' hr
    rw [hearsB_no1 hr]
    refine ⟨?_⟩; refine Spec.ofR (h := fun F w0 => ?_)
    repeat' ((conv => whnf); first | refine Q.E ?_ | (refine Stk.both (fun hb => ?_) (fun hb => ?_) <;> (try simp only [lE] at hb))); all_goals (conv => whnf)
    (refine Q.r6 (h := ?_); repeat' (first | exact Q.r0 | refine Q.r1 ?_ ?_ | refine Q.r2 ?_ | exact Q.r7 | refine Q.r3 ?_ | refine Q.r4 ?_ | refine Q.r5 ?_))
  | true =>
    have j1 := stok' hr
    cases hm : msgB m with
    | false =>
      have j2 := mck_no hm
      rw [hearsB_no2 hm]
      refine ⟨?_⟩; refine Spec.ofR (h := fun F w0 => ?_)
      repeat' ((conv => whnf); first | refine Q.E ?_ | (refine Stk.both (fun hb => ?_) (fun hb => ?_) <;> (try simp only [lE] at hb))); all_goals (conv => whnf)
      refine Stk.opDG rfl rfl rfl (by simp [tst_eq]) (ok_ifcNe rfl rfl) rfl ?_
      repeat' ((conv => whnf); first | refine Q.E ?_ | (refine Stk.both (fun hb => ?_) (fun hb => ?_) <;> (try simp only [lE] at hb))); all_goals (conv => whnf)
      (refine Q.r6 (h := ?_); repeat' (first | exact Q.r0 | refine Q.r1 ?_ ?_ | refine Q.r2 ?_ | exact Q.r7 | refine Q.r3 ?_ | refine Q.r4 ?_ | refine Q.r5 ?_))
    | true =>
      have j2 := mck_yes hm
      have hn := rep_nums hr
      have hq := msg_quorum hm
      by_cases h : m.fr ≤ r.n ∧ m.fr ≠ r.self ∧ selfI m.id ≤ r.n
      · rw [hearsB_in hr hm h, ← shr0 hq ⟨hn.1, hn.2.1⟩]
        refine ⟨?_⟩; refine Spec.ofR (h := fun F w0 => ?_)
        repeat' ((conv => whnf); first | refine Q.E ?_ | (refine Stk.both (fun hb => ?_) (fun hb => ?_) <;> (try simp only [lE] at hb))); all_goals (conv => whnf)
        refine Stk.opDG rfl rfl rfl (by simp [tst_eq]) (ok_nilNe rfl rfl) rfl ?_
        repeat' ((conv => whnf); first | refine Q.E ?_ | (refine Stk.both (fun hb => ?_) (fun hb => ?_) <;> (try simp only [lE] at hb))); all_goals (conv => whnf)
        (refine Q.r6 (h := ?_); repeat' (first | exact Q.r0 | refine Q.r1 ?_ ?_ | refine Q.r2 ?_ | exact Q.r7 | refine Q.r3 ?_ | refine Q.r4 ?_ | refine Q.r5 ?_))
      · rw [hearsB_no3 h]
        refine ⟨?_⟩; refine Spec.ofR (h := fun F w0 => ?_)
        repeat' ((conv => whnf); first | refine Q.E ?_ | (refine Stk.both (fun hb => ?_) (fun hb => ?_) <;> (try simp only [lE] at hb))); all_goals (conv => whnf)
        refine Stk.opDG rfl rfl rfl (by simp [tst_eq]) (ok_nilNe rfl rfl) rfl ?_
        repeat' ((conv => whnf); first | refine Q.E ?_ | (refine Stk.both (fun hb => ?_) (fun hb => ?_) <;> (try simp only [lE] at hb))); all_goals (conv => whnf)
        all_goals first | (exfalso; omega) | (refine Q.r6 (h := ?_); repeat' (first | exact Q.r0 | refine Q.r1 ?_ ?_ | refine Q.r2 ?_ | exact Q.r7 | refine Q.r3 ?_ | refine Q.r4 ?_ | refine Q.r5 ?_))
instance self26_spec (id : Int) : HasSpec Tryz.prog 135 [PV.int id] (PV.int (selfI id)) := by
  refine ⟨?_⟩; refine Spec.ofR (h := fun F w0 => ?_)
  repeat' ((conv => whnf); first | refine Q.E ?_ | (refine Stk.both (fun hb => ?_) (fun hb => ?_) <;> (try simp only [lE] at hb))); all_goals (conv => whnf)
  (refine Q.r6 (h := ?_); repeat' (first | exact Q.r0 | refine Q.r1 ?_ ?_ | refine Q.r2 ?_ | exact Q.r7 | refine Q.r3 ?_ | refine Q.r4 ?_ | refine Q.r5 ?_))
theorem list_last_all : ((List.range 512).all fun q => ([3, 4, 5, 6, 7, 8, 9] : List Nat).all fun n => decide ((listS (q : Nat) 9).getLast?.getD 0 ≤ (n : Nat)) == decide (q < 2 ^ n)) = true := by decide +kernel
theorem list_last {q n : Int} (hq : 0 ≤ q ∧ q ≤ 511) (hn : 3 ≤ n ∧ n ≤ 9) : decide ((listS q 9).getLast?.getD 0 ≤ n) = decide (q < 2 ^ n.toNat) := by
  obtain ⟨a, rfl⟩ := Int.eq_ofNat_of_zero_le hq.1
  obtain ⟨b, rfl⟩ := Int.eq_ofNat_of_zero_le (show 0 ≤ n by omega)
  have h1 := List.all_eq_true.1 list_last_all a (List.mem_range.2 (by omega))
  have hm : b ∈ ([3, 4, 5, 6, 7, 8, 9] : List Nat) := by
    have : b = 3 ∨ b = 4 ∨ b = 5 ∨ b = 6 ∨ b = 7 ∨ b = 8 ∨ b = 9 := by omega
    simp
    omega
  have h2 := eq_of_beq (List.all_eq_true.1 h1 b hm)
  rw [show ((b : Nat) : Int).toNat = b from Int.toNat_natCast b]
  refine h2.trans ?_
  rw [decide_eq_decide]
  constructor
  · intro h
    have : ((a : Nat) : Int) < ((2 ^ b : Nat) : Int) := by omega
    rwa [Int.natCast_pow] at this
  · intro h
    have : ((a : Nat) : Int) < ((2 ^ b : Nat) : Int) := by rw [Int.natCast_pow]; exact h
    omega
instance refhears26_spec (r : Rpl) (m : Msg) : HasSpec Tryz.prog 56 [.agg r.cs, .agg m.cs] (.v (.bool (hearsB r m))) := by
  have j2 := refmsgcheck_spec m
  cases hr : repB r with
  | false =>
    have j1 := rstbad' hr
    rw [hearsB_no1 hr]
    refine ⟨?_⟩; refine Spec.ofR (h := fun F w0 => ?_)
    repeat' ((conv => whnf); first | refine Q.E ?_ | (refine Stk.both (fun hb => ?_) (fun hb => ?_) <;> (try simp only [lE] at hb))); all_goals (conv => whnf)
    (refine Q.r6 (h := ?_); repeat' (first | exact Q.r0 | refine Q.r1 ?_ ?_ | refine Q.r2 ?_ | exact Q.r7 | refine Q.r3 ?_ | refine Q.r4 ?_ | refine Q.r5 ?_))
  | true =>
    have j1 := rstok' hr
    cases hm : msgB m with
    | false =>
      rw [hearsB_no2 hm]
      rw [hm] at j2
      have hne : ¬ (if 1 ≤ m.kind ∧ m.kind ≤ 10 then errI false 2 else 30) = 0 := by split <;> decide
      generalize (if 1 ≤ m.kind ∧ m.kind ≤ 10 then errI false 2 else 30) = x at *
      refine ⟨?_⟩; refine Spec.ofR (h := fun F w0 => ?_)
      repeat' ((conv => whnf); first | refine Q.E ?_ | (refine Stk.both (fun hb => ?_) (fun hb => ?_) <;> (try simp only [lE] at hb))); all_goals (conv => whnf)
      (refine Q.r6 (h := ?_); repeat' (first | exact Q.r0 | refine Q.r1 ?_ ?_ | refine Q.r2 ?_ | exact Q.r7 | refine Q.r3 ?_ | refine Q.r4 ?_ | refine Q.r5 ?_))
    | true =>
      have hk : 1 ≤ m.kind ∧ m.kind ≤ 10 := by
        rw [msgB_c, Bool.and_eq_true, decide_eq_true_iff] at hm
        exact hm.1
      rw [if_pos hk, hm] at j2
      have j3 : HasSpec Tryz.prog 134 [.agg m.cs] (PV.int 0) := j2
      clear j2
      have hn := rep_nums hr
      have hq := msg_quorum hm
      by_cases h : m.fr ≤ r.n ∧ m.fr ≠ r.self ∧ selfI m.id ≤ r.n
      · rw [hearsB_in hr hm h, ← list_last hq ⟨hn.1, hn.2.1⟩]
        have jl := reflist_spec m.quorum
        have hl9 : (listS m.quorum 9).length ≤ 9 := by
          unfold listS
          exact Nat.le_trans (List.length_filter_le _ _) (by simp)
        generalize listS m.quorum 9 = l at *
        by_cases h0 : l.length = 0
        · have hl0 : l = [] := List.eq_nil_of_length_eq_zero h0
          have hz : (l.length : Int) = 0 := by omega
          rw [show decide (l.getLast?.getD 0 ≤ r.n) = true by
            rw [hl0]
            exact decide_eq_true (by show (0 : Int) ≤ r.n; omega)]
          refine ⟨?_⟩; refine Spec.ofR (h := fun F w0 => ?_)
          repeat' ((conv => whnf); first | refine Q.E ?_ | (refine Stk.both (fun hb => ?_) (fun hb => ?_) <;> (try simp only [lE] at hb))); all_goals (conv => whnf)
          (refine Q.r6 (h := ?_); repeat' (first | exact Q.r0 | refine Q.r1 ?_ ?_ | refine Q.r2 ?_ | exact Q.r7 | refine Q.r3 ?_ | refine Q.r4 ?_ | refine Q.r5 ?_))
          all_goals (first | rfl | exact tst_true.2 (by omega) | exact tst_false.2 (by omega) | (simp [tst_eq]; done) | (simp only [Bool.not_true, Bool.not_false, Bool.and_true, Bool.true_and, Bool.and_false, Bool.false_and]; first | done | exact tst_true.2 (by omega) | exact tst_false.2 (by omega) | (rw [tst_true.2 (by omega)]; done) | (rw [tst_false.2 (by omega)]; done)))
        · have hk2 : ((l.length : Int) - 1).toNat < l.length := by omega
          have hg : l.getLast?.getD 0 = l[((l.length : Int) - 1).toNat]'hk2 := by
            rw [List.getLast?_eq_getElem?, show l.length - 1 = ((l.length : Int) - 1).toNat by omega, List.getElem?_eq_getElem hk2]
            rfl
          rw [hg]
          refine ⟨?_⟩; refine Spec.ofR (h := fun F w0 => ?_)
          repeat' ((conv => whnf); first | refine Q.E ?_ | (refine Stk.both (fun hb => ?_) (fun hb => ?_) <;> (try simp only [lE] at hb))); all_goals (conv => whnf)
          (refine Q.r6 (h := ?_); repeat' (first | exact Q.r0 | refine Q.r1 ?_ ?_ | refine Q.r2 ?_ | exact Q.r7 | refine Q.r3 ?_ | refine Q.r4 ?_ | refine Q.r5 ?_))
          all_goals (rw [tst_eq])
      · rw [hearsB_no3 h]
        refine ⟨?_⟩; refine Spec.ofR (h := fun F w0 => ?_)
        repeat' ((conv => whnf); first | refine Q.E ?_ | (refine Stk.both (fun hb => ?_) (fun hb => ?_) <;> (try simp only [lE] at hb))); all_goals (conv => whnf)
        all_goals first | (exfalso; omega) | (refine Q.r6 (h := ?_); repeat' (first | exact Q.r0 | refine Q.r1 ?_ ?_ | refine Q.r2 ?_ | exact Q.r7 | refine Q.r3 ?_ | refine Q.r4 ?_ | refine Q.r5 ?_))
end Go.Proofs.YtbjepdfnmbdplaaGreat
end
section
namespace Go.Proofs.YtbjepdfnmbdplaaGreat
open Go.RowKit
set_option linter.unusedSimpArgs false
set_option linter.unusedVariables false
set_option maxRecDepth 100000
set_option maxHeartbeats 2000000
def othK (self : Int) (k : Nat) : List Int := ((List.range k).map fun i => ((i : Nat) : Int) + 1).filter fun i => decide (i ≠ self)
theorem othK_in {self : Int} {k : Nat} (h : (k : Int) + 1 ≠ self) : othK self (k + 1) = othK self k ++ [(k : Int) + 1] := by
  unfold othK
  rw [List.range_succ, List.map_append, List.filter_append, List.map_cons, List.map_nil, List.filter_cons, if_pos (decide_eq_true h), List.filter_nil]
theorem othK_out {self : Int} {k : Nat} (h : (k : Int) + 1 = self) : othK self (k + 1) = othK self k := by
  unfold othK
  rw [List.range_succ, List.map_append, List.filter_append, List.map_cons, List.map_nil, List.filter_cons, if_neg (by simp [h]), List.filter_nil, List.append_nil]
theorem othK_len (self : Int) (k : Nat) : (othK self k).length ≤ k := by
  unfold othK
  exact Nat.le_trans (List.length_filter_le _ _) (by simp)
theorem othL_K (r : Rpl) : othL r = othK r.self r.n.toNat := rfl
theorem others_spec (r : Rpl) (h : 0 ≤ r.n ∧ r.n ≤ 9) : HasSpec Tryz.prog 152 [.agg r.cs] (PV.ints (othL r)) := by
  refine ⟨?_⟩; refine Spec.ofR (h := fun F w0 => ?_)
  repeat' ((conv => whnf); first | refine Q.E ?_ | (refine Stk.both (fun hb => ?_) (fun hb => ?_) <;> (try simp only [lE] at hb))); all_goals (conv => whnf)
  refine Stk.loop (ι := Nat) (fun i => [(1, .lp 1 0), (3, .row 3 0), (4, PV.int ((i : Nat) + 1))]) (fun i => [(3, .row 3 1 0 ((othK r.self i).map ics)), (1, .box r.cs)]) (fun i => (i : Int) ≤ r.n) (fun i => r.n.toNat - i) 0 (by simp; omega) (Weak.trans (Weak.nilrow (t := 3) (id := 3) (rt := 3) (sz := 1) rfl rfl) (Weak.gc ⟨rfl, rfl, rfl, trivial⟩ ⟨rfl, rfl, trivial⟩ rfl rfl rfl)) (fun i hi => ?_)
  by_cases hlt : (i : Int) + 1 ≤ r.n
  · have hlen := othK_len r.self i
    by_cases hs : (i : Int) + 1 = r.self
    · repeat' ((conv => whnf); first | refine Q.E ?_ | (refine Stk.both (fun hb => ?_) (fun hb => ?_) <;> (try simp only [lE] at hb))); all_goals (conv => whnf)
      refine ⟨i + 1, by omega, by omega, ?_⟩
      rw [othK_out hs]
      exact Weak.gc ⟨rfl, rfl, rfl, trivial⟩ ⟨rfl, rfl, trivial⟩ rfl (onlyH_row (fun _ => rfl) rfl) rfl
    · have e := othK_in hs
      generalize othK r.self i = o at *
      repeat' ((conv => whnf); first | refine Q.E ?_ | (refine Stk.both (fun hb => ?_) (fun hb => ?_) <;> (try simp only [lE] at hb))); all_goals (conv => whnf)
      (refine Stk.app rfl Q.app ?_)
      repeat' ((conv => whnf); first | refine Q.E ?_ | (refine Stk.both (fun hb => ?_) (fun hb => ?_) <;> (try simp only [lE] at hb))); all_goals (conv => whnf)
      refine ⟨i + 1, by omega, by omega, ?_⟩
      rw [e]
      exact Weak.rever (by rw [List.map_append]; rfl) (all_map_closed (fun _ => rfl) _) ⟨.inl ⟨rfl, rfl⟩, .inr ⟨rfl, rfl⟩, .inl ⟨rfl, rfl⟩, trivial⟩ ⟨⟨by decide, rfl, rfl⟩, trivial⟩ rfl
  · rw [othL_K, show r.n.toNat = i by omega]
    repeat' ((conv => whnf); first | refine Q.E ?_ | (refine Stk.both (fun hb => ?_) (fun hb => ?_) <;> (try simp only [lE] at hb))); all_goals (conv => whnf)
    (refine Q.r6 (h := ?_); repeat' (first | exact Q.r0 | refine Q.r1 ?_ ?_ | refine Q.r2 ?_ | exact Q.r7 | refine Q.r3 ?_ | refine Q.r4 ?_ | refine Q.r5 ?_))
def mkO (r : Rpl) (m : Msg) (d : Int) : Out := ⟨d, m.from r.self⟩
instance one_spec (r : Rpl) (d : Int) (m : Msg) : HasSpec Tryz.prog 151 [.agg r.cs, PV.int d, .agg m.cs] (.agg (mkO r m d).cs) := by
  refine ⟨?_⟩; refine Spec.ofR (h := fun F w0 => ?_)
  repeat' ((conv => whnf); first | refine Q.E ?_ | (refine Stk.both (fun hb => ?_) (fun hb => ?_) <;> (try simp only [lE] at hb))); all_goals (conv => whnf)
  (refine Q.r6 (h := ?_); repeat' (first | exact Q.r0 | refine Q.r1 ?_ ?_ | refine Q.r2 ?_ | exact Q.r7 | refine Q.r3 ?_ | refine Q.r4 ?_ | refine Q.r5 ?_))
instance all_spec (r : Rpl) (m : Msg) : HasSpec Tryz.prog 75 [.agg r.cs, .agg m.cs] (PV.outs (allO r m)) := by
  cases hr : repB r with
  | false =>
    have j1 := stbad' hr
    rw [show allO r m = [] from if_neg (by rw [hr]; simp)]
    refine ⟨?_⟩; refine Spec.ofR (h := fun F w0 => ?_)
    repeat' ((conv => whnf); first | refine Q.E ?_ | (refine Stk.both (fun hb => ?_) (fun hb => ?_) <;> (try simp only [lE] at hb))); all_goals (conv => whnf)
    (refine Q.r6 (h := ?_); repeat' (first | exact Q.r0 | refine Q.r1 ?_ ?_ | refine Q.r2 ?_ | exact Q.r7 | refine Q.r3 ?_ | refine Q.r4 ?_ | refine Q.r5 ?_))
  | true =>
    have j1 := stok' hr
    have hn := rep_nums hr
    have j2 := others_spec r (by omega)
    have hl : (othL r).length ≤ 9 := Nat.le_trans (othK_len _ _) (by omega)
    rw [show allO r m = (othL r).map (mkO r m) from if_pos hr]
    generalize othL r = l at *
    refine ⟨?_⟩; refine Spec.ofR (h := fun F w0 => ?_)
    repeat' ((conv => whnf); first | refine Q.E ?_ | (refine Stk.both (fun hb => ?_) (fun hb => ?_) <;> (try simp only [lE] at hb))); all_goals (conv => whnf)
    refine Stk.by j2 (h := ?_)
    repeat' ((conv => whnf); first | refine Q.E ?_ | (refine Stk.both (fun hb => ?_) (fun hb => ?_) <;> (try simp only [lE] at hb))); all_goals (conv => whnf)
    refine Stk.loop (ι := Nat) (fun i => [(3, .lp 3 0), (5, .fn (.func 151) [.agg r.cs] []), (6, .row 6 0), (17, PV.ints l), (18, PV.int (l.length : Nat)), (19, PV.int (i : Nat))]) (fun i => [(6, .row 63 15 0 (((l.take i).map (mkO r m)).map Out.cs)), (3, .box m.cs)]) (fun i => i ≤ l.length) (fun i => l.length - i) 0 (Nat.zero_le _) (Weak.trans (Weak.nilrow (t := 6) (id := 6) (rt := 63) (sz := 15) rfl rfl) (Weak.gc ⟨rfl, rfl, rfl, rfl, rfl, rfl, trivial⟩ ⟨rfl, rfl, trivial⟩ rfl rfl rfl)) (fun i hi => ?_)
    by_cases hlt : i < l.length
    · have e : (l.take (i + 1)).map (mkO r m) = (l.take i).map (mkO r m) ++ [mkO r m l[i]] := by rw [take_snoc' l i hlt, List.map_append]; rfl
      have hol : ((l.take i).map (mkO r m)).length ≤ 9 := by rw [List.length_map, List.length_take]; omega
      generalize (l.take i).map (mkO r m) = o at *
      repeat' ((conv => whnf); first | refine Q.E ?_ | (refine Stk.both (fun hb => ?_) (fun hb => ?_) <;> (try simp only [lE] at hb))); all_goals (conv => whnf)
      (refine Stk.app rfl Q.app ?_)
      repeat' ((conv => whnf); first | refine Q.E ?_ | (refine Stk.both (fun hb => ?_) (fun hb => ?_) <;> (try simp only [lE] at hb))); all_goals (conv => whnf)
      refine ⟨i + 1, by omega, by omega, ?_⟩
      rw [e]
      exact Weak.rever (by rw [List.map_append]; rfl) (all_map_closed (fun _ => rfl) _) ⟨.inl ⟨rfl, rfl⟩, .inl ⟨rfl, rfl⟩, .inr ⟨rfl, rfl⟩, .inl ⟨rfl, rfl⟩, .inl ⟨rfl, rfl⟩, .inl ⟨rfl, rfl⟩, trivial⟩ ⟨⟨by decide, rfl, rfl⟩, trivial⟩ rfl
    · rw [show l.take i = l from List.take_of_length_le (by omega)]
      generalize l.map (mkO r m) = o at *
      repeat' ((conv => whnf); first | refine Q.E ?_ | (refine Stk.both (fun hb => ?_) (fun hb => ?_) <;> (try simp only [lE] at hb))); all_goals (conv => whnf)
      (refine Q.r6 (h := ?_); repeat' (first | exact Q.r0 | refine Q.r1 ?_ ?_ | refine Q.r2 ?_ | exact Q.r7 | refine Q.r3 ?_ | refine Q.r4 ?_ | refine Q.r5 ?_))
instance refall_spec (r : Rpl) (m : Msg) : HasSpec Tryz.prog 81 [.agg r.cs, .agg m.cs] (PV.outs (allO r m)) := by
  cases hr : repB r with
  | false =>
    have j1 := rstbad' hr
    rw [show allO r m = [] from if_neg (by rw [hr]; simp)]
    refine ⟨?_⟩; refine Spec.ofR (h := fun F w0 => ?_)
    repeat' ((conv => whnf); first | refine Q.E ?_ | (refine Stk.both (fun hb => ?_) (fun hb => ?_) <;> (try simp only [lE] at hb))); all_goals (conv => whnf)
    refine Stk.loop (ι := Nat) (fun i => [(2, .lp 2 0), (5, .v (.slice none 0 0)), (6, PV.int 1)]) (fun i => [(2, .box r.cs)]) (fun i => i = 0) (fun i => i) 0 rfl (Weak.gc ⟨rfl, rfl, rfl, trivial⟩ ⟨rfl, trivial⟩ rfl rfl rfl) (fun i hi => ?_)
    by_cases h1 : 1 ≤ r.n
    · repeat' ((conv => whnf); first | refine Q.E ?_ | (refine Stk.both (fun hb => ?_) (fun hb => ?_) <;> (try simp only [lE] at hb))); all_goals (conv => whnf)
      (refine Q.r6 (h := ?_); repeat' (first | exact Q.r0 | refine Q.r1 ?_ ?_ | refine Q.r2 ?_ | exact Q.r7 | refine Q.r3 ?_ | refine Q.r4 ?_ | refine Q.r5 ?_))
    · repeat' ((conv => whnf); first | refine Q.E ?_ | (refine Stk.both (fun hb => ?_) (fun hb => ?_) <;> (try simp only [lE] at hb))); all_goals (conv => whnf)
      (refine Q.r6 (h := ?_); repeat' (first | exact Q.r0 | refine Q.r1 ?_ ?_ | refine Q.r2 ?_ | exact Q.r7 | refine Q.r3 ?_ | refine Q.r4 ?_ | refine Q.r5 ?_))
  | true =>
    have j1 := rstok' hr
    have hn := rep_nums hr
    rw [show allO r m = (othL r).map (mkO r m) from if_pos hr, othL_K]
    refine ⟨?_⟩; refine Spec.ofR (h := fun F w0 => ?_)
    repeat' ((conv => whnf); first | refine Q.E ?_ | (refine Stk.both (fun hb => ?_) (fun hb => ?_) <;> (try simp only [lE] at hb))); all_goals (conv => whnf)
    refine Stk.loop (ι := Nat × Msg) (fun i => [(2, .lp 2 0), (3, .lp 3 0), (5, .row 5 0), (6, PV.int ((i.1 : Nat) + 1))]) (fun i => [(5, .row 63 15 0 (((othK r.self i.1).map (mkO r m)).map Out.cs)), (2, .box r.cs), (3, .box i.2.cs)]) (fun i => (i.1 : Int) ≤ r.n ∧ i.2.from r.self = m.from r.self) (fun i => r.n.toNat - i.1) (0, m) ⟨by simp; omega, rfl⟩ (Weak.trans (Weak.nilrow (t := 5) (id := 5) (rt := 63) (sz := 15) rfl rfl) (Weak.gc ⟨rfl, rfl, rfl, rfl, trivial⟩ ⟨rfl, rfl, rfl, trivial⟩ rfl rfl rfl)) (fun ⟨i, x⟩ hi => ?_)
    obtain ⟨hi, hx⟩ := hi
    simp only at hi hx
    dsimp only
    by_cases hlt : (i : Int) + 1 ≤ r.n
    · have hlen := othK_len r.self i
      by_cases hs : (i : Int) + 1 = r.self
      · repeat' ((conv => whnf); first | refine Q.E ?_ | (refine Stk.both (fun hb => ?_) (fun hb => ?_) <;> (try simp only [lE] at hb))); all_goals (conv => whnf)
        refine ⟨(i + 1, x), ⟨by dsimp only; omega, hx⟩, by dsimp only; omega, ?_⟩
        dsimp only
        rw [othK_out hs]
        exact Weak.gc ⟨rfl, rfl, rfl, rfl, trivial⟩ ⟨rfl, rfl, rfl, trivial⟩ rfl (onlyH_row (fun _ => rfl) rfl) rfl
      · have e : (othK r.self (i + 1)).map (mkO r m) = (othK r.self i).map (mkO r m) ++ [⟨(i : Int) + 1, x.from r.self⟩] := by
          rw [othK_in hs, List.map_append]
          unfold mkO
          rw [hx]
          rfl
        have hol : ((othK r.self i).map (mkO r m)).length ≤ 9 := by rw [List.length_map]; omega
        generalize (othK r.self i).map (mkO r m) = o at *
        repeat' ((conv => whnf); first | refine Q.E ?_ | (refine Stk.both (fun hb => ?_) (fun hb => ?_) <;> (try simp only [lE] at hb))); all_goals (conv => whnf)
        (refine Stk.app rfl Q.app ?_)
        repeat' ((conv => whnf); first | refine Q.E ?_ | (refine Stk.both (fun hb => ?_) (fun hb => ?_) <;> (try simp only [lE] at hb))); all_goals (conv => whnf)
        refine ⟨(i + 1, x.from r.self), ⟨by dsimp only; omega, hx⟩, by dsimp only; omega, ?_⟩
        dsimp only
        rw [e]
        exact Weak.rever (by rw [List.map_append]; rfl) (all_map_closed (fun _ => rfl) _) ⟨.inl ⟨rfl, rfl⟩, .inl ⟨rfl, rfl⟩, .inr ⟨rfl, rfl⟩, .inl ⟨rfl, rfl⟩, trivial⟩ ⟨⟨by decide, rfl, rfl⟩, ⟨by decide, rfl, rfl⟩, trivial⟩ rfl
    · rw [show r.n.toNat = i by omega]
      generalize (othK r.self i).map (mkO r m) = o at *
      repeat' ((conv => whnf); first | refine Q.E ?_ | (refine Stk.both (fun hb => ?_) (fun hb => ?_) <;> (try simp only [lE] at hb))); all_goals (conv => whnf)
      (refine Q.r6 (h := ?_); repeat' (first | exact Q.r0 | refine Q.r1 ?_ ?_ | refine Q.r2 ?_ | exact Q.r7 | refine Q.r3 ?_ | refine Q.r4 ?_ | refine Q.r5 ?_))
end Go.Proofs.YtbjepdfnmbdplaaGreat
end
section
namespace Go.Proofs.YtbjepdfnmbdplaaGreat
open Go.RowKit
set_option linter.unusedSimpArgs false
set_option linter.unusedVariables false
set_option maxRecDepth 100000
set_option maxHeartbeats 2000000
instance in23_spec (t : Int) : HasSpec Tryz.prog 139 [PV.int t] (.v (.bool (timeB t))) := by
  refine ⟨?_⟩; refine Spec.ofR (h := fun F w0 => ?_)
  repeat' ((conv => whnf); first | refine Q.E ?_ | (refine Stk.both (fun hb => ?_) (fun hb => ?_) <;> (try simp only [lE] at hb))); all_goals (conv => whnf)
  all_goals (refine Q.r6 (h := ?_); repeat' (first | exact Q.r0 | refine Q.r1 ?_ ?_ | refine Q.r2 ?_ | exact Q.r7 | refine Q.r3 ?_ | refine Q.r4 ?_ | refine Q.r5 ?_))
  all_goals unfold timeB
  all_goals ((first | rfl | (rw [Bool.eq_iff_iff]; simp only [tst_true, tst_false, lE, decide_eq_true_eq, decide_eq_false_iff_not, Bool.and_eq_true, Bool.or_eq_true, Bool.not_eq_true', Bool.not_eq_false', Bool.false_eq_true, Bool.true_eq_false, true_iff, iff_true, false_iff, iff_false, true_and, and_true, false_and, and_false, not_false_eq_true, not_true_eq_false]; try omega)))
instance needs23_spec (e : Ent) : HasSpec Tryz.prog 115 [.agg e.cs] (.v (.bool (needsB e))) := by
  cases hE : entB e with
  | false =>
    have j0 := rchk_no hE
    rw [show needsB e = false by unfold needsB; rw [hE]; rfl]
    refine ⟨?_⟩; refine Spec.ofR (h := fun F w0 => ?_)
    repeat' ((conv => whnf); first | refine Q.E ?_ | (refine Stk.both (fun hb => ?_) (fun hb => ?_) <;> (try simp only [lE] at hb))); all_goals (conv => whnf)
    all_goals (refine Q.r6 (h := ?_); repeat' (first | exact Q.r0 | refine Q.r1 ?_ ?_ | refine Q.r2 ?_ | exact Q.r7 | refine Q.r3 ?_ | refine Q.r4 ?_ | refine Q.r5 ?_))
  | true =>
    have j0 := rchk_yes hE
    rw [needs_of hE]
    refine ⟨?_⟩; refine Spec.ofR (h := fun F w0 => ?_)
    repeat' ((conv => whnf); first | refine Q.E ?_ | (refine Stk.both (fun hb => ?_) (fun hb => ?_) <;> (try simp only [lE] at hb))); all_goals (conv => whnf)
    all_goals (refine Q.r6 (h := ?_); repeat' (first | exact Q.r0 | refine Q.r1 ?_ ?_ | refine Q.r2 ?_ | exact Q.r7 | refine Q.r3 ?_ | refine Q.r4 ?_ | refine Q.r5 ?_))
    all_goals ((first | rfl | (rw [Bool.eq_iff_iff]; simp only [tst_true, tst_false, lE, decide_eq_true_eq, decide_eq_false_iff_not, Bool.and_eq_true, Bool.or_eq_true, Bool.not_eq_true', Bool.not_eq_false', Bool.false_eq_true, Bool.true_eq_false, true_iff, iff_true, false_iff, iff_false, true_and, and_true, false_and, and_false, not_false_eq_true, not_true_eq_false]; try omega)))
instance refaccept_spec (e : Ent) (t b : Int) : HasSpec Tryz.prog 60 [.agg e.cs, PV.int t, PV.int b] (.tup [.agg (accE e t b).cs, PV.int (accX e t b)]) := by
  cases hE : entB e with
  | false =>
    have j0 := rchk_no hE
    have hx : accX e t b = 2 := if_neg (by rw [hE]; simp)
    rw [hx, accE_no (by rw [hx]; decide)]
    refine ⟨?_⟩; refine Spec.ofR (h := fun F w0 => ?_)
    repeat' ((conv => whnf); first | refine Q.E ?_ | (refine Stk.both (fun hb => ?_) (fun hb => ?_) <;> (try simp only [lE] at hb))); all_goals (conv => whnf)
    all_goals (refine Q.r6 (h := ?_); repeat' (first | exact Q.r0 | refine Q.r1 ?_ ?_ | refine Q.r2 ?_ | exact Q.r7 | refine Q.r3 ?_ | refine Q.r4 ?_ | refine Q.r5 ?_))
  | true =>
    have j0 := rchk_yes hE
    cases ht : timeB t with
    | false =>
      have hx : accX e t b = 2 := if_neg (by rw [ht]; simp)
      rw [hx, accE_no (by rw [hx]; decide)]
      refine ⟨?_⟩; refine Spec.ofR (h := fun F w0 => ?_)
      repeat' ((conv => whnf); first | refine Q.E ?_ | (refine Stk.both (fun hb => ?_) (fun hb => ?_) <;> (try simp only [lE] at hb))); all_goals (conv => whnf)
      all_goals (refine Q.r6 (h := ?_); repeat' (first | exact Q.r0 | refine Q.r1 ?_ ?_ | refine Q.r2 ?_ | exact Q.r7 | refine Q.r3 ?_ | refine Q.r4 ?_ | refine Q.r5 ?_))
    | true =>
      cases hb : timeB b with
      | false =>
        have hx : accX e t b = 2 := if_neg (by rw [hb]; simp)
        rw [hx, accE_no (by rw [hx]; decide)]
        refine ⟨?_⟩; refine Spec.ofR (h := fun F w0 => ?_)
        repeat' ((conv => whnf); first | refine Q.E ?_ | (refine Stk.both (fun hb => ?_) (fun hb => ?_) <;> (try simp only [lE] at hb))); all_goals (conv => whnf)
        all_goals (refine Q.r6 (h := ?_); repeat' (first | exact Q.r0 | refine Q.r1 ?_ ?_ | refine Q.r2 ?_ | exact Q.r7 | refine Q.r3 ?_ | refine Q.r4 ?_ | refine Q.r5 ?_))
      | true =>
        have hc : accX e t b = if e.phase < 5 then (if e.bal ≤ b then 0 else 45) else 33 := if_pos ⟨hE, ht, hb⟩
        by_cases hp : e.phase < 5
        · by_cases hq : e.bal ≤ b
          · have hx : accX e t b = 0 := by rw [hc, if_pos hp, if_pos hq]
            rw [show accE e t b = e.up e.phase t b b [] from if_pos hx, hx]
            refine ⟨?_⟩; refine Spec.ofR (h := fun F w0 => ?_)
            repeat' ((conv => whnf); first | refine Q.E ?_ | (refine Stk.both (fun hb => ?_) (fun hb => ?_) <;> (try simp only [lE] at hb))); all_goals (conv => whnf)
            all_goals (refine Q.r6 (h := ?_); repeat' (first | exact Q.r0 | refine Q.r1 ?_ ?_ | refine Q.r2 ?_ | exact Q.r7 | refine Q.r3 ?_ | refine Q.r4 ?_ | refine Q.r5 ?_))
          · have hx : accX e t b = 45 := by rw [hc, if_pos hp, if_neg hq]
            rw [hx, accE_no (by rw [hx]; decide)]
            refine ⟨?_⟩; refine Spec.ofR (h := fun F w0 => ?_)
            repeat' ((conv => whnf); first | refine Q.E ?_ | (refine Stk.both (fun hb => ?_) (fun hb => ?_) <;> (try simp only [lE] at hb))); all_goals (conv => whnf)
            all_goals (refine Q.r6 (h := ?_); repeat' (first | exact Q.r0 | refine Q.r1 ?_ ?_ | refine Q.r2 ?_ | exact Q.r7 | refine Q.r3 ?_ | refine Q.r4 ?_ | refine Q.r5 ?_))
        · have hx : accX e t b = 33 := by rw [hc, if_neg hp]
          rw [hx, accE_no (by rw [hx]; decide)]
          refine ⟨?_⟩; refine Spec.ofR (h := fun F w0 => ?_)
          repeat' ((conv => whnf); first | refine Q.E ?_ | (refine Stk.both (fun hb => ?_) (fun hb => ?_) <;> (try simp only [lE] at hb))); all_goals (conv => whnf)
          all_goals (refine Q.r6 (h := ?_); repeat' (first | exact Q.r0 | refine Q.r1 ?_ ?_ | refine Q.r2 ?_ | exact Q.r7 | refine Q.r3 ?_ | refine Q.r4 ?_ | refine Q.r5 ?_))
end Go.Proofs.YtbjepdfnmbdplaaGreat
end
section
namespace Go.Proofs.YtbjepdfnmbdplaaGreat
open Go.RowKit
set_option linter.unusedSimpArgs false
set_option linter.unusedVariables false
set_option maxRecDepth 100000
set_option maxHeartbeats 2000000
theorem new_yes {id q : Int} {p : ByteArray} (h : entB (.new id q p) = true) : newR id q p = .new id q p := if_pos h
theorem new_no {id q : Int} {p : ByteArray} (h : entB (.new id q p) = false) : newR id q p = .zero := if_neg (by rw [h]; simp)
instance learn_spec (r : Rpl) (id q : Int) (p : ByteArray) : HasSpec Tryz.prog 103 [.agg r.cs, PV.int id, PV.int q, .v (.string p)] (.tup [.agg (lrnR r id q p).cs, .agg (lrnE r id q p).cs, .v (.bool (lrnB r id q p))]) := by
  cases hr : repB r with
  | false =>
    have j1 := stbad' hr
    rw [show lrnR r id q p = r from if_neg (by rw [hr]; simp), show lrnE r id q p = .zero from if_neg (by rw [hr]; simp), show lrnB r id q p = false from if_neg (by rw [hr]; simp)]
    refine ⟨?_⟩; refine Spec.ofR (h := fun F w0 => ?_)
    repeat' ((conv => whnf); first | refine Q.E ?_ | (refine Stk.both (fun hb => ?_) (fun hb => ?_) <;> (try simp only [lE] at hb))); all_goals (conv => whnf)
    all_goals (refine Q.r6 (h := ?_); repeat' (first | exact Q.r0 | refine Q.r1 ?_ ?_ | refine Q.r2 ?_ | exact Q.r7 | refine Q.r3 ?_ | refine Q.r4 ?_ | refine Q.r5 ?_))
  | true =>
    have j1 := stok' hr
    cases hd : doneB r id with
    | true =>
      rw [show lrnR r id q p = r from if_neg (by rw [hd]; simp), show lrnE r id q p = .zero from if_neg (by rw [hd]; simp), show lrnB r id q p = false from if_neg (by rw [hd]; simp)]
      refine ⟨?_⟩; refine Spec.ofR (h := fun F w0 => ?_)
      repeat' ((conv => whnf); first | refine Q.E ?_ | (refine Stk.both (fun hb => ?_) (fun hb => ?_) <;> (try simp only [lE] at hb))); all_goals (conv => whnf)
      all_goals (refine Q.r6 (h := ?_); repeat' (first | exact Q.r0 | refine Q.r1 ?_ ?_ | refine Q.r2 ?_ | exact Q.r7 | refine Q.r3 ?_ | refine Q.r4 ?_ | refine Q.r5 ?_))
    | false =>
      have hc : repB r = true ∧ doneB r id = false := ⟨hr, hd⟩
      have jf := tablefind_spec r.entries id
      cases hf : findB r.entries id with
      | true =>
        rw [hf] at jf
        rw [show lrnR r id q p = r from (if_pos hc).trans (if_pos hf), show lrnE r id q p = findT r.entries id from (if_pos hc).trans (if_pos hf), show lrnB r id q p = true from (if_pos hc).trans (if_pos hf)]
        generalize findT r.entries id = e at *
        refine ⟨?_⟩; refine Spec.ofR (h := fun F w0 => ?_)
        repeat' ((conv => whnf); first | refine Q.E ?_ | (refine Stk.both (fun hb => ?_) (fun hb => ?_) <;> (try simp only [lE] at hb))); all_goals (conv => whnf)
        all_goals (refine Q.r6 (h := ?_); repeat' (first | exact Q.r0 | refine Q.r1 ?_ ?_ | refine Q.r2 ?_ | exact Q.r7 | refine Q.r3 ?_ | refine Q.r4 ?_ | refine Q.r5 ?_))
      | false =>
        have hf2 : ¬ findB r.entries id = true := by rw [hf]; simp
        rw [hf] at jf
        cases he : entB (.new id q p) with
        | false =>
          rw [show lrnR r id q p = r from (if_pos hc).trans ((if_neg hf2).trans (if_neg (by rw [he]; simp))), show lrnE r id q p = .zero from (if_pos hc).trans ((if_neg hf2).trans (if_neg (by rw [he]; simp))), show lrnB r id q p = false from (if_pos hc).trans ((if_neg hf2).trans (if_neg (by rw [he]; simp)))]
          have j2 := entrynew_spec id q p
          rw [he, new_no he] at j2
          refine ⟨?_⟩; refine Spec.ofR (h := fun F w0 => ?_)
          repeat' ((conv => whnf); first | refine Q.E ?_ | (refine Stk.both (fun hb => ?_) (fun hb => ?_) <;> (try simp only [lE] at hb))); all_goals (conv => whnf)
          all_goals (refine Q.r6 (h := ?_); repeat' (first | exact Q.r0 | refine Q.r1 ?_ ?_ | refine Q.r2 ?_ | exact Q.r7 | refine Q.r3 ?_ | refine Q.r4 ?_ | refine Q.r5 ?_))
        | true =>
          have j2 := entrynew_spec id q p
          rw [he, new_yes he] at j2
          by_cases hx : rputX r (.new id q p) = 0
          · rw [show lrnR r id q p = rputR r (.new id q p) from (if_pos hc).trans ((if_neg hf2).trans (if_pos he)), show lrnE r id q p = .new id q p from (if_pos hc).trans ((if_neg hf2).trans (if_pos ⟨he, hx⟩)), show lrnB r id q p = true from (if_pos hc).trans ((if_neg hf2).trans (if_pos ⟨he, hx⟩))]
            generalize Ent.new id q p = e at *
            have j3 := put_spec r e
            generalize rputX r e = x at *
            generalize rputR r e = s at *
            refine ⟨?_⟩; refine Spec.ofR (h := fun F w0 => ?_)
            repeat' ((conv => whnf); first | refine Q.E ?_ | (refine Stk.both (fun hb => ?_) (fun hb => ?_) <;> (try simp only [lE] at hb))); all_goals (conv => whnf)
            all_goals (refine Q.r6 (h := ?_); repeat' (first | exact Q.r0 | refine Q.r1 ?_ ?_ | refine Q.r2 ?_ | exact Q.r7 | refine Q.r3 ?_ | refine Q.r4 ?_ | refine Q.r5 ?_))
          · rw [show lrnR r id q p = rputR r (.new id q p) from (if_pos hc).trans ((if_neg hf2).trans (if_pos he)), show lrnE r id q p = .zero from (if_pos hc).trans ((if_neg hf2).trans (if_neg (fun h => hx h.2))), show lrnB r id q p = false from (if_pos hc).trans ((if_neg hf2).trans (if_neg (fun h => hx h.2))), rputR_no hx]
            generalize Ent.new id q p = e at *
            have j3 := put_spec r e
            generalize rputX r e = x at *
            generalize rputR r e = s at *
            refine ⟨?_⟩; refine Spec.ofR (h := fun F w0 => ?_)
            repeat' ((conv => whnf); first | refine Q.E ?_ | (refine Stk.both (fun hb => ?_) (fun hb => ?_) <;> (try simp only [lE] at hb))); all_goals (conv => whnf)
            all_goals (refine Q.r6 (h := ?_); repeat' (first | exact Q.r0 | refine Q.r1 ?_ ?_ | refine Q.r2 ?_ | exact Q.r7 | refine Q.r3 ?_ | refine Q.r4 ?_ | refine Q.r5 ?_))
instance reflearn_spec (r : Rpl) (id q : Int) (p : ByteArray) : HasSpec Tryz.prog 58 [.agg r.cs, PV.int id, PV.int q, .v (.string p)] (.tup [.agg (lrnR r id q p).cs, .agg (lrnE r id q p).cs, .v (.bool (lrnB r id q p))]) := by
  cases hr : repB r with
  | false =>
    have j1 := rstbad' hr
    rw [show lrnR r id q p = r from if_neg (by rw [hr]; simp), show lrnE r id q p = .zero from if_neg (by rw [hr]; simp), show lrnB r id q p = false from if_neg (by rw [hr]; simp)]
    refine ⟨?_⟩; refine Spec.ofR (h := fun F w0 => ?_)
    repeat' ((conv => whnf); first | refine Q.E ?_ | (refine Stk.both (fun hb => ?_) (fun hb => ?_) <;> (try simp only [lE] at hb))); all_goals (conv => whnf)
    all_goals (refine Q.r6 (h := ?_); repeat' (first | exact Q.r0 | refine Q.r1 ?_ ?_ | refine Q.r2 ?_ | exact Q.r7 | refine Q.r3 ?_ | refine Q.r4 ?_ | refine Q.r5 ?_))
  | true =>
    have j1 := rstok' hr
    cases hd : doneB r id with
    | true =>
      rw [show lrnR r id q p = r from if_neg (by rw [hd]; simp), show lrnE r id q p = .zero from if_neg (by rw [hd]; simp), show lrnB r id q p = false from if_neg (by rw [hd]; simp)]
      refine ⟨?_⟩; refine Spec.ofR (h := fun F w0 => ?_)
      repeat' ((conv => whnf); first | refine Q.E ?_ | (refine Stk.both (fun hb => ?_) (fun hb => ?_) <;> (try simp only [lE] at hb))); all_goals (conv => whnf)
      all_goals (refine Q.r6 (h := ?_); repeat' (first | exact Q.r0 | refine Q.r1 ?_ ?_ | refine Q.r2 ?_ | exact Q.r7 | refine Q.r3 ?_ | refine Q.r4 ?_ | refine Q.r5 ?_))
    | false =>
      have hc : repB r = true ∧ doneB r id = false := ⟨hr, hd⟩
      have jf := reftabfind_spec r.entries id
      cases hf : findB r.entries id with
      | true =>
        rw [hf] at jf
        rw [show lrnR r id q p = r from (if_pos hc).trans (if_pos hf), show lrnE r id q p = findT r.entries id from (if_pos hc).trans (if_pos hf), show lrnB r id q p = true from (if_pos hc).trans (if_pos hf)]
        generalize findT r.entries id = e at *
        refine ⟨?_⟩; refine Spec.ofR (h := fun F w0 => ?_)
        repeat' ((conv => whnf); first | refine Q.E ?_ | (refine Stk.both (fun hb => ?_) (fun hb => ?_) <;> (try simp only [lE] at hb))); all_goals (conv => whnf)
        all_goals (refine Q.r6 (h := ?_); repeat' (first | exact Q.r0 | refine Q.r1 ?_ ?_ | refine Q.r2 ?_ | exact Q.r7 | refine Q.r3 ?_ | refine Q.r4 ?_ | refine Q.r5 ?_))
      | false =>
        have hf2 : ¬ findB r.entries id = true := by rw [hf]; simp
        rw [hf] at jf
        cases he : entB (.new id q p) with
        | false =>
          rw [show lrnR r id q p = r from (if_pos hc).trans ((if_neg hf2).trans (if_neg (by rw [he]; simp))), show lrnE r id q p = .zero from (if_pos hc).trans ((if_neg hf2).trans (if_neg (by rw [he]; simp))), show lrnB r id q p = false from (if_pos hc).trans ((if_neg hf2).trans (if_neg (by rw [he]; simp)))]
          have j2 := refnew_spec id q p
          rw [he, new_no he] at j2
          refine ⟨?_⟩; refine Spec.ofR (h := fun F w0 => ?_)
          repeat' ((conv => whnf); first | refine Q.E ?_ | (refine Stk.both (fun hb => ?_) (fun hb => ?_) <;> (try simp only [lE] at hb))); all_goals (conv => whnf)
          all_goals (refine Q.r6 (h := ?_); repeat' (first | exact Q.r0 | refine Q.r1 ?_ ?_ | refine Q.r2 ?_ | exact Q.r7 | refine Q.r3 ?_ | refine Q.r4 ?_ | refine Q.r5 ?_))
        | true =>
          have j2 := refnew_spec id q p
          rw [he, new_yes he] at j2
          by_cases hx : rputX r (.new id q p) = 0
          · rw [show lrnR r id q p = rputR r (.new id q p) from (if_pos hc).trans ((if_neg hf2).trans (if_pos he)), show lrnE r id q p = .new id q p from (if_pos hc).trans ((if_neg hf2).trans (if_pos ⟨he, hx⟩)), show lrnB r id q p = true from (if_pos hc).trans ((if_neg hf2).trans (if_pos ⟨he, hx⟩))]
            generalize Ent.new id q p = e at *
            have j3 := refput_spec r e
            generalize rputX r e = x at *
            generalize rputR r e = s at *
            refine ⟨?_⟩; refine Spec.ofR (h := fun F w0 => ?_)
            repeat' ((conv => whnf); first | refine Q.E ?_ | (refine Stk.both (fun hb => ?_) (fun hb => ?_) <;> (try simp only [lE] at hb))); all_goals (conv => whnf)
            all_goals (refine Q.r6 (h := ?_); repeat' (first | exact Q.r0 | refine Q.r1 ?_ ?_ | refine Q.r2 ?_ | exact Q.r7 | refine Q.r3 ?_ | refine Q.r4 ?_ | refine Q.r5 ?_))
          · rw [show lrnR r id q p = rputR r (.new id q p) from (if_pos hc).trans ((if_neg hf2).trans (if_pos he)), show lrnE r id q p = .zero from (if_pos hc).trans ((if_neg hf2).trans (if_neg (fun h => hx h.2))), show lrnB r id q p = false from (if_pos hc).trans ((if_neg hf2).trans (if_neg (fun h => hx h.2))), rputR_no hx]
            generalize Ent.new id q p = e at *
            have j3 := refput_spec r e
            generalize rputX r e = x at *
            generalize rputR r e = s at *
            refine ⟨?_⟩; refine Spec.ofR (h := fun F w0 => ?_)
            repeat' ((conv => whnf); first | refine Q.E ?_ | (refine Stk.both (fun hb => ?_) (fun hb => ?_) <;> (try simp only [lE] at hb))); all_goals (conv => whnf)
            all_goals (refine Q.r6 (h := ?_); repeat' (first | exact Q.r0 | refine Q.r1 ?_ ?_ | refine Q.r2 ?_ | exact Q.r7 | refine Q.r3 ?_ | refine Q.r4 ?_ | refine Q.r5 ?_))
instance bumped_spec (r : Rpl) (e : Ent) (t : Int) : HasSpec Tryz.prog 150 [.agg r.cs, .agg e.cs, PV.int t] (.tup [.agg (bmpR r e t).cs, .v (.bool (bmpB r e t))]) := by
  have j1 := put_spec r e
  by_cases hx : rputX r e = 0
  · rw [show bmpR r e t = { r with entries := putE r.entries e, clock := bumpI r.clock t } from if_pos hx, show bmpB r e t = true from decide_eq_true hx]
    rw [hx, rputR_yes hx] at j1
    generalize putE r.entries e = L at *
    refine ⟨?_⟩; refine Spec.ofR (h := fun F w0 => ?_)
    repeat' ((conv => whnf); first | refine Q.E ?_ | (refine Stk.both (fun hb => ?_) (fun hb => ?_) <;> (try simp only [lE] at hb))); all_goals (conv => whnf)
    all_goals (refine Q.r6 (h := ?_); repeat' (first | exact Q.r0 | refine Q.r1 ?_ ?_ | refine Q.r2 ?_ | exact Q.r7 | refine Q.r3 ?_ | refine Q.r4 ?_ | refine Q.r5 ?_))
  · rw [show bmpR r e t = r from if_neg hx, show bmpB r e t = false from decide_eq_false hx]
    generalize rputX r e = x at *
    generalize rputR r e = s at *
    refine ⟨?_⟩; refine Spec.ofR (h := fun F w0 => ?_)
    repeat' ((conv => whnf); first | refine Q.E ?_ | (refine Stk.both (fun hb => ?_) (fun hb => ?_) <;> (try simp only [lE] at hb))); all_goals (conv => whnf)
    all_goals (refine Q.r6 (h := ?_); repeat' (first | exact Q.r0 | refine Q.r1 ?_ ?_ | refine Q.r2 ?_ | exact Q.r7 | refine Q.r3 ?_ | refine Q.r4 ?_ | refine Q.r5 ?_))
instance refput26_spec (r : Rpl) (e : Ent) (t : Int) : HasSpec Tryz.prog 157 [.agg r.cs, .agg e.cs, PV.int t] (.tup [.agg (bmpR r e t).cs, .v (.bool (bmpB r e t))]) := by
  have j1 := refput_spec r e
  by_cases hx : rputX r e = 0
  · rw [show bmpR r e t = { r with entries := putE r.entries e, clock := bumpI r.clock t } from if_pos hx, show bmpB r e t = true from decide_eq_true hx]
    rw [hx, rputR_yes hx] at j1
    generalize putE r.entries e = L at *
    refine ⟨?_⟩; refine Spec.ofR (h := fun F w0 => ?_)
    repeat' ((conv => whnf); first | refine Q.E ?_ | (refine Stk.both (fun hb => ?_) (fun hb => ?_) <;> (try simp only [lE] at hb))); all_goals (conv => whnf)
    all_goals (refine Q.r6 (h := ?_); repeat' (first | exact Q.r0 | refine Q.r1 ?_ ?_ | refine Q.r2 ?_ | exact Q.r7 | refine Q.r3 ?_ | refine Q.r4 ?_ | refine Q.r5 ?_))
  · rw [show bmpR r e t = r from if_neg hx, show bmpB r e t = false from decide_eq_false hx]
    generalize rputX r e = x at *
    generalize rputR r e = s at *
    refine ⟨?_⟩; refine Spec.ofR (h := fun F w0 => ?_)
    repeat' ((conv => whnf); first | refine Q.E ?_ | (refine Stk.both (fun hb => ?_) (fun hb => ?_) <;> (try simp only [lE] at hb))); all_goals (conv => whnf)
    all_goals (refine Q.r6 (h := ?_); repeat' (first | exact Q.r0 | refine Q.r1 ?_ ?_ | refine Q.r2 ?_ | exact Q.r7 | refine Q.r3 ?_ | refine Q.r4 ?_ | refine Q.r5 ?_))
instance take_spec (r : Rpl) (e : Ent) (t b : Int) : HasSpec Tryz.prog 190 [.agg r.cs, .agg e.cs, PV.int t, PV.int b] (.tup [.agg (tkR r e t b).cs, .v (.bool (tkB r e t b))]) := by
  have j1 := accept_spec e t b
  have j2 : HasSpec Tryz.prog 72 [.agg (accE e t b).cs, .agg [PV.int 2, PV.int r.self, PV.int b, PV.int 0, PV.int 0, PV.int 0]] (.tup [.agg (ackR (accE e t b) (ackA r b)).cs, .v (.bool (ackB (accE e t b) (ackA r b)))]) := entryack_spec (accE e t b) (ackA r b)
  by_cases hx : accX e t b = 0
  · cases hk : ackB (accE e t b) (ackA r b) with
    | true =>
      have j3 := bumped_spec r (ackR (accE e t b) (ackA r b)) t
      rw [show tkR r e t b = bmpR r (ackR (accE e t b) (ackA r b)) t from if_pos ⟨hx, hk⟩, show tkB r e t b = bmpB r (ackR (accE e t b) (ackA r b)) t from if_pos ⟨hx, hk⟩]
      rw [hk] at j2
      generalize accX e t b = x at *
      generalize ackR (accE e t b) (ackA r b) = c2 at *
      generalize accE e t b = c at *
      generalize bmpR r c2 t = s at *
      generalize bmpB r c2 t = bb at *
      refine ⟨?_⟩; refine Spec.ofR (h := fun F w0 => ?_)
      repeat' ((conv => whnf); first | refine Q.E ?_ | (refine Stk.both (fun hb => ?_) (fun hb => ?_) <;> (try simp only [lE] at hb))); all_goals (conv => whnf)
      all_goals (refine Q.r6 (h := ?_); repeat' (first | exact Q.r0 | refine Q.r1 ?_ ?_ | refine Q.r2 ?_ | exact Q.r7 | refine Q.r3 ?_ | refine Q.r4 ?_ | refine Q.r5 ?_))
    | false =>
      rw [show tkR r e t b = r from if_neg (fun h => by rw [hk] at h; cases h.2), show tkB r e t b = false from if_neg (fun h => by rw [hk] at h; cases h.2)]
      rw [hk] at j2
      generalize accX e t b = x at *
      generalize ackR (accE e t b) (ackA r b) = c2 at *
      generalize accE e t b = c at *
      refine ⟨?_⟩; refine Spec.ofR (h := fun F w0 => ?_)
      repeat' ((conv => whnf); first | refine Q.E ?_ | (refine Stk.both (fun hb => ?_) (fun hb => ?_) <;> (try simp only [lE] at hb))); all_goals (conv => whnf)
      all_goals (refine Q.r6 (h := ?_); repeat' (first | exact Q.r0 | refine Q.r1 ?_ ?_ | refine Q.r2 ?_ | exact Q.r7 | refine Q.r3 ?_ | refine Q.r4 ?_ | refine Q.r5 ?_))
  · rw [show tkR r e t b = r from if_neg (fun h => hx h.1), show tkB r e t b = false from if_neg (fun h => hx h.1)]
    clear j2
    generalize accX e t b = x at *
    generalize accE e t b = c at *
    refine ⟨?_⟩; refine Spec.ofR (h := fun F w0 => ?_)
    repeat' ((conv => whnf); first | refine Q.E ?_ | (refine Stk.both (fun hb => ?_) (fun hb => ?_) <;> (try simp only [lE] at hb))); all_goals (conv => whnf)
    all_goals (refine Q.r6 (h := ?_); repeat' (first | exact Q.r0 | refine Q.r1 ?_ ?_ | refine Q.r2 ?_ | exact Q.r7 | refine Q.r3 ?_ | refine Q.r4 ?_ | refine Q.r5 ?_))
instance reftake_spec (r : Rpl) (e : Ent) (t b : Int) : HasSpec Tryz.prog 109 [.agg r.cs, .agg e.cs, PV.int t, PV.int b] (.tup [.agg (tkR r e t b).cs, .v (.bool (tkB r e t b))]) := by
  have j1 := refaccept_spec e t b
  have j2 : HasSpec Tryz.prog 78 [.agg (accE e t b).cs, .agg [PV.int 2, PV.int r.self, PV.int b, PV.int 0, PV.int 0, PV.int 0]] (.tup [.agg (ackR (accE e t b) (ackA r b)).cs, .v (.bool (ackB (accE e t b) (ackA r b)))]) := refacked_spec (accE e t b) (ackA r b)
  by_cases hx : accX e t b = 0
  · cases hk : ackB (accE e t b) (ackA r b) with
    | true =>
      have j3 := refput26_spec r (ackR (accE e t b) (ackA r b)) t
      rw [show tkR r e t b = bmpR r (ackR (accE e t b) (ackA r b)) t from if_pos ⟨hx, hk⟩, show tkB r e t b = bmpB r (ackR (accE e t b) (ackA r b)) t from if_pos ⟨hx, hk⟩]
      rw [hk] at j2
      generalize accX e t b = x at *
      generalize ackR (accE e t b) (ackA r b) = c2 at *
      generalize accE e t b = c at *
      generalize bmpR r c2 t = s at *
      generalize bmpB r c2 t = bb at *
      refine ⟨?_⟩; refine Spec.ofR (h := fun F w0 => ?_)
      repeat' ((conv => whnf); first | refine Q.E ?_ | (refine Stk.both (fun hb => ?_) (fun hb => ?_) <;> (try simp only [lE] at hb))); all_goals (conv => whnf)
      all_goals (refine Q.r6 (h := ?_); repeat' (first | exact Q.r0 | refine Q.r1 ?_ ?_ | refine Q.r2 ?_ | exact Q.r7 | refine Q.r3 ?_ | refine Q.r4 ?_ | refine Q.r5 ?_))
    | false =>
      rw [show tkR r e t b = r from if_neg (fun h => by rw [hk] at h; cases h.2), show tkB r e t b = false from if_neg (fun h => by rw [hk] at h; cases h.2)]
      rw [hk] at j2
      generalize accX e t b = x at *
      generalize ackR (accE e t b) (ackA r b) = c2 at *
      generalize accE e t b = c at *
      refine ⟨?_⟩; refine Spec.ofR (h := fun F w0 => ?_)
      repeat' ((conv => whnf); first | refine Q.E ?_ | (refine Stk.both (fun hb => ?_) (fun hb => ?_) <;> (try simp only [lE] at hb))); all_goals (conv => whnf)
      all_goals (refine Q.r6 (h := ?_); repeat' (first | exact Q.r0 | refine Q.r1 ?_ ?_ | refine Q.r2 ?_ | exact Q.r7 | refine Q.r3 ?_ | refine Q.r4 ?_ | refine Q.r5 ?_))
  · rw [show tkR r e t b = r from if_neg (fun h => hx h.1), show tkB r e t b = false from if_neg (fun h => hx h.1)]
    clear j2
    generalize accX e t b = x at *
    generalize accE e t b = c at *
    refine ⟨?_⟩; refine Spec.ofR (h := fun F w0 => ?_)
    repeat' ((conv => whnf); first | refine Q.E ?_ | (refine Stk.both (fun hb => ?_) (fun hb => ?_) <;> (try simp only [lE] at hb))); all_goals (conv => whnf)
    all_goals (refine Q.r6 (h := ?_); repeat' (first | exact Q.r0 | refine Q.r1 ?_ ?_ | refine Q.r2 ?_ | exact Q.r7 | refine Q.r3 ?_ | refine Q.r4 ?_ | refine Q.r5 ?_))
end Go.Proofs.YtbjepdfnmbdplaaGreat
end
section
namespace Go.Proofs.YtbjepdfnmbdplaaGreat
open Go.RowKit
set_option linter.unusedSimpArgs false
set_option linter.unusedVariables false
set_option maxRecDepth 100000
set_option maxHeartbeats 2000000
def SubX (p q : PV) : Prop := ∀ (w : World) (μ : LMap) (y : Value), Rep w μ p y → Rep w μ q y
inductive SubXL : List PV → List PV → Prop
  | nil : SubXL [] []
  | cons {c d : PV} {cs ds : List PV} : SubX c d → SubXL cs ds → SubXL (c :: cs) (d :: ds)
inductive SubXR : List (List PV) → List (List PV) → Prop
  | nil : SubXR [] []
  | cons {c d : List PV} {cs ds : List (List PV)} : SubXL c d → SubXR cs ds → SubXR (c :: cs) (d :: ds)
theorem SubX.refl (p : PV) : SubX p p := fun _ _ _ h => h
theorem SubX.of {p q : PV} (h : Sub p q) : SubX p q := fun _ _ _ r => Sub.rep h r
theorem SubXL.rep {w : World} {μ : LMap} : ∀ {cs ds : List PV} (_ : SubXL cs ds) {vs : List Value}, RepL w μ cs vs → RepL w μ ds vs
  | _, _, .nil, _, r => r
  | _, _, .cons h hs, _, r => by
    simp only [RepL] at r ⊢
    obtain ⟨u, us, e, r1, r2⟩ := r
    exact ⟨u, us, e, h w μ u r1, SubXL.rep hs r2⟩
theorem SubXL.repC {w : World} {μ : LMap} {A : Option Addr} : ∀ {cs ds : List PV} (_ : SubXL cs ds) {k : Nat}, RepC w μ A cs k → RepC w μ A ds k
  | _, _, .nil, _, r => r
  | _, _, .cons h hs, _, r => by
    simp only [RepC] at r ⊢
    obtain ⟨⟨a, u, e1, e2, e3, e4, r1⟩, r2⟩ := r
    exact ⟨⟨a, u, e1, e2, e3, e4, h w μ u r1⟩, SubXL.repC hs r2⟩
theorem SubXL.len : ∀ {cs ds : List PV} (_ : SubXL cs ds), cs.length = ds.length
  | _, _, .nil => rfl
  | _, _, .cons _ hs => congrArg (· + 1) (SubXL.len hs)
theorem SubXR.repR {w : World} {μ : LMap} {A : Option Addr} {sz : Nat} : ∀ {cs ds : List (List PV)} (_ : SubXR cs ds) {k : Nat}, RepR w μ A sz cs k → RepR w μ A sz ds k
  | _, _, .nil, _, r => r
  | _, _, .cons h hs, _, r => by
    simp only [RepR] at r ⊢
    obtain ⟨h1, r1, r2⟩ := r
    exact ⟨h.len.symm.trans h1, SubXL.repC h r1, SubXR.repR hs r2⟩
theorem SubXR.len : ∀ {cs ds : List (List PV)} (_ : SubXR cs ds), cs.length = ds.length
  | _, _, .nil => rfl
  | _, _, .cons _ hs => congrArg (· + 1) (SubXR.len hs)
theorem SubX.sl {sz : Nat} {xs ys : List (List PV)} (h : SubXR xs ys) : SubX (.sl sz xs) (.sl sz ys) := fun w μ y r => by
  simp only [Rep] at r ⊢
  obtain ⟨A, c, e, h1, h2, r⟩ := r
  exact ⟨A, c, by rw [← h.len]; exact e, by rw [← h.len]; exact h1, h2, SubXR.repR h r⟩
theorem SubX.agg {cs ds : List PV} (h : SubXL cs ds) : SubX (.agg cs) (.agg ds) := fun w μ y r => by
  simp only [Rep] at r ⊢
  obtain ⟨vs, e, r, h1⟩ := r
  exact ⟨vs, e, SubXL.rep h r, h1⟩
theorem SubX.tup {cs ds : List PV} (h : SubXL cs ds) : SubX (.tup cs) (.tup ds) := fun w μ y r => by
  simp only [Rep] at r ⊢
  obtain ⟨vs, e, r⟩ := r
  exact ⟨vs, e, SubXL.rep h r⟩
theorem SubX.nil (sz : Nat) : SubX (.v (.slice none 0 0)) (.sl sz []) := SubX.of (.nil sz)
theorem HasSpec.mono {P : Program} {g : FuncId} {args : List PV} {r r' : PV} (h : HasSpec P g args r) (hm : SubX r r') (hr : r.noOwn = true := by rfl) (hr' : r'.noOwn = true := by rfl) : HasSpec P g args r' :=
  ⟨⟨h.h.enters, fun F w vs hF hv => (h.h.run F w vs hF hv).mono (by
    rintro e w' ⟨y, rfl, hb, hrr⟩
    refine ⟨y, rfl, hb, ?_⟩
    have := hm w' (LMap.none F) y (hrr.plain hr)
    cases r' <;> first | exact this | cases hr')⟩⟩
def Out.raw (o : Out) : List PV := [PV.int o.dest, PV.int o.m.kind, PV.int o.m.fr, PV.int o.m.id, PV.int o.m.t, PV.int o.m.bal, PV.int o.m.abal, PV.int o.m.phase, PV.int o.m.quorum, .v (.string o.m.payload), PV.int o.m.lo, PV.int o.m.hi, .v (.slice none 0 0), .v (.slice none 0 0), PV.int o.m.done]
theorem raw_out {o : Out} (h1 : o.m.atts = []) (h2 : o.m.marks = []) : SubX (.sl 15 [o.raw]) (PV.outs [o]) := by
  refine SubX.sl (.cons ?_ .nil)
  unfold Out.raw Out.cs Msg.cs
  rw [h1, h2]
  exact .cons (.refl _) (.cons (.refl _) (.cons (.refl _) (.cons (.refl _) (.cons (.refl _) (.cons (.refl _) (.cons (.refl _) (.cons (.refl _) (.cons (.refl _) (.cons (.refl _) (.cons (.refl _) (.cons (.refl _) (.cons (.nil _) (.cons (.nil _) (.cons (.refl _) .nil))))))))))))))
instance identmay_spec (n : Int) : HasSpec Tryz.prog 121 [PV.int n] (.v (.bool (manyB n))) := by
  refine ⟨?_⟩; refine Spec.ofR (h := fun F w0 => ?_)
  repeat' ((conv => whnf); first | refine Q.E ?_ | (refine Stk.both (fun hb => ?_) (fun hb => ?_) <;> (try simp only [lE] at hb))); all_goals (conv => whnf)
  all_goals (refine Q.r6 (h := ?_); repeat' (first | exact Q.r0 | refine Q.r1 ?_ ?_ | refine Q.r2 ?_ | exact Q.r7 | refine Q.r3 ?_ | refine Q.r4 ?_ | refine Q.r5 ?_))
  all_goals ((first | rfl | (rw [Bool.eq_iff_iff]; simp only [tst_true, tst_false, manyB, decide_eq_true_eq, decide_eq_false_iff_not, Bool.and_eq_true, Bool.or_eq_true, Bool.not_eq_true', Bool.not_eq_false', Bool.false_eq_true, Bool.true_eq_false, true_iff, iff_true, false_iff, iff_false, true_and, and_true, false_and, and_false, not_false_eq_true, not_true_eq_false]; try omega)))
theorem many_iff {n : Int} : manyB n = true ↔ 3 ≤ n ∧ n ≤ 9 := by unfold manyB; exact decide_eq_true_iff
theorem many_f {n : Int} : manyB n = false ↔ ¬ (3 ≤ n ∧ n ≤ 9) := by unfold manyB; exact decide_eq_false_iff_not
instance owner_spec (b n : Int) : HasSpec Tryz.prog 48 [PV.int b, PV.int n] (PV.int (ownI b n)) := by
  by_cases h : 3 ≤ n ∧ n ≤ 9 ∧ 1 ≤ b ∧ b ≤ 1000000
  · have hm := many_iff.2 ⟨h.1, h.2.1⟩
    have h2 : 0 ≤ (b - 1) % n ∧ (b - 1) % n < n := ⟨Int.emod_nonneg _ (by omega), Int.emod_lt_of_pos _ (by omega)⟩
    rw [show ownI b n = (b - 1) % n + 1 from if_pos h]
    refine ⟨?_⟩; refine Spec.ofR (h := fun F w0 => ?_)
    repeat' ((conv => whnf); first | refine Q.a ?_ | refine Q.b ?_ | refine Q.c ?_ | refine Stk.is (by first | assumption | ((try simp only [lE]); first | done | assumption | omega)) ?_ | refine Stk.isnt (by first | assumption | ((try simp only [lE]); first | done | assumption | omega)) ?_ | (refine Stk.both (fun hb => ?_) (fun hb => ?_) <;> (try simp only [lE] at hb)) | refine Q.d ?_ | refine Q.e ?_ | refine Q.f ?_ | refine Q.g ?_ | refine Q.h ?_ | refine Q.i ?_ | refine Q.j ?_ | refine Q.k ?_ | refine Q.l ?_ | refine Q.m ?_ | refine Q.n ?_ | refine Q.o (h := ?_) | refine Q.p (h := ?_) | refine Q.q ?_ | refine Q.r ?_ | refine Q.s ?_ | refine Q.t ?_ | refine Q.u ?_ | refine Q.v ?_ | refine Q.w ?_ | refine Q.x ?_ | refine Q.y ?_ | refine Q.z ?_ | refine Stk.inl (h := fun tm => ?_) | refine Stk.inl0 (h := fun tm => ?_) | refine DefG.go (h := fun vs us => ?_) | intro (tm : Array Value) | refine Stk.op (ok_buildA rfl rfl rfl rfl) ?_ | refine Stk.scope ?_); all_goals (conv => whnf)
    (refine Q.r6 (h := ?_); repeat' (first | exact Q.r0 | refine Q.r1 ?_ ?_ | refine Q.r2 ?_ | exact Q.r7 | refine Q.r3 ?_ | refine Q.r4 ?_ | refine Q.r5 ?_))
  · rw [show ownI b n = 0 from if_neg h]
    cases hm : manyB n with
    | true =>
      have := many_iff.1 hm
      refine ⟨?_⟩; refine Spec.ofR (h := fun F w0 => ?_)
      repeat' ((conv => whnf); first | refine Q.a ?_ | refine Q.b ?_ | refine Q.c ?_ | refine Stk.is (by first | assumption | ((try simp only [lE]); first | done | assumption | omega)) ?_ | refine Stk.isnt (by first | assumption | ((try simp only [lE]); first | done | assumption | omega)) ?_ | (refine Stk.both (fun hb => ?_) (fun hb => ?_) <;> (try simp only [lE] at hb)) | refine Q.d ?_ | refine Q.e ?_ | refine Q.f ?_ | refine Q.g ?_ | refine Q.h ?_ | refine Q.i ?_ | refine Q.j ?_ | refine Q.k ?_ | refine Q.l ?_ | refine Q.m ?_ | refine Q.n ?_ | refine Q.o (h := ?_) | refine Q.p (h := ?_) | refine Q.q ?_ | refine Q.r ?_ | refine Q.s ?_ | refine Q.t ?_ | refine Q.u ?_ | refine Q.v ?_ | refine Q.w ?_ | refine Q.x ?_ | refine Q.y ?_ | refine Q.z ?_ | refine Stk.inl (h := fun tm => ?_) | refine Stk.inl0 (h := fun tm => ?_) | refine DefG.go (h := fun vs us => ?_) | intro (tm : Array Value) | refine Stk.op (ok_buildA rfl rfl rfl rfl) ?_ | refine Stk.scope ?_); all_goals (conv => whnf)
      all_goals first | (exfalso; omega) | (refine Q.r6 (h := ?_); repeat' (first | exact Q.r0 | refine Q.r1 ?_ ?_ | refine Q.r2 ?_ | exact Q.r7 | refine Q.r3 ?_ | refine Q.r4 ?_ | refine Q.r5 ?_))
    | false =>
      refine ⟨?_⟩; refine Spec.ofR (h := fun F w0 => ?_)
      repeat' ((conv => whnf); first | refine Q.a ?_ | refine Q.b ?_ | refine Q.c ?_ | refine Stk.is (by first | assumption | ((try simp only [lE]); first | done | assumption | omega)) ?_ | refine Stk.isnt (by first | assumption | ((try simp only [lE]); first | done | assumption | omega)) ?_ | (refine Stk.both (fun hb => ?_) (fun hb => ?_) <;> (try simp only [lE] at hb)) | refine Q.d ?_ | refine Q.e ?_ | refine Q.f ?_ | refine Q.g ?_ | refine Q.h ?_ | refine Q.i ?_ | refine Q.j ?_ | refine Q.k ?_ | refine Q.l ?_ | refine Q.m ?_ | refine Q.n ?_ | refine Q.o (h := ?_) | refine Q.p (h := ?_) | refine Q.q ?_ | refine Q.r ?_ | refine Q.s ?_ | refine Q.t ?_ | refine Q.u ?_ | refine Q.v ?_ | refine Q.w ?_ | refine Q.x ?_ | refine Q.y ?_ | refine Q.z ?_ | refine Stk.inl (h := fun tm => ?_) | refine Stk.inl0 (h := fun tm => ?_) | refine DefG.go (h := fun vs us => ?_) | intro (tm : Array Value) | refine Stk.op (ok_buildA rfl rfl rfl rfl) ?_ | refine Stk.scope ?_); all_goals (conv => whnf)
      all_goals (refine Q.r6 (h := ?_); repeat' (first | exact Q.r0 | refine Q.r1 ?_ ?_ | refine Q.r2 ?_ | exact Q.r7 | refine Q.r3 ?_ | refine Q.r4 ?_ | refine Q.r5 ?_))
instance refowner_spec (b n : Int) : HasSpec Tryz.prog 57 [PV.int b, PV.int n] (PV.int (ownI b n)) := by
  by_cases h : 3 ≤ n ∧ n ≤ 9 ∧ 1 ≤ b ∧ b ≤ 1000000
  · have h2 : 0 ≤ (b - 1) % n ∧ (b - 1) % n < n := ⟨Int.emod_nonneg _ (by omega), Int.emod_lt_of_pos _ (by omega)⟩
    rw [show ownI b n = (b - 1) % n + 1 from if_pos h]
    refine ⟨?_⟩; refine Spec.ofR (h := fun F w0 => ?_)
    repeat' ((conv => whnf); first | refine Q.a ?_ | refine Q.b ?_ | refine Q.c ?_ | refine Stk.is (by first | assumption | ((try simp only [lE]); first | done | assumption | omega)) ?_ | refine Stk.isnt (by first | assumption | ((try simp only [lE]); first | done | assumption | omega)) ?_ | (refine Stk.both (fun hb => ?_) (fun hb => ?_) <;> (try simp only [lE] at hb)) | refine Q.d ?_ | refine Q.e ?_ | refine Q.f ?_ | refine Q.g ?_ | refine Q.h ?_ | refine Q.i ?_ | refine Q.j ?_ | refine Q.k ?_ | refine Q.l ?_ | refine Q.m ?_ | refine Q.n ?_ | refine Q.o (h := ?_) | refine Q.p (h := ?_) | refine Q.q ?_ | refine Q.r ?_ | refine Q.s ?_ | refine Q.t ?_ | refine Q.u ?_ | refine Q.v ?_ | refine Q.w ?_ | refine Q.x ?_ | refine Q.y ?_ | refine Q.z ?_ | refine Stk.inl (h := fun tm => ?_) | refine Stk.inl0 (h := fun tm => ?_) | refine DefG.go (h := fun vs us => ?_) | intro (tm : Array Value) | refine Stk.op (ok_buildA rfl rfl rfl rfl) ?_ | refine Stk.scope ?_); all_goals (conv => whnf)
    (refine Q.r6 (h := ?_); repeat' (first | exact Q.r0 | refine Q.r1 ?_ ?_ | refine Q.r2 ?_ | exact Q.r7 | refine Q.r3 ?_ | refine Q.r4 ?_ | refine Q.r5 ?_))
    omega
  · rw [show ownI b n = 0 from if_neg h]
    refine ⟨?_⟩; refine Spec.ofR (h := fun F w0 => ?_)
    repeat' ((conv => whnf); first | refine Q.a ?_ | refine Q.b ?_ | refine Q.c ?_ | refine Stk.is (by first | assumption | ((try simp only [lE]); first | done | assumption | omega)) ?_ | refine Stk.isnt (by first | assumption | ((try simp only [lE]); first | done | assumption | omega)) ?_ | (refine Stk.both (fun hb => ?_) (fun hb => ?_) <;> (try simp only [lE] at hb)) | refine Q.d ?_ | refine Q.e ?_ | refine Q.f ?_ | refine Q.g ?_ | refine Q.h ?_ | refine Q.i ?_ | refine Q.j ?_ | refine Q.k ?_ | refine Q.l ?_ | refine Q.m ?_ | refine Q.n ?_ | refine Q.o (h := ?_) | refine Q.p (h := ?_) | refine Q.q ?_ | refine Q.r ?_ | refine Q.s ?_ | refine Q.t ?_ | refine Q.u ?_ | refine Q.v ?_ | refine Q.w ?_ | refine Q.x ?_ | refine Q.y ?_ | refine Q.z ?_ | refine Stk.inl (h := fun tm => ?_) | refine Stk.inl0 (h := fun tm => ?_) | refine DefG.go (h := fun vs us => ?_) | intro (tm : Array Value) | refine Stk.op (ok_buildA rfl rfl rfl rfl) ?_ | refine Stk.scope ?_); all_goals (conv => whnf)
    all_goals first | (exfalso; omega) | (refine Q.r6 (h := ?_); repeat' (first | exact Q.r0 | refine Q.r1 ?_ ?_ | refine Q.r2 ?_ | exact Q.r7 | refine Q.r3 ?_ | refine Q.r4 ?_ | refine Q.r5 ?_))
instance told27_spec (r : Rpl) (e : Ent) : HasSpec Tryz.prog 76 [.agg r.cs, .agg e.cs] (.agg (tolM r e).cs) := by
  refine ⟨?_⟩; refine Spec.ofR (h := fun F w0 => ?_)
  repeat' ((conv => whnf); first | refine Q.E ?_ | (refine Stk.both (fun hb => ?_) (fun hb => ?_) <;> (try simp only [lE] at hb))); all_goals (conv => whnf)
  (refine Q.r6 (h := ?_); repeat' (first | exact Q.r0 | refine Q.r1 ?_ ?_ | refine Q.r2 ?_ | exact Q.r7 | refine Q.r3 ?_ | refine Q.r4 ?_ | refine Q.r5 ?_))
theorem helpO_no1 {r : Rpl} {e : Ent} {d : Int} (h : settB e.phase = false) : helpO r e d = [] := if_neg (by rw [h]; simp)
theorem helpO_no2 {r : Rpl} {e : Ent} {d : Int} (h : repB r = false) : helpO r e d = [] := if_neg (by rw [h]; simp)
theorem helpO_no3 {r : Rpl} {e : Ent} {d : Int} (h : ¬ (1 ≤ d ∧ d ≤ r.n ∧ d ≠ r.self)) : helpO r e d = [] := if_neg (fun h2 => h h2.2.2)
theorem helpO_yes {r : Rpl} {e : Ent} {d : Int} (h1 : settB e.phase = true) (h2 : repB r = true) (h : 1 ≤ d ∧ d ≤ r.n ∧ d ≠ r.self) : helpO r e d = [⟨d, tolM r e⟩] := if_pos ⟨h1, h2, h⟩
instance help_spec (r : Rpl) (e : Ent) (d : Int) : HasSpec Tryz.prog 24 [.agg r.cs, .agg e.cs, PV.int d] (PV.outs (helpO r e d)) := by
  have hp := settB_iff (p := e.phase)
  have jp := phasesett_spec e.phase
  cases h1 : settB e.phase with
  | false =>
    rw [h1] at jp
    rw [helpO_no1 h1]
    refine ⟨?_⟩; refine Spec.ofR (h := fun F w0 => ?_)
    repeat' ((conv => whnf); first | refine Q.E ?_ | (refine Stk.both (fun hb => ?_) (fun hb => ?_) <;> (try simp only [lE] at hb))); all_goals (conv => whnf)
    (refine Q.r6 (h := ?_); repeat' (first | exact Q.r0 | refine Q.r1 ?_ ?_ | refine Q.r2 ?_ | exact Q.r7 | refine Q.r3 ?_ | refine Q.r4 ?_ | refine Q.r5 ?_))
  | true =>
    rw [h1] at jp
    cases h2 : repB r with
    | false =>
      have j1 := stbad' h2
      rw [helpO_no2 h2]
      refine ⟨?_⟩; refine Spec.ofR (h := fun F w0 => ?_)
      repeat' ((conv => whnf); first | refine Q.E ?_ | (refine Stk.both (fun hb => ?_) (fun hb => ?_) <;> (try simp only [lE] at hb))); all_goals (conv => whnf)
      (refine Q.r6 (h := ?_); repeat' (first | exact Q.r0 | refine Q.r1 ?_ ?_ | refine Q.r2 ?_ | exact Q.r7 | refine Q.r3 ?_ | refine Q.r4 ?_ | refine Q.r5 ?_))
    | true =>
      have j1 := stok' h2
      by_cases h : 1 ≤ d ∧ d ≤ r.n ∧ d ≠ r.self
      · rw [helpO_yes h1 h2 h]
        refine ⟨?_⟩; refine Spec.ofR (h := fun F w0 => ?_)
        repeat' ((conv => whnf); first | refine Q.E ?_ | (refine Stk.both (fun hb => ?_) (fun hb => ?_) <;> (try simp only [lE] at hb))); all_goals (conv => whnf)
        (refine Q.r6 (h := ?_); repeat' (first | exact Q.r0 | refine Q.r1 ?_ ?_ | refine Q.r2 ?_ | exact Q.r7 | refine Q.r3 ?_ | refine Q.r4 ?_ | refine Q.r5 ?_))
      · rw [helpO_no3 h]
        refine ⟨?_⟩; refine Spec.ofR (h := fun F w0 => ?_)
        repeat' ((conv => whnf); first | refine Q.E ?_ | (refine Stk.both (fun hb => ?_) (fun hb => ?_) <;> (try simp only [lE] at hb))); all_goals (conv => whnf)
        all_goals first | (exfalso; omega) | (refine Q.r6 (h := ?_); repeat' (first | exact Q.r0 | refine Q.r1 ?_ ?_ | refine Q.r2 ?_ | exact Q.r7 | refine Q.r3 ?_ | refine Q.r4 ?_ | refine Q.r5 ?_))
instance refhelp_spec (r : Rpl) (e : Ent) (d : Int) : HasSpec Tryz.prog 25 [.agg r.cs, .agg e.cs, PV.int d] (PV.outs (helpO r e d)) := by
  have hp := settB_iff (p := e.phase)
  cases h1 : settB e.phase with
  | false =>
    have h5 : e.phase ≠ 5 ∧ e.phase ≠ 6 := by
      rw [h1] at hp
      simp at hp
      omega
    rw [helpO_no1 h1]
    refine ⟨?_⟩; refine Spec.ofR (h := fun F w0 => ?_)
    repeat' ((conv => whnf); first | refine Q.E ?_ | (refine Stk.both (fun hb => ?_) (fun hb => ?_) <;> (try simp only [lE] at hb))); all_goals (conv => whnf)
    (refine Q.r6 (h := ?_); repeat' (first | exact Q.r0 | refine Q.r1 ?_ ?_ | refine Q.r2 ?_ | exact Q.r7 | refine Q.r3 ?_ | refine Q.r4 ?_ | refine Q.r5 ?_))
  | true =>
    have h5 := hp.1 h1
    cases h2 : repB r with
    | false =>
      have j1 := rstbad' h2
      rw [helpO_no2 h2]
      refine ⟨?_⟩; refine Spec.ofR (h := fun F w0 => ?_)
      repeat' ((conv => whnf); first | refine Q.E ?_ | (refine Stk.both (fun hb => ?_) (fun hb => ?_) <;> (try simp only [lE] at hb))); all_goals (conv => whnf)
      all_goals first | (exfalso; omega) | (refine Q.r6 (h := ?_); repeat' (first | exact Q.r0 | refine Q.r1 ?_ ?_ | refine Q.r2 ?_ | exact Q.r7 | refine Q.r3 ?_ | refine Q.r4 ?_ | refine Q.r5 ?_))
    | true =>
      have j1 := rstok' h2
      by_cases h : 1 ≤ d ∧ d ≤ r.n ∧ d ≠ r.self
      · rw [helpO_yes h1 h2 h]
        refine HasSpec.mono ?_ (raw_out (o := ⟨d, tolM r e⟩) rfl rfl)
        refine ⟨?_⟩; refine Spec.ofR (h := fun F w0 => ?_)
        repeat' ((conv => whnf); first | refine Q.E ?_ | (refine Stk.both (fun hb => ?_) (fun hb => ?_) <;> (try simp only [lE] at hb))); all_goals (conv => whnf)
        all_goals first | (exfalso; omega) | (refine Q.r6 (h := ?_); repeat' (first | exact Q.r0 | refine Q.r1 ?_ ?_ | refine Q.r2 ?_ | exact Q.r7 | refine Q.r3 ?_ | refine Q.r4 ?_ | refine Q.r5 ?_))
      · rw [helpO_no3 h]
        refine ⟨?_⟩; refine Spec.ofR (h := fun F w0 => ?_)
        repeat' ((conv => whnf); first | refine Q.E ?_ | (refine Stk.both (fun hb => ?_) (fun hb => ?_) <;> (try simp only [lE] at hb))); all_goals (conv => whnf)
        all_goals first | (exfalso; omega) | (refine Q.r6 (h := ?_); repeat' (first | exact Q.r0 | refine Q.r1 ?_ ?_ | refine Q.r2 ?_ | exact Q.r7 | refine Q.r3 ?_ | refine Q.r4 ?_ | refine Q.r5 ?_))
end Go.Proofs.YtbjepdfnmbdplaaGreat
end
section
namespace Go.Proofs.YtbjepdfnmbdplaaGreat
open Go.RowKit
set_option linter.unusedSimpArgs false
set_option linter.unusedVariables false
set_option maxRecDepth 100000
set_option maxHeartbeats 2000000
def firstB (b n : Int) : Bool := decide (3 ≤ n ∧ n ≤ 9 ∧ 1 ≤ b ∧ b ≤ n)
def nextOk (b s n : Int) : Bool := decide (3 ≤ n ∧ n ≤ 9 ∧ 1 ≤ s ∧ s ≤ n ∧ 0 ≤ b ∧ b ≤ 1000000)
def nextT (b s n : Int) : Int := max b n + 1 + (s - ((max b n + 1 - 1) % n + 1) + n) % n
def nextI (b s n : Int) : Int := if nextOk b s n = true then (if nextT b s n ≤ 1000000 then nextT b s n else 0) else 0
def nextX (b s n : Int) : Int := if nextOk b s n = true then (if nextT b s n ≤ 1000000 then 0 else 8) else 2
instance first_spec (b n : Int) : HasSpec Tryz.prog 102 [PV.int b, PV.int n] (.v (.bool (firstB b n))) := by
  unfold firstB
  cases hm : manyB n with
  | true =>
    have hn := many_iff.1 hm
    refine ⟨?_⟩; refine Spec.ofR (h := fun F w0 => ?_)
    repeat' ((conv => whnf); first | refine Q.a ?_ | refine Q.b ?_ | refine Q.c ?_ | refine Stk.is (by first | assumption | ((try simp only [lE]); first | done | assumption | omega)) ?_ | refine Stk.isnt (by first | assumption | ((try simp only [lE]); first | done | assumption | omega)) ?_ | (refine Stk.both (fun hb => ?_) (fun hb => ?_) <;> (try simp only [lE] at hb)) | refine Q.d ?_ | refine Q.e ?_ | refine Q.f ?_ | refine Q.g ?_ | refine Q.h ?_ | refine Q.i ?_ | refine Q.j ?_ | refine Q.k ?_ | refine Q.l ?_ | refine Q.m ?_ | refine Q.n ?_ | refine Q.o (h := ?_) | refine Q.p (h := ?_) | refine Q.q ?_ | refine Q.r ?_ | refine Q.s ?_ | refine Q.t ?_ | refine Q.u ?_ | refine Q.v ?_ | refine Q.w ?_ | refine Q.x ?_ | refine Q.y ?_ | refine Q.z ?_ | refine Stk.inl (h := fun tm => ?_) | refine Stk.inl0 (h := fun tm => ?_) | refine DefG.go (h := fun vs us => ?_) | intro (tm : Array Value) | refine Stk.op (ok_buildA rfl rfl rfl rfl) ?_ | refine Stk.scope ?_); all_goals (conv => whnf)
    all_goals (refine Q.r6 (h := ?_); repeat' (first | exact Q.r0 | refine Q.r1 ?_ ?_ | refine Q.r2 ?_ | exact Q.r7 | refine Q.r3 ?_ | refine Q.r4 ?_ | refine Q.r5 ?_))
    all_goals first | (rw [tst_eq, decide_eq_decide]; omega) | exact (decide_eq_false (by omega)).symm
  | false =>
    have hn := many_f.1 hm
    rw [decide_eq_false (by omega)]
    refine ⟨?_⟩; refine Spec.ofR (h := fun F w0 => ?_)
    repeat' ((conv => whnf); first | refine Q.a ?_ | refine Q.b ?_ | refine Q.c ?_ | refine Stk.is (by first | assumption | ((try simp only [lE]); first | done | assumption | omega)) ?_ | refine Stk.isnt (by first | assumption | ((try simp only [lE]); first | done | assumption | omega)) ?_ | (refine Stk.both (fun hb => ?_) (fun hb => ?_) <;> (try simp only [lE] at hb)) | refine Q.d ?_ | refine Q.e ?_ | refine Q.f ?_ | refine Q.g ?_ | refine Q.h ?_ | refine Q.i ?_ | refine Q.j ?_ | refine Q.k ?_ | refine Q.l ?_ | refine Q.m ?_ | refine Q.n ?_ | refine Q.o (h := ?_) | refine Q.p (h := ?_) | refine Q.q ?_ | refine Q.r ?_ | refine Q.s ?_ | refine Q.t ?_ | refine Q.u ?_ | refine Q.v ?_ | refine Q.w ?_ | refine Q.x ?_ | refine Q.y ?_ | refine Q.z ?_ | refine Stk.inl (h := fun tm => ?_) | refine Stk.inl0 (h := fun tm => ?_) | refine DefG.go (h := fun vs us => ?_) | intro (tm : Array Value) | refine Stk.op (ok_buildA rfl rfl rfl rfl) ?_ | refine Stk.scope ?_); all_goals (conv => whnf)
    all_goals (refine Q.r6 (h := ?_); repeat' (first | exact Q.r0 | refine Q.r1 ?_ ?_ | refine Q.r2 ?_ | exact Q.r7 | refine Q.r3 ?_ | refine Q.r4 ?_ | refine Q.r5 ?_))
theorem next_no {b s n : Int} (h : nextOk b s n = false) : nextI b s n = 0 ∧ nextX b s n = 2 := ⟨if_neg (by rw [h]; simp), if_neg (by rw [h]; simp)⟩
theorem next_yes {b s n : Int} (h : nextOk b s n = true) (h2 : nextT b s n ≤ 1000000) : nextI b s n = nextT b s n ∧ nextX b s n = 0 := ⟨(if_pos h).trans (if_pos h2), (if_pos h).trans (if_pos h2)⟩
theorem next_far {b s n : Int} (h : nextOk b s n = true) (h2 : ¬ nextT b s n ≤ 1000000) : nextI b s n = 0 ∧ nextX b s n = 8 := ⟨(if_pos h).trans (if_neg h2), (if_pos h).trans (if_neg h2)⟩
instance next_spec (b s n : Int) : HasSpec Tryz.prog 98 [PV.int b, PV.int s, PV.int n] (.tup [PV.int (nextI b s n), PV.int (nextX b s n)]) := by
  cases h : nextOk b s n with
  | false =>
    rw [(next_no h).1, (next_no h).2]
    have hk := of_decide_eq_false h
    cases hm : manyB n with
    | true =>
      have hn := many_iff.1 hm
      refine ⟨?_⟩; refine Spec.ofR (h := fun F w0 => ?_)
      repeat' ((conv => whnf); first | refine Q.a ?_ | refine Q.b ?_ | refine Q.c ?_ | refine Stk.is (by first | assumption | ((try simp only [lE]); first | done | assumption | omega)) ?_ | refine Stk.isnt (by first | assumption | ((try simp only [lE]); first | done | assumption | omega)) ?_ | (refine Stk.both (fun hb => ?_) (fun hb => ?_) <;> (try simp only [lE] at hb)) | refine Q.d ?_ | refine Q.e ?_ | refine Q.f ?_ | refine Q.g ?_ | refine Q.h ?_ | refine Q.i ?_ | refine Q.j ?_ | refine Q.k ?_ | refine Q.l ?_ | refine Q.m ?_ | refine Q.n ?_ | refine Q.o (h := ?_) | refine Q.p (h := ?_) | refine Q.q ?_ | refine Q.r ?_ | refine Q.s ?_ | refine Q.t ?_ | refine Q.u ?_ | refine Q.v ?_ | refine Q.w ?_ | refine Q.x ?_ | refine Q.y ?_ | refine Q.z ?_ | refine Stk.inl (h := fun tm => ?_) | refine Stk.inl0 (h := fun tm => ?_) | refine DefG.go (h := fun vs us => ?_) | intro (tm : Array Value) | refine Stk.op (ok_buildA rfl rfl rfl rfl) ?_ | refine Stk.scope ?_); all_goals (conv => whnf)
      all_goals first | (exfalso; omega) | (refine Q.r6 (h := ?_); repeat' (first | exact Q.r0 | refine Q.r1 ?_ ?_ | refine Q.r2 ?_ | exact Q.r7 | refine Q.r3 ?_ | refine Q.r4 ?_ | refine Q.r5 ?_))
    | false =>
      refine ⟨?_⟩; refine Spec.ofR (h := fun F w0 => ?_)
      repeat' ((conv => whnf); first | refine Q.a ?_ | refine Q.b ?_ | refine Q.c ?_ | refine Stk.is (by first | assumption | ((try simp only [lE]); first | done | assumption | omega)) ?_ | refine Stk.isnt (by first | assumption | ((try simp only [lE]); first | done | assumption | omega)) ?_ | (refine Stk.both (fun hb => ?_) (fun hb => ?_) <;> (try simp only [lE] at hb)) | refine Q.d ?_ | refine Q.e ?_ | refine Q.f ?_ | refine Q.g ?_ | refine Q.h ?_ | refine Q.i ?_ | refine Q.j ?_ | refine Q.k ?_ | refine Q.l ?_ | refine Q.m ?_ | refine Q.n ?_ | refine Q.o (h := ?_) | refine Q.p (h := ?_) | refine Q.q ?_ | refine Q.r ?_ | refine Q.s ?_ | refine Q.t ?_ | refine Q.u ?_ | refine Q.v ?_ | refine Q.w ?_ | refine Q.x ?_ | refine Q.y ?_ | refine Q.z ?_ | refine Stk.inl (h := fun tm => ?_) | refine Stk.inl0 (h := fun tm => ?_) | refine DefG.go (h := fun vs us => ?_) | intro (tm : Array Value) | refine Stk.op (ok_buildA rfl rfl rfl rfl) ?_ | refine Stk.scope ?_); all_goals (conv => whnf)
      all_goals (refine Q.r6 (h := ?_); repeat' (first | exact Q.r0 | refine Q.r1 ?_ ?_ | refine Q.r2 ?_ | exact Q.r7 | refine Q.r3 ?_ | refine Q.r4 ?_ | refine Q.r5 ?_))
  | true =>
    have hk := of_decide_eq_true h
    have hm := many_iff.2 ⟨hk.1, hk.2.1⟩
    have hx : 0 ≤ (max b n + 1 - 1) % n ∧ (max b n + 1 - 1) % n < n := ⟨Int.emod_nonneg _ (by omega), Int.emod_lt_of_pos _ (by omega)⟩
    have hy : 0 ≤ (s - ((max b n + 1 - 1) % n + 1) + n) % n ∧ (s - ((max b n + 1 - 1) % n + 1) + n) % n < n := ⟨Int.emod_nonneg _ (by omega), Int.emod_lt_of_pos _ (by omega)⟩
    by_cases h2 : nextT b s n ≤ 1000000
    · rw [(next_yes h h2).1, (next_yes h h2).2]
      unfold nextT at *
      refine ⟨?_⟩; refine Spec.ofR (h := fun F w0 => ?_)
      repeat' ((conv => whnf); first | refine Q.a ?_ | refine Q.b ?_ | refine Q.c ?_ | refine Stk.is (by first | assumption | ((try simp only [lE]); first | done | assumption | omega)) ?_ | refine Stk.isnt (by first | assumption | ((try simp only [lE]); first | done | assumption | omega)) ?_ | (refine Stk.both (fun hb => ?_) (fun hb => ?_) <;> (try simp only [lE] at hb)) | refine Q.d ?_ | refine Q.e ?_ | refine Q.f ?_ | refine Q.g ?_ | refine Q.h ?_ | refine Q.i ?_ | refine Q.j ?_ | refine Q.k ?_ | refine Q.l ?_ | refine Q.m ?_ | refine Q.n ?_ | refine Q.o (h := ?_) | refine Q.p (h := ?_) | refine Q.q ?_ | refine Q.r ?_ | refine Q.s ?_ | refine Q.t ?_ | refine Q.u ?_ | refine Q.v ?_ | refine Q.w ?_ | refine Q.x ?_ | refine Q.y ?_ | refine Q.z ?_ | refine Stk.inl (h := fun tm => ?_) | refine Stk.inl0 (h := fun tm => ?_) | refine DefG.go (h := fun vs us => ?_) | intro (tm : Array Value) | refine Stk.op (ok_buildA rfl rfl rfl rfl) ?_ | refine Stk.scope ?_); all_goals (conv => whnf)
      all_goals (refine Q.r6 (h := ?_); repeat' (first | exact Q.r0 | refine Q.r1 ?_ ?_ | refine Q.r2 ?_ | exact Q.r7 | refine Q.r3 ?_ | refine Q.r4 ?_ | refine Q.r5 ?_))
    · rw [(next_far h h2).1, (next_far h h2).2]
      unfold nextT at *
      refine ⟨?_⟩; refine Spec.ofR (h := fun F w0 => ?_)
      repeat' ((conv => whnf); first | refine Q.a ?_ | refine Q.b ?_ | refine Q.c ?_ | refine Stk.is (by first | assumption | ((try simp only [lE]); first | done | assumption | omega)) ?_ | refine Stk.isnt (by first | assumption | ((try simp only [lE]); first | done | assumption | omega)) ?_ | (refine Stk.both (fun hb => ?_) (fun hb => ?_) <;> (try simp only [lE] at hb)) | refine Q.d ?_ | refine Q.e ?_ | refine Q.f ?_ | refine Q.g ?_ | refine Q.h ?_ | refine Q.i ?_ | refine Q.j ?_ | refine Q.k ?_ | refine Q.l ?_ | refine Q.m ?_ | refine Q.n ?_ | refine Q.o (h := ?_) | refine Q.p (h := ?_) | refine Q.q ?_ | refine Q.r ?_ | refine Q.s ?_ | refine Q.t ?_ | refine Q.u ?_ | refine Q.v ?_ | refine Q.w ?_ | refine Q.x ?_ | refine Q.y ?_ | refine Q.z ?_ | refine Stk.inl (h := fun tm => ?_) | refine Stk.inl0 (h := fun tm => ?_) | refine DefG.go (h := fun vs us => ?_) | intro (tm : Array Value) | refine Stk.op (ok_buildA rfl rfl rfl rfl) ?_ | refine Stk.scope ?_); all_goals (conv => whnf)
      all_goals (refine Q.r6 (h := ?_); repeat' (first | exact Q.r0 | refine Q.r1 ?_ ?_ | refine Q.r2 ?_ | exact Q.r7 | refine Q.r3 ?_ | refine Q.r4 ?_ | refine Q.r5 ?_))
theorem own_step {b s n x : Int} (hk : 3 ≤ n ∧ n ≤ 9 ∧ 1 ≤ s ∧ s ≤ n ∧ 0 ≤ b ∧ b ≤ 1000000) (h1 : max b n + 1 ≤ x) (h2 : x ≤ nextT b s n) (hx : x ≤ 1000000) : (ownI x n = s ↔ x = nextT b s n) := by
  rw [show ownI x n = (x - 1) % n + 1 from if_pos ⟨hk.1, hk.2.1, by omega, hx⟩]
  unfold nextT at *
  generalize max b n = m at *
  obtain rfl | rfl | rfl | rfl | rfl | rfl | rfl : n = 3 ∨ n = 4 ∨ n = 5 ∨ n = 6 ∨ n = 7 ∨ n = 8 ∨ n = 9 := by omega
  all_goals omega
instance refnext_spec (b s n : Int) : HasSpec Tryz.prog 101 [PV.int b, PV.int s, PV.int n] (.tup [PV.int (nextI b s n), PV.int (nextX b s n)]) := by
  cases h : nextOk b s n with
  | false =>
    rw [(next_no h).1, (next_no h).2]
    have hk := of_decide_eq_false h
    refine ⟨?_⟩; refine Spec.ofR (h := fun F w0 => ?_)
    repeat' ((conv => whnf); first | refine Q.E ?_ | (refine Stk.both (fun hb => ?_) (fun hb => ?_) <;> (try simp only [lE] at hb))); all_goals (conv => whnf)
    all_goals first | (exfalso; omega) | (refine Q.r6 (h := ?_); repeat' (first | exact Q.r0 | refine Q.r1 ?_ ?_ | refine Q.r2 ?_ | exact Q.r7 | refine Q.r3 ?_ | refine Q.r4 ?_ | refine Q.r5 ?_))
  | true =>
    have hk := of_decide_eq_true h
    have hT : max b n + 1 ≤ nextT b s n := by
      have := Int.emod_nonneg (s - ((max b n + 1 - 1) % n + 1) + n) (b := n) (by omega)
      unfold nextT
      omega
    have hstep := fun x => @own_step b s n x hk
    have hres : nextI b s n = (if nextT b s n ≤ 1000000 then nextT b s n else 0) ∧ nextX b s n = (if nextT b s n ≤ 1000000 then 0 else 8) := ⟨if_pos h, if_pos h⟩
    rw [hres.1, hres.2]
    generalize nextT b s n = t at *
    clear hres
    obtain ⟨M, hM, hM1, hM2⟩ : ∃ M, max b n = M ∧ (b ≤ n → M = n) ∧ (n ≤ b → M = b) := ⟨_, rfl, by omega, by omega⟩
    rw [hM] at hT
    have hst : ∀ x, M + 1 ≤ x → x ≤ t → x ≤ 1000000 → (ownI x n = s ↔ x = t) := by rw [← hM]; exact hstep
    clear hstep
    refine ⟨?_⟩; refine Spec.ofR (h := fun F w0 => ?_)
    repeat' ((conv => whnf); first | refine Q.E ?_ | (refine Stk.both (fun hb => ?_) (fun hb => ?_) <;> (try simp only [lE] at hb))); all_goals (conv => whnf)
    · obtain rfl : M = n := hM1 (by omega)
      refine Stk.loop (ι := Int) (fun x => [(1, PV.int s), (2, PV.int M), (8, PV.int x)]) (fun _ => []) (fun x => M + 1 ≤ x ∧ x ≤ t ∧ x ≤ 1000001) (fun x => (1000001 - x).toNat) (M + 1) ⟨by omega, by omega, by omega⟩ (Weak.gc ⟨rfl, rfl, rfl, trivial⟩ trivial rfl rfl rfl) (fun x hx => ?_)
      by_cases hl : x ≤ 1000000
      · have ho := hst x hx.1 hx.2.1 hl
        by_cases ht : x = t
        · have ho := ho.2 ht
          rw [if_pos (by omega), if_pos (by omega)]
          subst ht
          repeat' ((conv => whnf); first | refine Q.E ?_ | (refine Stk.both (fun hb => ?_) (fun hb => ?_) <;> (try simp only [lE] at hb))); all_goals (conv => whnf)
          (refine Q.r6 (h := ?_); repeat' (first | exact Q.r0 | refine Q.r1 ?_ ?_ | refine Q.r2 ?_ | exact Q.r7 | refine Q.r3 ?_ | refine Q.r4 ?_ | refine Q.r5 ?_))
        · have ho : ¬ _ := fun e => ht (ho.1 e)
          repeat' ((conv => whnf); first | refine Q.E ?_ | (refine Stk.both (fun hb => ?_) (fun hb => ?_) <;> (try simp only [lE] at hb))); all_goals (conv => whnf)
          exact ⟨x + 1, ⟨by omega, by omega, by omega⟩, by omega, Weak.gc ⟨rfl, rfl, rfl, trivial⟩ trivial rfl rfl rfl⟩
      · rw [if_neg (by omega), if_neg (by omega)]
        repeat' ((conv => whnf); first | refine Q.E ?_ | (refine Stk.both (fun hb => ?_) (fun hb => ?_) <;> (try simp only [lE] at hb))); all_goals (conv => whnf)
        (refine Q.r6 (h := ?_); repeat' (first | exact Q.r0 | refine Q.r1 ?_ ?_ | refine Q.r2 ?_ | exact Q.r7 | refine Q.r3 ?_ | refine Q.r4 ?_ | refine Q.r5 ?_))
    · obtain rfl : M = b := hM2 (by omega)
      refine Stk.loop (ι := Int) (fun x => [(1, PV.int s), (2, PV.int n), (8, PV.int x)]) (fun _ => []) (fun x => M + 1 ≤ x ∧ x ≤ t ∧ x ≤ 1000001) (fun x => (1000001 - x).toNat) (M + 1) ⟨by omega, by omega, by omega⟩ (Weak.gc ⟨rfl, rfl, rfl, trivial⟩ trivial rfl rfl rfl) (fun x hx => ?_)
      by_cases hl : x ≤ 1000000
      · have ho := hst x hx.1 hx.2.1 hl
        by_cases ht : x = t
        · have ho := ho.2 ht
          rw [if_pos (by omega), if_pos (by omega)]
          subst ht
          repeat' ((conv => whnf); first | refine Q.E ?_ | (refine Stk.both (fun hb => ?_) (fun hb => ?_) <;> (try simp only [lE] at hb))); all_goals (conv => whnf)
          (refine Q.r6 (h := ?_); repeat' (first | exact Q.r0 | refine Q.r1 ?_ ?_ | refine Q.r2 ?_ | exact Q.r7 | refine Q.r3 ?_ | refine Q.r4 ?_ | refine Q.r5 ?_))
        · have ho : ¬ _ := fun e => ht (ho.1 e)
          repeat' ((conv => whnf); first | refine Q.E ?_ | (refine Stk.both (fun hb => ?_) (fun hb => ?_) <;> (try simp only [lE] at hb))); all_goals (conv => whnf)
          exact ⟨x + 1, ⟨by omega, by omega, by omega⟩, by omega, Weak.gc ⟨rfl, rfl, rfl, trivial⟩ trivial rfl rfl rfl⟩
      · rw [if_neg (by omega), if_neg (by omega)]
        repeat' ((conv => whnf); first | refine Q.E ?_ | (refine Stk.both (fun hb => ?_) (fun hb => ?_) <;> (try simp only [lE] at hb))); all_goals (conv => whnf)
        (refine Q.r6 (h := ?_); repeat' (first | exact Q.r0 | refine Q.r1 ?_ ?_ | refine Q.r2 ?_ | exact Q.r7 | refine Q.r3 ?_ | refine Q.r4 ?_ | refine Q.r5 ?_))
end Go.Proofs.YtbjepdfnmbdplaaGreat
end
section
namespace Go.Proofs.YtbjepdfnmbdplaaGreat
open Go.RowKit
set_option linter.unusedSimpArgs false
set_option linter.unusedVariables false
theorem ents_pw {l : List Ent} : entsB l = true ↔ l.length ≤ 40 ∧ (∀ x ∈ l, entB x = true) ∧ l.Pairwise (fun a b => a.id < b.id) := by
  rw [entsB_iff]
  refine ⟨fun ⟨h1, h2⟩ => ⟨h1, fun x hx => ?_, ?_⟩, fun ⟨h1, h2, h3⟩ => ⟨h1, fun i hi _ => ⟨h2 _ (List.getElem_mem hi), fun h0 => ?_⟩⟩⟩
  · obtain ⟨i, hi, rfl⟩ := List.getElem_of_mem hx
    exact (h2 i hi hi).1
  · rw [List.pairwise_iff_getElem]
    intro i j hi hj hij
    exact rise_lt h2 j hj i hij
  · rw [List.pairwise_iff_getElem] at h3
    exact h3 (i - 1) i (by omega) hi (by omega)
theorem find_mem {l : List Ent} {id : Int} (h : findB l id = true) : findT l id ∈ l ∧ (findT l id).id = id := by
  obtain ⟨k, hk, h0, h1⟩ := isId_first h
  rw [(find_at hk h0 h1).1]
  exact ⟨List.getElem_mem hk, of_decide_eq_true h1⟩
theorem find_uniq {l : List Ent} (hl : l.Pairwise (fun a b => a.id < b.id)) {x : Ent} (hx : x ∈ l) : findB l x.id = true ∧ findT l x.id = x := by
  have h1 : findB l x.id = true := List.any_eq_true.2 ⟨x, hx, decide_eq_true rfl⟩
  refine ⟨h1, ?_⟩
  obtain ⟨h2, h3⟩ := find_mem h1
  obtain ⟨i, hi, ei⟩ := List.getElem_of_mem h2
  obtain ⟨j, hj, ej⟩ := List.getElem_of_mem hx
  rw [List.pairwise_iff_getElem] at hl
  rcases Nat.lt_trichotomy i j with h | h | h
  · have := hl i j hi hj h
    rw [ei, ej] at this
    omega
  · subst h
    rw [← ei, ej]
  · have := hl j i hj hi h
    rw [ei, ej] at this
    omega
theorem find_not {l : List Ent} {id : Int} (h : findB l id = false) : ∀ x ∈ l, x.id ≠ id := fun x hx e => by
  have := List.any_eq_false.1 h x hx
  exact this (decide_eq_true e)
theorem put_mem {l : List Ent} {e : Ent} (hl : entsB l = true) (x : Ent) : x ∈ putE l e ↔ x = e ∨ (x ∈ l ∧ x.id ≠ e.id) := by
  have hr := (entsB_iff.1 hl).2
  obtain ⟨h40, h2, h3⟩ := ents_pw.1 hl
  obtain ⟨hs1, hs2⟩ := pos_split hr e.id
  unfold putE
  cases hf : findB l e.id with
  | true =>
    obtain ⟨hp, hid⟩ := pos_found hr hf
    rw [if_pos rfl]
    constructor
    · intro h
      obtain ⟨i, hi, rfl⟩ := List.getElem_of_mem h
      rw [List.length_set] at hi
      by_cases e1 : posE l e.id = i
      · left; rw [List.getElem_set, if_pos e1]
      · right
        rw [List.getElem_set, if_neg e1]
        refine ⟨List.getElem_mem hi, fun e2 => ?_⟩
        rw [List.pairwise_iff_getElem] at h3
        rcases Nat.lt_or_ge i (posE l e.id) with h | h
        · have := h3 i (posE l e.id) hi hp h; omega
        · have := h3 (posE l e.id) i hp hi (by omega); omega
    · rintro (rfl | ⟨hx, hne⟩)
      · exact List.mem_set hp _
      · obtain ⟨i, hi, rfl⟩ := List.getElem_of_mem hx
        have e1 : posE l e.id ≠ i := fun h => by subst h; exact hne hid
        have : (l.set (posE l e.id) e)[i]'(by rw [List.length_set]; exact hi) = l[i] := by rw [List.getElem_set, if_neg e1]
        rw [← this]
        exact List.getElem_mem _
  | false =>
    rw [if_neg (by simp)]
    have hn := find_not hf
    rw [List.mem_append, List.mem_append, List.mem_singleton]
    constructor
    · rintro ((h | h) | h)
      · exact .inr ⟨List.mem_of_mem_take h, hn x (List.mem_of_mem_take h)⟩
      · exact .inl h
      · exact .inr ⟨List.mem_of_mem_drop h, hn x (List.mem_of_mem_drop h)⟩
    · rintro (h | ⟨h, _⟩)
      · exact .inl (.inr h)
      · rw [← List.take_append_drop (posE l e.id) l, List.mem_append] at h
        exact h.imp .inl id
theorem put_pw {l : List Ent} {e : Ent} (hl : entsB l = true) : (putE l e).Pairwise (fun a b => a.id < b.id) := by
  have hr := (entsB_iff.1 hl).2
  obtain ⟨h40, h2, h3⟩ := ents_pw.1 hl
  obtain ⟨hs1, hs2⟩ := pos_split hr e.id
  unfold putE
  cases hf : findB l e.id with
  | true =>
    obtain ⟨hp, hid⟩ := pos_found hr hf
    rw [if_pos rfl, List.pairwise_iff_getElem]
    rw [List.pairwise_iff_getElem] at h3
    intro i j hi hj hij
    rw [List.length_set] at hi hj
    have hg : ∀ k (hk : k < l.length), ((l.set (posE l e.id) e)[k]'(by rw [List.length_set]; exact hk)).id = l[k].id := by
      intro k hk
      rw [List.getElem_set]
      split
      · rename_i h
        subst h
        exact hid.symm
      · rfl
    rw [hg i hi, hg j hj]
    exact h3 i j hi hj hij
  | false =>
    rw [if_neg (by simp), List.append_assoc, List.pairwise_append]
    have hn := pos_not hr hf
    have ht : ∀ a ∈ l.take (posE l e.id), a.id < e.id := fun a ha => by
      obtain ⟨i, hi, rfl⟩ := List.mem_take_iff_getElem.1 ha
      exact hs1 i (by omega) (by omega)
    have hd : ∀ b ∈ l.drop (posE l e.id), e.id < b.id := fun b hb => by
      obtain ⟨i, hi, rfl⟩ := List.mem_drop_iff_getElem.1 hb
      exact hn _ (by omega) (by omega)
    refine ⟨h3.sublist (List.take_sublist _ _), ?_, fun a ha b hb => ?_⟩
    · rw [List.singleton_append, List.pairwise_cons]
      exact ⟨hd, h3.sublist (List.drop_sublist _ _)⟩
    · rw [List.singleton_append, List.mem_cons] at hb
      rcases hb with rfl | hb
      · exact ht a ha
      · exact Int.lt_trans (ht a ha) (hd b hb)
theorem put_len {l : List Ent} {e : Ent} (hl : entsB l = true) (h0 : putX l e = 0) : (putE l e).length ≤ 40 := by
  have h40 := (entsB_iff.1 hl).1
  have hp := pos_le l e.id
  unfold putE
  split
  · rw [List.length_set]; exact h40
  · rename_i hf
    have h : l.length < 40 := by
      unfold putX at h0
      split at h0
      · cases h0
      · split at h0
        · assumption
        · cases h0
    simp only [List.length_append, List.length_take, List.length_drop, List.length_singleton]
    omega
theorem putX_ent {l : List Ent} {e : Ent} (h0 : putX l e = 0) : entsB l = true ∧ entB e = true := by
  unfold putX at h0
  split at h0
  · cases h0
  · rename_i h
    exact Classical.not_not.1 h
theorem put_ents {l : List Ent} {e : Ent} (h0 : putX l e = 0) : entsB (putE l e) = true := by
  obtain ⟨hl, he⟩ := putX_ent h0
  refine ents_pw.2 ⟨put_len hl h0, fun x hx => ?_, put_pw hl⟩
  rcases (put_mem hl x).1 hx with rfl | ⟨hx, _⟩
  · exact he
  · exact (ents_pw.1 hl).2.1 x hx
theorem put_find {l : List Ent} {e : Ent} (hl : entsB l = true) (id : Int) : (e.id = id → findB (putE l e) id = true ∧ findT (putE l e) id = e) ∧ (e.id ≠ id → findB l id = true → findB (putE l e) id = true ∧ findT (putE l e) id = findT l id) := by
  constructor
  · rintro rfl
    exact find_uniq (put_pw hl) ((put_mem hl e).2 (.inl rfl))
  · intro hne hf
    obtain ⟨h1, h2⟩ := find_mem hf
    have := find_uniq (put_pw hl) ((put_mem hl (findT l id)).2 (.inr ⟨h1, fun h => hne (by rw [← h, h2])⟩))
    rwa [h2] at this
theorem rput_parts {r : Rpl} {e : Ent} (h : rputX r e = 0) : repB r = true ∧ (1 ≤ selfI e.id ∧ selfI e.id ≤ r.n) ∧ ¬ (doneAt r e.id = true ∧ e.phase ≠ 6) ∧ putX r.entries e = 0 := by
  unfold rputX at h
  split at h
  · cases h
  · rename_i h1
    split at h
    · cases h
    · rename_i h2
      obtain ⟨h3, h4⟩ := Classical.not_not.1 h1
      exact ⟨h3, h4, h2, h⟩
theorem rep_ents {r : Rpl} (h : repB r = true) : entsB r.entries = true ∧ ∀ x ∈ r.entries, selfI x.id ≤ r.n := by
  have h2 := (rep_parts h).2.1
  unfold cmdB at h2
  rw [Bool.and_eq_true, Bool.not_eq_true'] at h2
  refine ⟨h2.1, fun x hx => ?_⟩
  have := List.any_eq_false.1 h2.2 x hx
  unfold farB at this
  rw [decide_eq_true_iff] at this
  omega
theorem clk_later {now now2 floor : Int} {own : List Att} (h : clkB now floor own = true) (h1 : now ≤ now2) (h2 : now2 ≤ 1000000) : clkB now2 floor own = true := by
  unfold clkB at h ⊢
  rw [Bool.and_eq_true, decide_eq_true_iff] at h
  rw [decide_eq_true (show 0 ≤ floor ∧ floor ≤ now2 ∧ now2 ≤ 1000000 by omega), Bool.true_and]
  refine pref_iff.2 fun i hi => ?_
  have := ownP_iff.1 (pref_iff.1 h.2 i hi)
  exact ownP_iff.2 ⟨⟨this.1.1, this.1.2.1, by omega, this.1.2.2.2⟩, this.2⟩
theorem clk_le {now floor : Int} {own : List Att} (h : clkB now floor own = true) : 0 ≤ floor ∧ floor ≤ now ∧ now ≤ 1000000 := by
  unfold clkB at h
  rw [Bool.and_eq_true, decide_eq_true_iff] at h
  exact h.1
theorem rep_with {r : Rpl} {l : List Ent} {c : Int} (h : repB r = true) (hl : entsB l = true) (hs : ∀ x ∈ l, selfI x.id ≤ r.n) (h1 : r.clock ≤ c) (h2 : c ≤ 1000000) : repB { r with entries := l, clock := c } = true := by
  obtain ⟨a1, a2, a3, a4⟩ := rep_parts h
  obtain ⟨b1, b2⟩ := nums_p a1
  have c1 : numsB { r with entries := l, clock := c } = true := by
    rw [nums_yes (r := { r with entries := l, clock := c }) b1]
    exact clk_later b2 h1 h2
  have c2 : cmdB { r with entries := l, clock := c } = true := by
    unfold cmdB
    show (entsB l && !l.any (farB r.n)) = true
    rw [hl, Bool.true_and, Bool.not_eq_true']
    exact List.any_eq_false.2 fun x hx => by
      unfold farB
      rw [decide_eq_true_iff]
      have := hs x hx
      omega
  unfold repB
  rw [c1, c2, show hrsB { r with entries := l, clock := c } = hrsB r from rfl, show finB { r with entries := l, clock := c } = finB r from rfl, a3, a4]
  rfl
theorem put_self {r : Rpl} {e : Ent} (h : rputX r e = 0) : ∀ x ∈ putE r.entries e, selfI x.id ≤ r.n := by
  obtain ⟨h1, h2, _, h4⟩ := rput_parts h
  obtain ⟨h5, h6⟩ := rep_ents h1
  intro x hx
  rcases (put_mem h5 x).1 hx with rfl | ⟨hx, _⟩
  · exact h2.2
  · exact h6 x hx
theorem rep_clock {r : Rpl} (h : repB r = true) : r.clock ≤ 1000000 := (clk_le (nums_p (rep_parts h).1).2).2.2
theorem rput_rep {r : Rpl} {e : Ent} (h : rputX r e = 0) : repB (rputR r e) = true := by
  obtain ⟨h1, h2, _, h4⟩ := rput_parts h
  rw [rputR_yes h]
  exact rep_with (c := r.clock) h1 (put_ents h4) (put_self h) (Int.le_refl _) (rep_clock h1)
structure Stays (r s : Rpl) : Prop where
  n : s.n = r.n
  f : s.f = r.f
  self : s.self = r.self
  seq : s.seq = r.seq
  clock : r.clock ≤ s.clock
  rep : repB r = true → repB s = true
theorem Stays.refl (r : Rpl) : Stays r r := ⟨rfl, rfl, rfl, rfl, Int.le_refl _, id⟩
theorem rput_stays (r : Rpl) (e : Ent) : Stays r (rputR r e) := by
  by_cases h : rputX r e = 0
  · exact ⟨by rw [rputR_yes h], by rw [rputR_yes h], by rw [rputR_yes h], by rw [rputR_yes h], by rw [rputR_yes h]; exact Int.le_refl _, fun _ => rput_rep h⟩
  · rw [rputR_no h]; exact .refl r
theorem lrn_stays (r : Rpl) (id q : Int) (p : ByteArray) : Stays r (lrnR r id q p) := by
  unfold lrnR
  split
  · split
    · exact .refl r
    · split
      · exact rput_stays r _
      · exact .refl r
  · exact .refl r
theorem lrn_rep {r : Rpl} {id q : Int} {p : ByteArray} (h : lrnB r id q p = true) : repB (lrnR r id q p) = true := by
  unfold lrnB at h
  split at h
  · rename_i hc
    exact (lrn_stays r id q p).rep hc.1
  · cases h
theorem lrn_find {r : Rpl} {id q : Int} {p : ByteArray} (h : lrnB r id q p = true) : findB (lrnR r id q p).entries id = true ∧ findT (lrnR r id q p).entries id = lrnE r id q p := by
  unfold lrnB at h
  split at h
  · rename_i hc
    by_cases hf : findB r.entries id = true
    · rw [show lrnR r id q p = r from (if_pos hc).trans (if_pos hf), show lrnE r id q p = findT r.entries id from (if_pos hc).trans (if_pos hf)]
      exact ⟨hf, rfl⟩
    · rw [if_neg hf] at h
      split at h
      · rename_i he
        rw [show lrnR r id q p = rputR r (.new id q p) from (if_pos hc).trans ((if_neg hf).trans (if_pos he.1)), show lrnE r id q p = .new id q p from (if_pos hc).trans ((if_neg hf).trans (if_pos he)), rputR_yes he.2]
        exact (put_find (rep_ents hc.1).1 id).1 rfl
      · cases h
  · cases h
theorem lrn_ent {r : Rpl} {id q : Int} {p : ByteArray} (h : lrnB r id q p = true) : entB (lrnE r id q p) = true := by
  obtain ⟨h1, h2⟩ := lrn_find h
  rw [← h2]
  exact (ents_pw.1 (rep_ents (lrn_rep h)).1).2.1 _ (find_mem h1).1
theorem lrn_self {r : Rpl} {id q : Int} {p : ByteArray} : (lrnR r id q p).self = r.self := (lrn_stays r id q p).self
theorem find_ent {r : Rpl} {id : Int} (h : repB r = true) (hf : findB r.entries id = true) : entB (findT r.entries id) = true := (ents_pw.1 (rep_ents h).1).2.1 _ (find_mem hf).1
end Go.Proofs.YtbjepdfnmbdplaaGreat
end
section
namespace Go.Proofs.YtbjepdfnmbdplaaGreat
open Go.RowKit
set_option linter.unusedSimpArgs false
set_option linter.unusedVariables false
set_option maxRecDepth 100000
set_option maxHeartbeats 2000000
theorem clk_len {now floor : Int} {own : List Att} (h : clkB now floor own = true) : own.length ≤ 1000000 := by
  obtain ⟨h0, h1, h2⟩ := clk_le h
  have hp : pref (ownP floor now) own = true := by
    unfold clkB at h
    rw [Bool.and_eq_true] at h
    exact h.2
  have key : ∀ (i : Nat) (hi : i < own.length), (i : Int) + 1 ≤ own[i].t ∧ own[i].t ≤ now := by
    intro i
    induction i with
    | zero =>
      intro hi
      have := ownP_iff.1 (pref_at hp hi)
      omega
    | succ i ih =>
      intro hi
      have h3 := ownP_iff.1 (pref_at hp hi)
      rw [lastI_succ Att.t floor (show i < own.length by omega)] at h3
      have := ih (by omega)
      omega
  by_cases hl : own.length = 0
  · omega
  · have := key (own.length - 1) (by omega)
    omega
open Classical in
noncomputable def propsX (now : Int) (own : List Att) (id least : Int) : Int := if ¬ (clkB now 0 own = true ∧ idB id = true ∧ 0 ≤ least ∧ least ≤ 1000000) then 2 else if own.any (sameId id) = true then 41 else if max least (now + 1) ≤ 1000000 then 0 else 9
open Classical in
noncomputable def propsT (now : Int) (own : List Att) (id least : Int) : Int := if propsX now own id least = 0 then max least (now + 1) else 0
open Classical in
noncomputable def propsL (now : Int) (own : List Att) (id least : Int) : List Att := if propsX now own id least = 0 then own ++ [⟨max least (now + 1), id⟩] else []
theorem props_no {now : Int} {own : List Att} {id least x : Int} (h : propsX now own id least = x) (hx : x ≠ 0) : propsT now own id least = 0 ∧ propsL now own id least = [] := by
  subst h
  exact ⟨if_neg hx, if_neg hx⟩
theorem props_yes {now : Int} {own : List Att} {id least : Int} (h : propsX now own id least = 0) : propsT now own id least = max least (now + 1) ∧ propsL now own id least = own ++ [⟨max least (now + 1), id⟩] := ⟨if_pos h, if_pos h⟩
theorem propsX_2 {now : Int} {own : List Att} {id least : Int} (h : ¬ (clkB now 0 own = true ∧ idB id = true ∧ 0 ≤ least ∧ least ≤ 1000000)) : propsX now own id least = 2 := if_pos h
theorem propsX_41 {now : Int} {own : List Att} {id least : Int} (h : clkB now 0 own = true ∧ idB id = true ∧ 0 ≤ least ∧ least ≤ 1000000) (h2 : own.any (sameId id) = true) : propsX now own id least = 41 := (if_neg (not_not_intro h)).trans (if_pos h2)
theorem propsX_9 {now : Int} {own : List Att} {id least : Int} (h : clkB now 0 own = true ∧ idB id = true ∧ 0 ≤ least ∧ least ≤ 1000000) (h2 : own.any (sameId id) = false) (h3 : ¬ max least (now + 1) ≤ 1000000) : propsX now own id least = 9 := (if_neg (not_not_intro h)).trans ((if_neg (by rw [h2]; simp)).trans (if_neg h3))
theorem propsX_0 {now : Int} {own : List Att} {id least : Int} (h : clkB now 0 own = true ∧ idB id = true ∧ 0 ≤ least ∧ least ≤ 1000000) (h2 : own.any (sameId id) = false) (h3 : max least (now + 1) ≤ 1000000) : propsX now own id least = 0 := (if_neg (not_not_intro h)).trans ((if_neg (by rw [h2]; simp)).trans (if_pos h3))
theorem cloneatt_spec (l : List Att) (hl : l.length ≤ 1000000) : HasSpecO Tryz.prog 265 [PV.atts l] 29 2 (l.map Att.cs) := by
  refine ⟨?_⟩; refine Spec.ofR (h := fun F w0 => ?_)
  repeat' ((conv => whnf); first | refine Q.N ?_ | (refine Stk.both (fun hb => ?_) (fun hb => ?_) <;> (try simp only [lE] at hb) <;> (try (exfalso; omega)))); all_goals (conv => whnf)
  refine Stk.nilcmp (neg := false) rfl (by decide) rfl (fun b hb0 => ?_)
  repeat' ((conv => whnf); first | refine Q.N ?_ | (refine Stk.both (fun hb => ?_) (fun hb => ?_) <;> (try simp only [lE] at hb) <;> (try (exfalso; omega)))); all_goals (conv => whnf)
  · rw [hb0 ‹_›]
    exact FinK.nil
  · (refine Stk.app rfl Q.app ?_)
    repeat' ((conv => whnf); first | refine Q.N ?_ | (refine Stk.both (fun hb => ?_) (fun hb => ?_) <;> (try simp only [lE] at hb) <;> (try (exfalso; omega)))); all_goals (conv => whnf)
    exact FinK.own rfl rfl (closedL_flatten (all_map_closed (fun _ => rfl) l))
theorem ckk_yes {now floor : Int} {own : List Att} (h : clkB now floor own = true) : HasSpec Tryz.prog 166 [PV.int now, PV.int floor, PV.atts own] (PV.int 0) := by have := clkcheck_spec now floor own; rw [h] at this; exact this
theorem ckk_no {now floor : Int} {own : List Att} (h : clkB now floor own = false) : HasSpec Tryz.prog 166 [PV.int now, PV.int floor, PV.atts own] (PV.int 2) := by have := clkcheck_spec now floor own; rw [h] at this; exact this
theorem idk_yes {id : Int} (h : idB id = true) : HasSpec Tryz.prog 178 [PV.int id] (PV.int 0) := by have := identcheck_spec id; rw [h] at this; exact this
theorem idk_no {id : Int} (h : idB id = false) : HasSpec Tryz.prog 178 [PV.int id] (PV.int 31) := by have := identcheck_spec id; rw [h] at this; exact this
instance propose15_spec (now : Int) (own : List Att) (id least : Int) : HasSpec Tryz.prog 248 [PV.int now, PV.atts own, PV.int id, PV.int least] (.tup [PV.int (propsT now own id least), PV.atts (propsL now own id least), PV.int (propsX now own id least)]) := by
  by_cases h : clkB now 0 own = true ∧ idB id = true ∧ 0 ≤ least ∧ least ≤ 1000000
  · have hlen := clk_len h.1
    have j0 := ckk_yes h.1
    have j1 := idk_yes h.2.1
    have hnow := clk_le h.1
    have j2 := cloneatt_spec own hlen
    refine ⟨?_⟩; refine Spec.ofR (h := fun F w0 => ?_)
    repeat' ((conv => whnf); first | refine Q.a ?_ | refine Q.b ?_ | refine Q.c ?_ | refine Stk.is (by first | assumption | ((try simp only [lE]); first | done | assumption | omega)) ?_ | refine Stk.isnt (by first | assumption | ((try simp only [lE]); first | done | assumption | omega)) ?_ | (refine Stk.both (fun hb => ?_) (fun hb => ?_) <;> (try simp only [lE] at hb)) | refine Q.d ?_ | refine Q.e ?_ | refine Q.f ?_ | refine Q.g ?_ | refine Q.h ?_ | refine Q.i ?_ | refine Q.j ?_ | refine Q.k ?_ | refine Q.l ?_ | refine Q.m ?_ | refine Q.n ?_ | refine Q.o (h := ?_) | refine Q.p (h := ?_) | refine Q.q ?_ | refine Q.r ?_ | refine Q.s ?_ | refine Q.t ?_ | refine Q.u ?_ | refine Q.v ?_ | refine Q.w ?_ | refine Q.x ?_ | refine Q.y ?_ | refine Q.z ?_ | refine Stk.inl (h := fun tm => ?_) | refine Stk.inl0 (h := fun tm => ?_) | refine DefG.go (h := fun vs us => ?_) | intro (tm : Array Value) | refine Stk.op (ok_buildA rfl rfl rfl rfl) ?_ | refine Stk.scope ?_); all_goals (conv => whnf)
    refine Stk.loop (ι := Nat) (fun i => [(0, PV.atts own), (1, .fn (.func 270) [] [.lp 1 0]), (7, PV.int (own.length : Nat)), (8, PV.int (i : Nat))]) (fun _ => [(1, .box [PV.int id])]) (fun i => i ≤ own.length ∧ ∀ x ∈ own.take i, sameId id x = false) (fun i => own.length - i) 0 ⟨Nat.zero_le _, by simp⟩ (Weak.gc ⟨rfl, rfl, rfl, rfl, trivial⟩ ⟨rfl, trivial⟩ rfl rfl rfl) (fun i hi => ?_)
    obtain ⟨hi, hno⟩ := hi
    by_cases hlt : i < own.length
    · by_cases hq : own[i].id = id
      · have ha : own.any (sameId id) = true := List.any_eq_true.2 ⟨own[i], List.getElem_mem hlt, by unfold sameId; exact decide_eq_true hq⟩
        have hX := propsX_41 h ha
        rw [hX, (props_no hX (by omega)).1, (props_no hX (by omega)).2]
        have ht : tst ([own[i].t, own[i].id] = [own[i].t, id]) = true := tst_true.2 (by rw [hq])
        repeat' ((conv => whnf); first | refine Q.a ?_ | refine Q.b ?_ | refine Q.c ?_ | refine Stk.is (by first | assumption | ((try simp only [lE]); first | done | assumption | omega)) ?_ | refine Stk.isnt (by first | assumption | ((try simp only [lE]); first | done | assumption | omega)) ?_ | (refine Stk.both (fun hb => ?_) (fun hb => ?_) <;> (try simp only [lE] at hb)) | refine Q.d ?_ | refine Q.e ?_ | refine Q.f ?_ | refine Q.g ?_ | refine Q.h ?_ | refine Q.i ?_ | refine Q.j ?_ | refine Q.k ?_ | refine Q.l ?_ | refine Q.m ?_ | refine Q.n ?_ | refine Q.o (h := ?_) | refine Q.p (h := ?_) | refine Q.q ?_ | refine Q.r ?_ | refine Q.s ?_ | refine Q.t ?_ | refine Q.u ?_ | refine Q.v ?_ | refine Q.w ?_ | refine Q.x ?_ | refine Q.y ?_ | refine Q.z ?_ | refine Stk.inl (h := fun tm => ?_) | refine Stk.inl0 (h := fun tm => ?_) | refine DefG.go (h := fun vs us => ?_) | intro (tm : Array Value) | refine Stk.op (ok_buildA rfl rfl rfl rfl) ?_ | refine Stk.scope ?_); all_goals (conv => whnf)
        (refine Q.r6 (h := ?_); repeat' (first | exact Q.r0 | refine Q.r1 ?_ ?_ | refine Q.r2 ?_ | exact Q.r7 | refine Q.r3 ?_ | refine Q.r4 ?_ | refine Q.r5 ?_))
      · have ht : tst ([own[i].t, own[i].id] = [own[i].t, id]) = false := tst_false.2 (by simpa using hq)
        repeat' ((conv => whnf); first | refine Q.a ?_ | refine Q.b ?_ | refine Q.c ?_ | refine Stk.is (by first | assumption | ((try simp only [lE]); first | done | assumption | omega)) ?_ | refine Stk.isnt (by first | assumption | ((try simp only [lE]); first | done | assumption | omega)) ?_ | (refine Stk.both (fun hb => ?_) (fun hb => ?_) <;> (try simp only [lE] at hb)) | refine Q.d ?_ | refine Q.e ?_ | refine Q.f ?_ | refine Q.g ?_ | refine Q.h ?_ | refine Q.i ?_ | refine Q.j ?_ | refine Q.k ?_ | refine Q.l ?_ | refine Q.m ?_ | refine Q.n ?_ | refine Q.o (h := ?_) | refine Q.p (h := ?_) | refine Q.q ?_ | refine Q.r ?_ | refine Q.s ?_ | refine Q.t ?_ | refine Q.u ?_ | refine Q.v ?_ | refine Q.w ?_ | refine Q.x ?_ | refine Q.y ?_ | refine Q.z ?_ | refine Stk.inl (h := fun tm => ?_) | refine Stk.inl0 (h := fun tm => ?_) | refine DefG.go (h := fun vs us => ?_) | intro (tm : Array Value) | refine Stk.op (ok_buildA rfl rfl rfl rfl) ?_ | refine Stk.scope ?_); all_goals (conv => whnf)
        exact ⟨i + 1, ⟨by omega, take_no hlt hno (by unfold sameId; exact decide_eq_false hq)⟩, by omega, Weak.gc ⟨rfl, rfl, rfl, rfl, trivial⟩ ⟨rfl, trivial⟩ rfl rfl rfl⟩
    · have ha : own.any (sameId id) = false := List.any_eq_false.2 fun x hx => by rw [take_all (by omega) hno x hx]; simp
      by_cases hm : max least (now + 1) ≤ 1000000
      · have hX := propsX_0 h ha hm
        rw [hX, (props_yes hX).1, (props_yes hX).2, show PV.atts (own ++ [⟨max least (now + 1), id⟩]) = .sl 2 (own.map Att.cs ++ [[PV.int (max least (now + 1)), PV.int id]]) from congrArg _ List.map_append]
        repeat' ((conv => whnf); first | refine Q.a ?_ | refine Q.b ?_ | refine Q.c ?_ | refine Stk.is (by first | assumption | ((try simp only [lE]); first | done | assumption | omega)) ?_ | refine Stk.isnt (by first | assumption | ((try simp only [lE]); first | done | assumption | omega)) ?_ | (refine Stk.both (fun hb => ?_) (fun hb => ?_) <;> (try simp only [lE] at hb)) | refine Q.d ?_ | refine Q.e ?_ | refine Q.f ?_ | refine Q.g ?_ | refine Q.h ?_ | refine Q.i ?_ | refine Q.j ?_ | refine Q.k ?_ | refine Q.l ?_ | refine Q.m ?_ | refine Q.n ?_ | refine Q.o (h := ?_) | refine Q.p (h := ?_) | refine Q.q ?_ | refine Q.r ?_ | refine Q.s ?_ | refine Q.t ?_ | refine Q.u ?_ | refine Q.v ?_ | refine Q.w ?_ | refine Q.x ?_ | refine Q.y ?_ | refine Q.z ?_ | refine Stk.inl (h := fun tm => ?_) | refine Stk.inl0 (h := fun tm => ?_) | refine DefG.go (h := fun vs us => ?_) | intro (tm : Array Value) | refine Stk.op (ok_buildA rfl rfl rfl rfl) ?_ | refine Stk.scope ?_); all_goals (conv => whnf)
        (refine Stk.app rfl Q.app ?_)
        repeat' ((conv => whnf); first | refine Q.a ?_ | refine Q.b ?_ | refine Q.c ?_ | refine Stk.is (by first | assumption | ((try simp only [lE]); first | done | assumption | omega)) ?_ | refine Stk.isnt (by first | assumption | ((try simp only [lE]); first | done | assumption | omega)) ?_ | (refine Stk.both (fun hb => ?_) (fun hb => ?_) <;> (try simp only [lE] at hb)) | refine Q.d ?_ | refine Q.e ?_ | refine Q.f ?_ | refine Q.g ?_ | refine Q.h ?_ | refine Q.i ?_ | refine Q.j ?_ | refine Q.k ?_ | refine Q.l ?_ | refine Q.m ?_ | refine Q.n ?_ | refine Q.o (h := ?_) | refine Q.p (h := ?_) | refine Q.q ?_ | refine Q.r ?_ | refine Q.s ?_ | refine Q.t ?_ | refine Q.u ?_ | refine Q.v ?_ | refine Q.w ?_ | refine Q.x ?_ | refine Q.y ?_ | refine Q.z ?_ | refine Stk.inl (h := fun tm => ?_) | refine Stk.inl0 (h := fun tm => ?_) | refine DefG.go (h := fun vs us => ?_) | intro (tm : Array Value) | refine Stk.op (ok_buildA rfl rfl rfl rfl) ?_ | refine Stk.scope ?_); all_goals (conv => whnf)
        (refine Q.r6 (h := ?_); repeat' (first | exact Q.r0 | refine Q.r1 ?_ ?_ | refine Q.r2 ?_ | exact Q.r7 | refine Q.r3 ?_ | refine Q.r4 ?_ | refine Q.r5 ?_))
      · have hX := propsX_9 h ha hm
        rw [hX, (props_no hX (by omega)).1, (props_no hX (by omega)).2]
        repeat' ((conv => whnf); first | refine Q.a ?_ | refine Q.b ?_ | refine Q.c ?_ | refine Stk.is (by first | assumption | ((try simp only [lE]); first | done | assumption | omega)) ?_ | refine Stk.isnt (by first | assumption | ((try simp only [lE]); first | done | assumption | omega)) ?_ | (refine Stk.both (fun hb => ?_) (fun hb => ?_) <;> (try simp only [lE] at hb)) | refine Q.d ?_ | refine Q.e ?_ | refine Q.f ?_ | refine Q.g ?_ | refine Q.h ?_ | refine Q.i ?_ | refine Q.j ?_ | refine Q.k ?_ | refine Q.l ?_ | refine Q.m ?_ | refine Q.n ?_ | refine Q.o (h := ?_) | refine Q.p (h := ?_) | refine Q.q ?_ | refine Q.r ?_ | refine Q.s ?_ | refine Q.t ?_ | refine Q.u ?_ | refine Q.v ?_ | refine Q.w ?_ | refine Q.x ?_ | refine Q.y ?_ | refine Q.z ?_ | refine Stk.inl (h := fun tm => ?_) | refine Stk.inl0 (h := fun tm => ?_) | refine DefG.go (h := fun vs us => ?_) | intro (tm : Array Value) | refine Stk.op (ok_buildA rfl rfl rfl rfl) ?_ | refine Stk.scope ?_); all_goals (conv => whnf)
        (refine Q.r6 (h := ?_); repeat' (first | exact Q.r0 | refine Q.r1 ?_ ?_ | refine Q.r2 ?_ | exact Q.r7 | refine Q.r3 ?_ | refine Q.r4 ?_ | refine Q.r5 ?_))
  · have hX := propsX_2 h
    rw [hX, (props_no hX (by omega)).1, (props_no hX (by omega)).2]
    cases h1 : clkB now 0 own with
    | false =>
      have j0 := ckk_no h1
      refine ⟨?_⟩; refine Spec.ofR (h := fun F w0 => ?_)
      repeat' ((conv => whnf); first | refine Q.E ?_ | (refine Stk.both (fun hb => ?_) (fun hb => ?_) <;> (try simp only [lE] at hb))); all_goals (conv => whnf)
      (refine Q.r6 (h := ?_); repeat' (first | exact Q.r0 | refine Q.r1 ?_ ?_ | refine Q.r2 ?_ | exact Q.r7 | refine Q.r3 ?_ | refine Q.r4 ?_ | refine Q.r5 ?_))
    | true =>
      have j0 := ckk_yes h1
      cases h2 : idB id with
      | false =>
        have j1 := idk_no h2
        refine ⟨?_⟩; refine Spec.ofR (h := fun F w0 => ?_)
        repeat' ((conv => whnf); first | refine Q.E ?_ | (refine Stk.both (fun hb => ?_) (fun hb => ?_) <;> (try simp only [lE] at hb))); all_goals (conv => whnf)
        (refine Q.r6 (h := ?_); repeat' (first | exact Q.r0 | refine Q.r1 ?_ ?_ | refine Q.r2 ?_ | exact Q.r7 | refine Q.r3 ?_ | refine Q.r4 ?_ | refine Q.r5 ?_))
      | true =>
        have j1 := idk_yes h2
        have h3 : ¬ (0 ≤ least ∧ least ≤ 1000000) := fun h3 => h ⟨h1, h2, h3⟩
        refine ⟨?_⟩; refine Spec.ofR (h := fun F w0 => ?_)
        repeat' ((conv => whnf); first | refine Q.E ?_ | (refine Stk.both (fun hb => ?_) (fun hb => ?_) <;> (try simp only [lE] at hb))); all_goals (conv => whnf)
        all_goals first | (exfalso; omega) | (refine Q.r6 (h := ?_); repeat' (first | exact Q.r0 | refine Q.r1 ?_ ?_ | refine Q.r2 ?_ | exact Q.r7 | refine Q.r3 ?_ | refine Q.r4 ?_ | refine Q.r5 ?_))
end Go.Proofs.YtbjepdfnmbdplaaGreat
end
section
namespace Go.Proofs.YtbjepdfnmbdplaaGreat
open Go.RowKit
set_option linter.unusedSimpArgs false
set_option linter.unusedVariables false
set_option maxRecDepth 100000
set_option maxHeartbeats 2000000
def ofT (own : List Att) (id : Int) : Int := match own.find? (sameId id) with
  | some a => a.t
  | none => 0
theorem ofT_at {own : List Att} {id : Int} {k : Nat} (hk : k < own.length) (h0 : ∀ x ∈ own.take k, sameId id x = false) (h1 : sameId id own[k] = true) : ofT own id = own[k].t := by
  have hf : own.find? (sameId id) = some own[k] := by
    have e : own = own.take k ++ own[k] :: own.drop (k + 1) := by rw [← List.drop_eq_getElem_cons hk, List.take_append_drop]
    conv => lhs; rw [e]
    rw [List.find?_append, List.find?_eq_none.2 (fun x hx => by rw [h0 x hx]; simp), List.find?_cons_of_pos h1]
    rfl
  unfold ofT
  rw [hf]
theorem ofT_no {own : List Att} {id : Int} (h : ∀ x ∈ own, sameId id x = false) : ofT own id = 0 := by
  unfold ofT
  rw [List.find?_eq_none.2 (fun x hx => by rw [h x hx]; simp)]
theorem ofT_pos {now : Int} {own : List Att} {id : Int} (h : clkB now 0 own = true) : (own.any (sameId id) = true → 0 < ofT own id) ∧ (own.any (sameId id) = false → ofT own id = 0) := by
  constructor
  · intro ha
    obtain ⟨x, hx, hq⟩ := List.any_eq_true.1 ha
    have hk : own.findIdx (sameId id) < own.length := List.findIdx_lt_length_of_exists ⟨x, hx, hq⟩
    rw [ofT_at hk (fun y hy => by
      obtain ⟨j, hj, rfl⟩ := List.getElem_of_mem hy
      rw [List.length_take] at hj
      rw [List.getElem_take]
      simpa using List.not_of_lt_findIdx (p := sameId id) (xs := own) (i := j) (by omega)) (List.findIdx_getElem (w := hk))]
    have hp : pref (ownP 0 now) own = true := by
      unfold clkB at h
      rw [Bool.and_eq_true] at h
      exact h.2
    exact (ownP_iff.1 (pref_at hp hk)).1.1
  · intro ha
    exact ofT_no fun x hx => by simpa using List.any_eq_false.1 ha x hx
instance refof15_spec (own : List Att) (id : Int) : HasSpec Tryz.prog 250 [PV.atts own, PV.int id] (PV.int (ofT own id)) := by
  refine ⟨Spec.bound 0 rfl fun hl => ?_⟩; rw [List.length_map] at hl; refine Spec.ofR (h := fun F w0 => ?_)
  repeat' ((conv => whnf); first | refine Q.E ?_ | (refine Stk.both (fun hb => ?_) (fun hb => ?_) <;> (try simp only [lE] at hb))); all_goals (conv => whnf)
  refine Stk.loop (ι := Nat) (fun i => [(0, PV.atts own), (1, PV.int id), (5, PV.int (i : Nat))]) (fun _ => []) (fun i => i ≤ own.length ∧ ∀ x ∈ own.take i, sameId id x = false) (fun i => own.length - i) 0 ⟨Nat.zero_le _, by simp⟩ (Weak.gc ⟨rfl, rfl, rfl, trivial⟩ trivial rfl rfl rfl) (fun i hi => ?_)
  obtain ⟨hi, hno⟩ := hi
  by_cases hlt : i < own.length
  · by_cases hq : own[i].id = id
    · rw [ofT_at hlt hno (by unfold sameId; exact decide_eq_true hq)]
      repeat' ((conv => whnf); first | refine Q.E ?_ | (refine Stk.both (fun hb => ?_) (fun hb => ?_) <;> (try simp only [lE] at hb))); all_goals (conv => whnf)
      (refine Q.r6 (h := ?_); repeat' (first | exact Q.r0 | refine Q.r1 ?_ ?_ | refine Q.r2 ?_ | exact Q.r7 | refine Q.r3 ?_ | refine Q.r4 ?_ | refine Q.r5 ?_))
    · repeat' ((conv => whnf); first | refine Q.E ?_ | (refine Stk.both (fun hb => ?_) (fun hb => ?_) <;> (try simp only [lE] at hb))); all_goals (conv => whnf)
      exact ⟨i + 1, ⟨by omega, take_no hlt hno (by unfold sameId; exact decide_eq_false hq)⟩, by omega, Weak.gc ⟨rfl, rfl, rfl, trivial⟩ trivial rfl rfl rfl⟩
  · rw [ofT_no (take_all (by omega) hno)]
    repeat' ((conv => whnf); first | refine Q.E ?_ | (refine Stk.both (fun hb => ?_) (fun hb => ?_) <;> (try simp only [lE] at hb))); all_goals (conv => whnf)
    (refine Q.r6 (h := ?_); repeat' (first | exact Q.r0 | refine Q.r1 ?_ ?_ | refine Q.r2 ?_ | exact Q.r7 | refine Q.r3 ?_ | refine Q.r4 ?_ | refine Q.r5 ?_))
theorem rckk_yes {now floor : Int} {own : List Att} (h : clkB now floor own = true) : HasSpec Tryz.prog 158 [PV.int now, PV.int floor, PV.atts own] (PV.int 0) := by have := refclk_spec now floor own; rw [h] at this; exact this
theorem rckk_no {now floor : Int} {own : List Att} (h : clkB now floor own = false) : HasSpec Tryz.prog 158 [PV.int now, PV.int floor, PV.atts own] (PV.int 2) := by have := refclk_spec now floor own; rw [h] at this; exact this
theorem selfI_0 {id : Int} : (idB id = true → 1 ≤ selfI id) ∧ (idB id = false → selfI id = 0) := by
  unfold selfI
  constructor
  · intro h
    rw [if_pos h]
    have := idB_iff.1 h
    omega
  · intro h
    rw [if_neg (by rw [h]; simp)]
instance refpropose15_spec (now : Int) (own : List Att) (id least : Int) : HasSpec Tryz.prog 199 [PV.int now, PV.atts own, PV.int id, PV.int least] (.tup [PV.int (propsT now own id least), PV.atts (propsL now own id least), PV.int (propsX now own id least)]) := by
  have hs := @selfI_0 id
  by_cases h : clkB now 0 own = true ∧ idB id = true ∧ 0 ≤ least ∧ least ≤ 1000000
  · have hlen := clk_len h.1
    have j0 := rckk_yes h.1
    have hs1 := hs.1 h.2.1
    have hL := h.2.2
    have hnow := clk_le h.1
    have ho := @ofT_pos now own id h.1
    have j1 := refof15_spec own id
    cases ha : own.any (sameId id) with
    | true =>
      have ho := ho.1 ha
      have hX := propsX_41 h ha
      rw [hX, (props_no hX (by omega)).1, (props_no hX (by omega)).2]
      refine ⟨?_⟩; refine Spec.ofR (h := fun F w0 => ?_)
      repeat' ((conv => whnf); first | refine Q.E ?_ | (refine Stk.both (fun hb => ?_) (fun hb => ?_) <;> (try simp only [lE] at hb))); all_goals (conv => whnf)
      (refine Q.r6 (h := ?_); repeat' (first | exact Q.r0 | refine Q.r1 ?_ ?_ | refine Q.r2 ?_ | exact Q.r7 | refine Q.r3 ?_ | refine Q.r4 ?_ | refine Q.r5 ?_))
    | false =>
      have ho := ho.2 ha
      by_cases hm : max least (now + 1) ≤ 1000000
      · have hX := propsX_0 h ha hm
        rw [hX, (props_yes hX).1, (props_yes hX).2, show PV.atts (own ++ [⟨max least (now + 1), id⟩]) = .sl 2 (own.map Att.cs ++ [[PV.int (max least (now + 1)), PV.int id]]) from congrArg _ List.map_append]
        by_cases hc : now + 1 < least
        · rw [show max least (now + 1) = least by omega]
          refine ⟨?_⟩; refine Spec.ofR (h := fun F w0 => ?_)
          repeat' ((conv => whnf); first | refine Q.E ?_ | (refine Stk.both (fun hb => ?_) (fun hb => ?_) <;> (try simp only [lE] at hb))); all_goals (conv => whnf)
          (refine Stk.app rfl Q.app ?_)
          repeat' ((conv => whnf); first | refine Q.E ?_ | (refine Stk.both (fun hb => ?_) (fun hb => ?_) <;> (try simp only [lE] at hb))); all_goals (conv => whnf)
          (refine Stk.app rfl Q.app ?_)
          repeat' ((conv => whnf); first | refine Q.E ?_ | (refine Stk.both (fun hb => ?_) (fun hb => ?_) <;> (try simp only [lE] at hb))); all_goals (conv => whnf)
          (refine Q.r6 (h := ?_); repeat' (first | exact Q.r0 | refine Q.r1 ?_ ?_ | refine Q.r2 ?_ | exact Q.r7 | refine Q.r3 ?_ | refine Q.r4 ?_ | refine Q.r5 ?_))
        · rw [show max least (now + 1) = now + 1 by omega]
          refine ⟨?_⟩; refine Spec.ofR (h := fun F w0 => ?_)
          repeat' ((conv => whnf); first | refine Q.E ?_ | (refine Stk.both (fun hb => ?_) (fun hb => ?_) <;> (try simp only [lE] at hb))); all_goals (conv => whnf)
          (refine Stk.app rfl Q.app ?_)
          repeat' ((conv => whnf); first | refine Q.E ?_ | (refine Stk.both (fun hb => ?_) (fun hb => ?_) <;> (try simp only [lE] at hb))); all_goals (conv => whnf)
          (refine Stk.app rfl Q.app ?_)
          repeat' ((conv => whnf); first | refine Q.E ?_ | (refine Stk.both (fun hb => ?_) (fun hb => ?_) <;> (try simp only [lE] at hb))); all_goals (conv => whnf)
          (refine Q.r6 (h := ?_); repeat' (first | exact Q.r0 | refine Q.r1 ?_ ?_ | refine Q.r2 ?_ | exact Q.r7 | refine Q.r3 ?_ | refine Q.r4 ?_ | refine Q.r5 ?_))
      · have hX := propsX_9 h ha hm
        rw [hX, (props_no hX (by omega)).1, (props_no hX (by omega)).2]
        refine ⟨?_⟩; refine Spec.ofR (h := fun F w0 => ?_)
        repeat' ((conv => whnf); first | refine Q.E ?_ | (refine Stk.both (fun hb => ?_) (fun hb => ?_) <;> (try simp only [lE] at hb))); all_goals (conv => whnf)
        all_goals first | (exfalso; omega) | (refine Q.r6 (h := ?_); repeat' (first | exact Q.r0 | refine Q.r1 ?_ ?_ | refine Q.r2 ?_ | exact Q.r7 | refine Q.r3 ?_ | refine Q.r4 ?_ | refine Q.r5 ?_))
  · have hX := propsX_2 h
    rw [hX, (props_no hX (by omega)).1, (props_no hX (by omega)).2]
    cases h1 : clkB now 0 own with
    | false =>
      have j0 := rckk_no h1
      refine ⟨?_⟩; refine Spec.ofR (h := fun F w0 => ?_)
      repeat' ((conv => whnf); first | refine Q.E ?_ | (refine Stk.both (fun hb => ?_) (fun hb => ?_) <;> (try simp only [lE] at hb))); all_goals (conv => whnf)
      (refine Q.r6 (h := ?_); repeat' (first | exact Q.r0 | refine Q.r1 ?_ ?_ | refine Q.r2 ?_ | exact Q.r7 | refine Q.r3 ?_ | refine Q.r4 ?_ | refine Q.r5 ?_))
    | true =>
      have j0 := rckk_yes h1
      cases h2 : idB id with
      | false =>
        have hs2 := hs.2 h2
        refine ⟨?_⟩; refine Spec.ofR (h := fun F w0 => ?_)
        repeat' ((conv => whnf); first | refine Q.E ?_ | (refine Stk.both (fun hb => ?_) (fun hb => ?_) <;> (try simp only [lE] at hb))); all_goals (conv => whnf)
        (refine Q.r6 (h := ?_); repeat' (first | exact Q.r0 | refine Q.r1 ?_ ?_ | refine Q.r2 ?_ | exact Q.r7 | refine Q.r3 ?_ | refine Q.r4 ?_ | refine Q.r5 ?_))
      | true =>
        have hs2 := hs.1 h2
        have h3 : ¬ (0 ≤ least ∧ least ≤ 1000000) := fun h3 => h ⟨h1, h2, h3⟩
        refine ⟨?_⟩; refine Spec.ofR (h := fun F w0 => ?_)
        repeat' ((conv => whnf); first | refine Q.E ?_ | (refine Stk.both (fun hb => ?_) (fun hb => ?_) <;> (try simp only [lE] at hb))); all_goals (conv => whnf)
        all_goals first | (exfalso; omega) | (refine Q.r6 (h := ?_); repeat' (first | exact Q.r0 | refine Q.r1 ?_ ?_ | refine Q.r2 ?_ | exact Q.r7 | refine Q.r3 ?_ | refine Q.r4 ?_ | refine Q.r5 ?_))
end Go.Proofs.YtbjepdfnmbdplaaGreat
end
section
namespace Go.Proofs.YtbjepdfnmbdplaaGreat
open Go.RowKit
end Go.Proofs.YtbjepdfnmbdplaaGreat
end
section
namespace Go.Proofs.YtbjepdfnmbdplaaGreat
open Go.RowKit
set_option linter.unusedSimpArgs false
set_option linter.unusedVariables false
set_option maxRecDepth 100000
set_option maxHeartbeats 4000000
end Go.Proofs.YtbjepdfnmbdplaaGreat
end
section
namespace Go.Proofs.YtbjepdfnmbdplaaGreat
open Go.RowKit
set_option linter.unusedSimpArgs false
set_option linter.unusedVariables false
set_option maxRecDepth 100000
set_option maxHeartbeats 4000000
end Go.Proofs.YtbjepdfnmbdplaaGreat
end
section
namespace Go.Proofs.YtbjepdfnmbdplaaGreat
open Go.RowKit
set_option linter.unusedSimpArgs false
set_option linter.unusedVariables false
set_option maxRecDepth 100000
set_option maxHeartbeats 4000000
theorem allO_from {r : Rpl} {m m' : Msg} (h : m.from r.self = m'.from r.self) : allO r m = allO r m' := by
  unfold allO
  rw [h]
def Msg.raw (m : Msg) : List PV := [PV.int m.kind, PV.int m.fr, PV.int m.id, PV.int m.t, PV.int m.bal, PV.int m.abal, PV.int m.phase, PV.int m.quorum, .v (.string m.payload), PV.int m.lo, PV.int m.hi, .v (.slice none 0 0), .v (.slice none 0 0), PV.int m.done]
theorem msg_sub {m : Msg} (h1 : m.atts = []) (h2 : m.marks = []) : Sub (.agg m.raw) (.agg m.cs) := by
  unfold Msg.raw Msg.cs
  rw [h1, h2]
  exact .agg (.cons (.refl _) (.cons (.refl _) (.cons (.refl _) (.cons (.refl _) (.cons (.refl _) (.cons (.refl _) (.cons (.refl _) (.cons (.refl _) (.cons (.refl _) (.cons (.refl _) (.cons (.refl _) (.cons (.nil _) (.cons (.nil _) (.cons (.refl _) .nil))))))))))))))
theorem refall_raw (r : Rpl) {m : Msg} (h1 : m.atts = []) (h2 : m.marks = []) : HasSpec Tryz.prog 81 [.agg r.cs, .agg m.raw] (PV.outs (allO r m)) := HasSpec.sub (.cons (.refl _) (.cons (msg_sub h1 h2) .nil)) (refall_spec r m)
theorem hears_rep {r : Rpl} {m : Msg} (h : hearsB r m = true) : repB r = true ∧ msgB m = true ∧ m.fr ≤ r.n ∧ m.fr ≠ r.self ∧ selfI m.id ≤ r.n := by
  unfold hearsB at h
  rw [Bool.and_eq_true, Bool.and_eq_true, decide_eq_true_iff] at h
  exact ⟨h.1.1, h.1.2, h.2.1, h.2.2.1, h.2.2.2.1⟩
theorem ent_acks {e : Ent} (h : entB e = true) : e.acks.length ≤ 27 := acksB_len (acks_of h)
theorem ack_len (e : Ent) (a : Ack) (h : entB e = true) : (ackR e a).acks.length ≤ 1000000 := by
  have := ent_acks h
  unfold ackR
  split
  · show (e.acks ++ [a]).length ≤ 1000000
    rw [List.length_append, List.length_singleton]
    omega
  · omega
end Go.Proofs.YtbjepdfnmbdplaaGreat
end
