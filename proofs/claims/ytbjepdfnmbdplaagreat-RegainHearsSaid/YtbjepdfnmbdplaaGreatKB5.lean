/- Texts joined by wip/gen/kpack.py: U07 U08 R12 R13 U09 U10 U11 U04 U05 W04 W05 W06 U12 U13. -/
import Derived.MapKept
import Derived.WideLaws
import Derived.Test.YtbjepdfnmbdplaaGreatKB4
section
namespace Go.Proofs.YtbjepdfnmbdplaaGreat
open Go.RowKit
set_option linter.unusedSimpArgs false
set_option linter.unusedVariables false
set_option maxRecDepth 100000
set_option maxHeartbeats 1000000
theorem att_last {lo hi : Int} {l : List Att} {i : Nat} (hi' : i ≤ l.length) (h : prefTo (attP lo hi) l i = true) : lo ≤ lastI Att.t lo (l.take i) ∧ (0 < i → lastI Att.t lo (l.take i) ≤ hi) := by
  by_cases h0 : 0 < i
  · have h1 := attP_iff.1 (prefTo_at h (show i - 1 < i by omega) (by omega))
    rw [lastI_pos Att.t lo hi' h0]
    omega
  · obtain rfl : i = 0 := by omega
    rw [lastI_zero]
    omega
theorem idchk_yes {id : Int} (h : idB id = true) : HasSpec Tryz.prog 178 [PV.int id] (PV.int 0) := by have := identcheck_spec id; rw [h] at this; exact this
theorem idchk_no {id : Int} (h : idB id = false) : HasSpec Tryz.prog 178 [PV.int id] (PV.int 31) := by have := identcheck_spec id; rw [h] at this; exact this
theorem self_pos {id : Int} (h : idB id = true) : 1 ≤ selfI id ∧ selfI id ≤ 9 := by
  have := idB_iff.1 h
  rw [show selfI id = id % 10 from if_pos h]
  omega
theorem self_none {id : Int} (h : idB id = false) : selfI id = 0 := if_neg (by rw [h]; simp)
instance rise_spec (l : List Att) (lo hi : Int) : HasSpec Tryz.prog 223 [PV.atts l, PV.int lo, PV.int hi] (.v (.bool (attB lo hi l))) := by
  refine ⟨Spec.bound 0 rfl fun hl => ?_⟩; rw [List.length_map] at hl; refine Spec.ofR (h := fun F w0 => ?_)
  repeat' ((conv => whnf); first | refine Q.E ?_ | (refine Stk.both (fun hb => ?_) (fun hb => ?_) <;> (try simp only [lE] at hb))); all_goals (conv => whnf)
  refine Stk.loop (ι := Nat) (fun i => [(2, PV.int hi), (7, PV.int (lastI Att.t lo (l.take i))), (11, PV.atts l), (12, PV.int (l.length : Nat)), (13, PV.int (i : Nat))]) (fun _ => []) (fun i => i ≤ l.length ∧ prefTo (attP lo hi) l i = true) (fun i => l.length - i) 0 ⟨Nat.zero_le _, rfl⟩ (Weak.gc ⟨rfl, rfl, rfl, rfl, rfl, trivial⟩ trivial rfl rfl rfl) (fun i hi' => ?_)
  obtain ⟨hi', hp⟩ := hi'
  have hb := (att_last hi' hp).1
  by_cases hlt : i < l.length
  · have hs := lastI_succ Att.t lo hlt
    cases hid : idB l[i].id with
    | false =>
      have ji := idchk_no hid
      rw [show attB lo hi l = false from pref_bad hlt (attP_f.2 fun h => by rw [hid] at h; exact absurd h.2.2.2 (by simp))]
      generalize lastI Att.t lo (l.take i) = la at *
      repeat' ((conv => whnf); first | refine Q.E ?_ | (refine Stk.both (fun hb => ?_) (fun hb => ?_) <;> (try simp only [lE] at hb))); all_goals (conv => whnf)
      all_goals (refine Q.r6 (h := ?_); repeat' (first | exact Q.r0 | refine Q.r1 ?_ ?_ | refine Q.r2 ?_ | exact Q.r7 | refine Q.r3 ?_ | refine Q.r4 ?_ | refine Q.r5 ?_))
    | true =>
      have ji := idchk_yes hid
      cases hq : attP lo hi (l.take i) l[i] with
      | true =>
        have h := attP_iff.1 hq
        have hp2 := prefTo_next hlt hp hq
        generalize lastI Att.t lo (l.take i) = la at h hb ⊢
        repeat' ((conv => whnf); first | refine Q.E ?_ | (refine Stk.both (fun hb => ?_) (fun hb => ?_) <;> (try simp only [lE] at hb))); all_goals (conv => whnf)
        refine ⟨i + 1, ⟨by omega, hp2⟩, by omega, ?_⟩
        rw [hs]
        exact Weak.gc ⟨rfl, rfl, rfl, rfl, rfl, trivial⟩ trivial rfl rfl rfl
      | false =>
        have h := attP_f.1 hq
        rw [show attB lo hi l = false from pref_bad hlt hq]
        generalize lastI Att.t lo (l.take i) = la at h hb ⊢
        repeat' ((conv => whnf); first | refine Q.E ?_ | (refine Stk.both (fun hb => ?_) (fun hb => ?_) <;> (try simp only [lE] at hb))); all_goals (conv => whnf)
        all_goals first | (exact absurd ⟨by omega, by omega, by omega, hid⟩ h) | (refine Q.r6 (h := ?_); repeat' (first | exact Q.r0 | refine Q.r1 ?_ ?_ | refine Q.r2 ?_ | exact Q.r7 | refine Q.r3 ?_ | refine Q.r4 ?_ | refine Q.r5 ?_))
  · rw [show attB lo hi l = true from pref_end (by omega) hi' hp]
    repeat' ((conv => whnf); first | refine Q.E ?_ | (refine Stk.both (fun hb => ?_) (fun hb => ?_) <;> (try simp only [lE] at hb))); all_goals (conv => whnf)
    (refine Q.r6 (h := ?_); repeat' (first | exact Q.r0 | refine Q.r1 ?_ ?_ | refine Q.r2 ?_ | exact Q.r7 | refine Q.r3 ?_ | refine Q.r4 ?_ | refine Q.r5 ?_))
instance refrise_spec (l : List Att) (lo hi : Int) : HasSpec Tryz.prog 221 [PV.atts l, PV.int lo, PV.int hi] (.v (.bool (attB lo hi l))) := by
  refine ⟨Spec.bound 0 rfl fun hl => ?_⟩; rw [List.length_map] at hl; refine Spec.ofR (h := fun F w0 => ?_)
  repeat' ((conv => whnf); first | refine Q.E ?_ | (refine Stk.both (fun hb => ?_) (fun hb => ?_) <;> (try simp only [lE] at hb))); all_goals (conv => whnf)
  refine Stk.loop (ι := Nat) (fun i => [(0, PV.atts l), (1, PV.int lo), (2, PV.int hi), (7, PV.int (i : Nat))]) (fun _ => []) (fun i => i ≤ l.length ∧ prefTo (attP lo hi) l i = true) (fun i => l.length - i) 0 ⟨Nat.zero_le _, rfl⟩ (Weak.gc ⟨rfl, rfl, rfl, rfl, trivial⟩ trivial rfl rfl rfl) (fun i hi' => ?_)
  obtain ⟨hi', hp⟩ := hi'
  have hb := (att_last hi' hp).1
  by_cases hlt : i < l.length
  · have hs := lastI_succ Att.t lo hlt
    have jsp := split_spec l[i].id
    have hpi : ((i : Int) - 1).toNat < l.length := by omega
    have hv : (0 < i → lastI Att.t lo (l.take i) = (l[((i : Int) - 1).toNat]'hpi).t) ∧ (i = 0 → lastI Att.t lo (l.take i) = lo) := by
      refine ⟨fun h0 => ?_, fun h0 => by subst h0; rfl⟩
      rw [lastI_pos Att.t lo hi' h0]
      congr 2
      omega
    cases hid : idB l[i].id with
    | false =>
      have h2 := self_none hid
      rw [show attB lo hi l = false from pref_bad hlt (attP_f.2 fun h => by rw [hid] at h; exact absurd h.2.2.2 (by simp))]
      repeat' ((conv => whnf); first | refine Q.E ?_ | (refine Stk.both (fun hb => ?_) (fun hb => ?_) <;> (try simp only [lE] at hb))); all_goals (conv => whnf)
      all_goals (refine Q.r6 (h := ?_); repeat' (first | exact Q.r0 | refine Q.r1 ?_ ?_ | refine Q.r2 ?_ | exact Q.r7 | refine Q.r3 ?_ | refine Q.r4 ?_ | refine Q.r5 ?_))
    | true =>
      have h2 := self_pos hid
      cases hq : attP lo hi (l.take i) l[i] with
      | true =>
        have h := attP_iff.1 hq
        have hp2 := prefTo_next hlt hp hq
        by_cases h0 : 0 < i
        · have h1 := hv.1 h0
          clear hv
          repeat' ((conv => whnf); first | refine Q.E ?_ | (refine Stk.both (fun hb => ?_) (fun hb => ?_) <;> (try simp only [lE] at hb))); all_goals (conv => whnf)
          exact ⟨i + 1, ⟨by omega, hp2⟩, by omega, Weak.gc ⟨rfl, rfl, rfl, rfl, trivial⟩ trivial rfl rfl rfl⟩
        · have h1 := hv.2 (by omega)
          clear hv
          repeat' ((conv => whnf); first | refine Q.E ?_ | (refine Stk.both (fun hb => ?_) (fun hb => ?_) <;> (try simp only [lE] at hb))); all_goals (conv => whnf)
          exact ⟨i + 1, ⟨by omega, hp2⟩, by omega, Weak.gc ⟨rfl, rfl, rfl, rfl, trivial⟩ trivial rfl rfl rfl⟩
      | false =>
        have h := attP_f.1 hq
        rw [show attB lo hi l = false from pref_bad hlt hq]
        by_cases h0 : 0 < i
        · have h1 := hv.1 h0
          clear hv
          repeat' ((conv => whnf); first | refine Q.E ?_ | (refine Stk.both (fun hb => ?_) (fun hb => ?_) <;> (try simp only [lE] at hb))); all_goals (conv => whnf)
          all_goals first | (exact absurd ⟨by omega, by omega, by omega, hid⟩ h) | (refine Q.r6 (h := ?_); repeat' (first | exact Q.r0 | refine Q.r1 ?_ ?_ | refine Q.r2 ?_ | exact Q.r7 | refine Q.r3 ?_ | refine Q.r4 ?_ | refine Q.r5 ?_))
        · have h1 := hv.2 (by omega)
          clear hv
          repeat' ((conv => whnf); first | refine Q.E ?_ | (refine Stk.both (fun hb => ?_) (fun hb => ?_) <;> (try simp only [lE] at hb))); all_goals (conv => whnf)
          all_goals first | (exact absurd ⟨by omega, by omega, by omega, hid⟩ h) | (refine Q.r6 (h := ?_); repeat' (first | exact Q.r0 | refine Q.r1 ?_ ?_ | refine Q.r2 ?_ | exact Q.r7 | refine Q.r3 ?_ | refine Q.r4 ?_ | refine Q.r5 ?_))
  · rw [show attB lo hi l = true from pref_end (by omega) hi' hp]
    repeat' ((conv => whnf); first | refine Q.E ?_ | (refine Stk.both (fun hb => ?_) (fun hb => ?_) <;> (try simp only [lE] at hb))); all_goals (conv => whnf)
    (refine Q.r6 (h := ?_); repeat' (first | exact Q.r0 | refine Q.r1 ?_ ?_ | refine Q.r2 ?_ | exact Q.r7 | refine Q.r3 ?_ | refine Q.r4 ?_ | refine Q.r5 ?_))
end Go.Proofs.YtbjepdfnmbdplaaGreat
end
section
namespace Go.Proofs.YtbjepdfnmbdplaaGreat
open Go.RowKit
set_option linter.unusedSimpArgs false
set_option linter.unusedVariables false
set_option maxRecDepth 100000
set_option maxHeartbeats 1000000
theorem rck_yes {l : List Rng} (h : rngB l = true) : HasSpec Tryz.prog 176 [PV.rngs l] (PV.int 0) := by have := rngcheck_spec l; rw [h] at this; exact this
theorem rck_no {l : List Rng} (h : rngB l = false) : HasSpec Tryz.prog 176 [PV.rngs l] (PV.int 2) := by have := rngcheck_spec l; rw [h] at this; exact this
theorem rrck_yes {l : List Rng} (h : rngB l = true) : HasSpec Tryz.prog 163 [PV.rngs l] (PV.int 0) := by have := refrngcheck_spec l; rw [h] at this; exact this
theorem rrck_no {l : List Rng} (h : rngB l = false) : HasSpec Tryz.prog 163 [PV.rngs l] (PV.int 2) := by have := refrngcheck_spec l; rw [h] at this; exact this
theorem rng_at {l : List Rng} (h : rngB l = true) {i : Nat} (hi : i < l.length) : 1 ≤ l[i].lo ∧ l[i].lo ≤ l[i].hi ∧ l[i].hi ≤ 1000000 := by
  unfold rngB at h
  rw [Bool.and_eq_true] at h
  have := rngP_iff.1 (pref_at h.2 hi)
  exact ⟨this.1, this.2.1, this.2.2.1⟩
theorem knoB_no1 {k : Kno} (h : ¬ (0 ≤ k.base ∧ k.base ≤ 1000000)) : knoB k = false := by unfold knoB; rw [decide_eq_false h]; rfl
theorem knoB_no2 {k : Kno} (h : rngB k.rs = false) : knoB k = false := by unfold knoB; rw [h]; simp
theorem knoB_no3 {k : Kno} (h : ¬ k.atts.length ≤ 400) : knoB k = false := by unfold knoB; rw [decide_eq_false h]; simp
theorem knoB_no4 {k : Kno} (h : attB k.base 1000000 k.atts = false) : knoB k = false := by unfold knoB; rw [h]; simp
theorem knoB_no5 {k : Kno} (h : hdB k.base k.rs = false) : knoB k = false := by unfold knoB; rw [h]; simp
theorem knoB_ok {k : Kno} (h1 : 0 ≤ k.base ∧ k.base ≤ 1000000) (h2 : rngB k.rs = true) (h3 : k.atts.length ≤ 400) (h4 : attB k.base 1000000 k.atts = true) (h5 : hdB k.base k.rs = true) : knoB k = !k.atts.any (inK k) := by unfold knoB; rw [decide_eq_true h1, h2, decide_eq_true h3, h4, h5]; rfl
instance knocheck_spec (k : Kno) : HasSpec Tryz.prog 171 [.agg k.cs] (PV.int (errI (knoB k) 2)) := by
  by_cases hb : 0 ≤ k.base ∧ k.base ≤ 1000000
  · cases hr : rngB k.rs with
    | false =>
      have jr := rck_no hr
      rw [knoB_no2 hr]
      refine ⟨?_⟩; refine Spec.ofR (h := fun F w0 => ?_)
      repeat' ((conv => whnf); first | refine Q.E ?_ | (refine Stk.both (fun hb => ?_) (fun hb => ?_) <;> (try simp only [lE] at hb))); all_goals (conv => whnf)
      all_goals (refine Q.r6 (h := ?_); repeat' (first | exact Q.r0 | refine Q.r1 ?_ ?_ | refine Q.r2 ?_ | exact Q.r7 | refine Q.r3 ?_ | refine Q.r4 ?_ | refine Q.r5 ?_))
    | true =>
      have jr := rck_yes hr
      by_cases h400 : k.atts.length ≤ 400
      · have ja := rise_spec k.atts k.base 1000000
        cases ha : attB k.base 1000000 k.atts with
        | false =>
          rw [ha] at ja
          rw [knoB_no4 ha]
          refine ⟨?_⟩; refine Spec.ofR (h := fun F w0 => ?_)
          repeat' ((conv => whnf); first | refine Q.E ?_ | (refine Stk.both (fun hb => ?_) (fun hb => ?_) <;> (try simp only [lE] at hb))); all_goals (conv => whnf)
          all_goals (refine Q.r6 (h := ?_); repeat' (first | exact Q.r0 | refine Q.r1 ?_ ?_ | refine Q.r2 ?_ | exact Q.r7 | refine Q.r3 ?_ | refine Q.r4 ?_ | refine Q.r5 ?_))
        | true =>
          rw [ha] at ja
          by_cases h0 : ((0 : Int).toNat) < k.rs.length
          · have hd := hdB_pos (b := k.base) h0
            have h0' : (0 : Int) < (k.rs.length : Nat) := by simp at h0; omega
            have hl1 := rng_at hr h0
            by_cases hlo : k.base + 1 < (k.rs[((0 : Int).toNat)]'h0).lo
            · rw [decide_eq_true hlo] at hd
              rw [knoB_ok hb hr h400 ha hd]
              refine ⟨?_⟩; refine Spec.ofR (h := fun F w0 => ?_)
              repeat' ((conv => whnf); first | refine Q.a ?_ | refine Q.b ?_ | refine Q.c ?_ | refine Stk.is (by first | assumption | ((try simp only [lE]); first | done | assumption | omega)) ?_ | refine Stk.isnt (by first | assumption | ((try simp only [lE]); first | done | assumption | omega)) ?_ | (refine Stk.both (fun hb => ?_) (fun hb => ?_) <;> (try simp only [lE] at hb)) | refine Q.d ?_ | refine Q.e ?_ | refine Q.f ?_ | refine Q.g ?_ | refine Q.h ?_ | refine Q.i ?_ | refine Q.j ?_ | refine Q.k ?_ | refine Q.l ?_ | refine Q.m ?_ | refine Q.n ?_ | refine Q.o (h := ?_) | refine Q.p (h := ?_) | refine Q.q ?_ | refine Q.r ?_ | refine Q.s ?_ | refine Q.t ?_ | refine Q.u ?_ | refine Q.v ?_ | refine Q.w ?_ | refine Q.x ?_ | refine Q.y ?_ | refine Q.z ?_ | refine Stk.inl (h := fun tm => ?_) | refine Stk.inl0 (h := fun tm => ?_) | refine DefG.go (h := fun vs us => ?_) | intro (tm : Array Value) | refine Stk.op (ok_buildA rfl rfl rfl rfl) ?_ | refine Stk.scope ?_); all_goals (conv => whnf)
              refine Stk.loop (ι := Nat) (fun i => [(0, PV.atts k.atts), (1, .fn (.func 224) [] [.lp 1 0]), (7, PV.int (k.atts.length : Nat)), (8, PV.int (i : Nat))]) (fun i => [(1, .box k.cs)]) (fun i => i ≤ k.atts.length ∧ ∀ x ∈ k.atts.take i, inK k x = false) (fun i => k.atts.length - i) 0 ⟨Nat.zero_le _, by simp⟩ (Weak.gc ⟨rfl, rfl, rfl, rfl, trivial⟩ ⟨rfl, trivial⟩ rfl rfl rfl) (fun i hi => ?_)
              obtain ⟨hi, hno⟩ := hi
              by_cases hlt : i < k.atts.length
              · have jh := rnghas_spec k.rs k.atts[i].t
                cases hq : inK k k.atts[i] with
                | true =>
                  rw [show rhasB k.rs k.atts[i].t = true from hq] at jh
                  rw [any_at hlt hq]
                  repeat' ((conv => whnf); first | refine Q.a ?_ | refine Q.b ?_ | refine Q.c ?_ | refine Stk.is (by first | assumption | ((try simp only [lE]); first | done | assumption | omega)) ?_ | refine Stk.isnt (by first | assumption | ((try simp only [lE]); first | done | assumption | omega)) ?_ | (refine Stk.both (fun hb => ?_) (fun hb => ?_) <;> (try simp only [lE] at hb)) | refine Q.d ?_ | refine Q.e ?_ | refine Q.f ?_ | refine Q.g ?_ | refine Q.h ?_ | refine Q.i ?_ | refine Q.j ?_ | refine Q.k ?_ | refine Q.l ?_ | refine Q.m ?_ | refine Q.n ?_ | refine Q.o (h := ?_) | refine Q.p (h := ?_) | refine Q.q ?_ | refine Q.r ?_ | refine Q.s ?_ | refine Q.t ?_ | refine Q.u ?_ | refine Q.v ?_ | refine Q.w ?_ | refine Q.x ?_ | refine Q.y ?_ | refine Q.z ?_ | refine Stk.inl (h := fun tm => ?_) | refine Stk.inl0 (h := fun tm => ?_) | refine DefG.go (h := fun vs us => ?_) | intro (tm : Array Value) | refine Stk.op (ok_buildA rfl rfl rfl rfl) ?_ | refine Stk.scope ?_); all_goals (conv => whnf)
                  (refine Q.r6 (h := ?_); repeat' (first | exact Q.r0 | refine Q.r1 ?_ ?_ | refine Q.r2 ?_ | exact Q.r7 | refine Q.r3 ?_ | refine Q.r4 ?_ | refine Q.r5 ?_))
                | false =>
                  rw [show rhasB k.rs k.atts[i].t = false from hq] at jh
                  repeat' ((conv => whnf); first | refine Q.a ?_ | refine Q.b ?_ | refine Q.c ?_ | refine Stk.is (by first | assumption | ((try simp only [lE]); first | done | assumption | omega)) ?_ | refine Stk.isnt (by first | assumption | ((try simp only [lE]); first | done | assumption | omega)) ?_ | (refine Stk.both (fun hb => ?_) (fun hb => ?_) <;> (try simp only [lE] at hb)) | refine Q.d ?_ | refine Q.e ?_ | refine Q.f ?_ | refine Q.g ?_ | refine Q.h ?_ | refine Q.i ?_ | refine Q.j ?_ | refine Q.k ?_ | refine Q.l ?_ | refine Q.m ?_ | refine Q.n ?_ | refine Q.o (h := ?_) | refine Q.p (h := ?_) | refine Q.q ?_ | refine Q.r ?_ | refine Q.s ?_ | refine Q.t ?_ | refine Q.u ?_ | refine Q.v ?_ | refine Q.w ?_ | refine Q.x ?_ | refine Q.y ?_ | refine Q.z ?_ | refine Stk.inl (h := fun tm => ?_) | refine Stk.inl0 (h := fun tm => ?_) | refine DefG.go (h := fun vs us => ?_) | intro (tm : Array Value) | refine Stk.op (ok_buildA rfl rfl rfl rfl) ?_ | refine Stk.scope ?_); all_goals (conv => whnf)
                  exact ⟨i + 1, ⟨by omega, take_no hlt hno hq⟩, by omega, Weak.gc ⟨rfl, rfl, rfl, rfl, trivial⟩ ⟨rfl, trivial⟩ rfl rfl rfl⟩
              · rw [any_none hlt hno]
                repeat' ((conv => whnf); first | refine Q.a ?_ | refine Q.b ?_ | refine Q.c ?_ | refine Stk.is (by first | assumption | ((try simp only [lE]); first | done | assumption | omega)) ?_ | refine Stk.isnt (by first | assumption | ((try simp only [lE]); first | done | assumption | omega)) ?_ | (refine Stk.both (fun hb => ?_) (fun hb => ?_) <;> (try simp only [lE] at hb)) | refine Q.d ?_ | refine Q.e ?_ | refine Q.f ?_ | refine Q.g ?_ | refine Q.h ?_ | refine Q.i ?_ | refine Q.j ?_ | refine Q.k ?_ | refine Q.l ?_ | refine Q.m ?_ | refine Q.n ?_ | refine Q.o (h := ?_) | refine Q.p (h := ?_) | refine Q.q ?_ | refine Q.r ?_ | refine Q.s ?_ | refine Q.t ?_ | refine Q.u ?_ | refine Q.v ?_ | refine Q.w ?_ | refine Q.x ?_ | refine Q.y ?_ | refine Q.z ?_ | refine Stk.inl (h := fun tm => ?_) | refine Stk.inl0 (h := fun tm => ?_) | refine DefG.go (h := fun vs us => ?_) | intro (tm : Array Value) | refine Stk.op (ok_buildA rfl rfl rfl rfl) ?_ | refine Stk.scope ?_); all_goals (conv => whnf)
                (refine Q.r6 (h := ?_); repeat' (first | exact Q.r0 | refine Q.r1 ?_ ?_ | refine Q.r2 ?_ | exact Q.r7 | refine Q.r3 ?_ | refine Q.r4 ?_ | refine Q.r5 ?_))
            · rw [decide_eq_false hlo] at hd
              rw [knoB_no5 hd]
              have hlo2 : (k.rs[((0 : Int).toNat)]'h0).lo ≤ k.base + 1 := by omega
              refine ⟨?_⟩; refine Spec.ofR (h := fun F w0 => ?_)
              repeat' ((conv => whnf); first | refine Q.E ?_ | (refine Stk.both (fun hb => ?_) (fun hb => ?_) <;> (try simp only [lE] at hb))); all_goals (conv => whnf)
              (refine Q.r6 (h := ?_); repeat' (first | exact Q.r0 | refine Q.r1 ?_ ?_ | refine Q.r2 ?_ | exact Q.r7 | refine Q.r3 ?_ | refine Q.r4 ?_ | refine Q.r5 ?_))
          · have hz : k.rs.length = 0 := by simp at h0; simp [h0]
            rw [knoB_ok hb hr h400 ha (hdB_zero hz)]
            have h0' : ¬ (0 : Int) < (k.rs.length : Nat) := by omega
            refine ⟨?_⟩; refine Spec.ofR (h := fun F w0 => ?_)
            repeat' ((conv => whnf); first | refine Q.a ?_ | refine Q.b ?_ | refine Q.c ?_ | refine Stk.is (by first | assumption | ((try simp only [lE]); first | done | assumption | omega)) ?_ | refine Stk.isnt (by first | assumption | ((try simp only [lE]); first | done | assumption | omega)) ?_ | (refine Stk.both (fun hb => ?_) (fun hb => ?_) <;> (try simp only [lE] at hb)) | refine Q.d ?_ | refine Q.e ?_ | refine Q.f ?_ | refine Q.g ?_ | refine Q.h ?_ | refine Q.i ?_ | refine Q.j ?_ | refine Q.k ?_ | refine Q.l ?_ | refine Q.m ?_ | refine Q.n ?_ | refine Q.o (h := ?_) | refine Q.p (h := ?_) | refine Q.q ?_ | refine Q.r ?_ | refine Q.s ?_ | refine Q.t ?_ | refine Q.u ?_ | refine Q.v ?_ | refine Q.w ?_ | refine Q.x ?_ | refine Q.y ?_ | refine Q.z ?_ | refine Stk.inl (h := fun tm => ?_) | refine Stk.inl0 (h := fun tm => ?_) | refine DefG.go (h := fun vs us => ?_) | intro (tm : Array Value) | refine Stk.op (ok_buildA rfl rfl rfl rfl) ?_ | refine Stk.scope ?_); all_goals (conv => whnf)
            refine Stk.loop (ι := Nat) (fun i => [(0, PV.atts k.atts), (1, .fn (.func 224) [] [.lp 1 0]), (7, PV.int (k.atts.length : Nat)), (8, PV.int (i : Nat))]) (fun i => [(1, .box k.cs)]) (fun i => i ≤ k.atts.length ∧ ∀ x ∈ k.atts.take i, inK k x = false) (fun i => k.atts.length - i) 0 ⟨Nat.zero_le _, by simp⟩ (Weak.gc ⟨rfl, rfl, rfl, rfl, trivial⟩ ⟨rfl, trivial⟩ rfl rfl rfl) (fun i hi => ?_)
            obtain ⟨hi, hno⟩ := hi
            by_cases hlt : i < k.atts.length
            · have jh := rnghas_spec k.rs k.atts[i].t
              cases hq : inK k k.atts[i] with
              | true =>
                rw [show rhasB k.rs k.atts[i].t = true from hq] at jh
                rw [any_at hlt hq]
                repeat' ((conv => whnf); first | refine Q.a ?_ | refine Q.b ?_ | refine Q.c ?_ | refine Stk.is (by first | assumption | ((try simp only [lE]); first | done | assumption | omega)) ?_ | refine Stk.isnt (by first | assumption | ((try simp only [lE]); first | done | assumption | omega)) ?_ | (refine Stk.both (fun hb => ?_) (fun hb => ?_) <;> (try simp only [lE] at hb)) | refine Q.d ?_ | refine Q.e ?_ | refine Q.f ?_ | refine Q.g ?_ | refine Q.h ?_ | refine Q.i ?_ | refine Q.j ?_ | refine Q.k ?_ | refine Q.l ?_ | refine Q.m ?_ | refine Q.n ?_ | refine Q.o (h := ?_) | refine Q.p (h := ?_) | refine Q.q ?_ | refine Q.r ?_ | refine Q.s ?_ | refine Q.t ?_ | refine Q.u ?_ | refine Q.v ?_ | refine Q.w ?_ | refine Q.x ?_ | refine Q.y ?_ | refine Q.z ?_ | refine Stk.inl (h := fun tm => ?_) | refine Stk.inl0 (h := fun tm => ?_) | refine DefG.go (h := fun vs us => ?_) | intro (tm : Array Value) | refine Stk.op (ok_buildA rfl rfl rfl rfl) ?_ | refine Stk.scope ?_); all_goals (conv => whnf)
                (refine Q.r6 (h := ?_); repeat' (first | exact Q.r0 | refine Q.r1 ?_ ?_ | refine Q.r2 ?_ | exact Q.r7 | refine Q.r3 ?_ | refine Q.r4 ?_ | refine Q.r5 ?_))
              | false =>
                rw [show rhasB k.rs k.atts[i].t = false from hq] at jh
                repeat' ((conv => whnf); first | refine Q.a ?_ | refine Q.b ?_ | refine Q.c ?_ | refine Stk.is (by first | assumption | ((try simp only [lE]); first | done | assumption | omega)) ?_ | refine Stk.isnt (by first | assumption | ((try simp only [lE]); first | done | assumption | omega)) ?_ | (refine Stk.both (fun hb => ?_) (fun hb => ?_) <;> (try simp only [lE] at hb)) | refine Q.d ?_ | refine Q.e ?_ | refine Q.f ?_ | refine Q.g ?_ | refine Q.h ?_ | refine Q.i ?_ | refine Q.j ?_ | refine Q.k ?_ | refine Q.l ?_ | refine Q.m ?_ | refine Q.n ?_ | refine Q.o (h := ?_) | refine Q.p (h := ?_) | refine Q.q ?_ | refine Q.r ?_ | refine Q.s ?_ | refine Q.t ?_ | refine Q.u ?_ | refine Q.v ?_ | refine Q.w ?_ | refine Q.x ?_ | refine Q.y ?_ | refine Q.z ?_ | refine Stk.inl (h := fun tm => ?_) | refine Stk.inl0 (h := fun tm => ?_) | refine DefG.go (h := fun vs us => ?_) | intro (tm : Array Value) | refine Stk.op (ok_buildA rfl rfl rfl rfl) ?_ | refine Stk.scope ?_); all_goals (conv => whnf)
                exact ⟨i + 1, ⟨by omega, take_no hlt hno hq⟩, by omega, Weak.gc ⟨rfl, rfl, rfl, rfl, trivial⟩ ⟨rfl, trivial⟩ rfl rfl rfl⟩
            · rw [any_none hlt hno]
              repeat' ((conv => whnf); first | refine Q.a ?_ | refine Q.b ?_ | refine Q.c ?_ | refine Stk.is (by first | assumption | ((try simp only [lE]); first | done | assumption | omega)) ?_ | refine Stk.isnt (by first | assumption | ((try simp only [lE]); first | done | assumption | omega)) ?_ | (refine Stk.both (fun hb => ?_) (fun hb => ?_) <;> (try simp only [lE] at hb)) | refine Q.d ?_ | refine Q.e ?_ | refine Q.f ?_ | refine Q.g ?_ | refine Q.h ?_ | refine Q.i ?_ | refine Q.j ?_ | refine Q.k ?_ | refine Q.l ?_ | refine Q.m ?_ | refine Q.n ?_ | refine Q.o (h := ?_) | refine Q.p (h := ?_) | refine Q.q ?_ | refine Q.r ?_ | refine Q.s ?_ | refine Q.t ?_ | refine Q.u ?_ | refine Q.v ?_ | refine Q.w ?_ | refine Q.x ?_ | refine Q.y ?_ | refine Q.z ?_ | refine Stk.inl (h := fun tm => ?_) | refine Stk.inl0 (h := fun tm => ?_) | refine DefG.go (h := fun vs us => ?_) | intro (tm : Array Value) | refine Stk.op (ok_buildA rfl rfl rfl rfl) ?_ | refine Stk.scope ?_); all_goals (conv => whnf)
              (refine Q.r6 (h := ?_); repeat' (first | exact Q.r0 | refine Q.r1 ?_ ?_ | refine Q.r2 ?_ | exact Q.r7 | refine Q.r3 ?_ | refine Q.r4 ?_ | refine Q.r5 ?_))
      · rw [knoB_no3 h400]
        refine ⟨?_⟩; refine Spec.ofR (h := fun F w0 => ?_)
        repeat' ((conv => whnf); first | refine Q.E ?_ | (refine Stk.both (fun hb => ?_) (fun hb => ?_) <;> (try simp only [lE] at hb))); all_goals (conv => whnf)
        all_goals (refine Q.r6 (h := ?_); repeat' (first | exact Q.r0 | refine Q.r1 ?_ ?_ | refine Q.r2 ?_ | exact Q.r7 | refine Q.r3 ?_ | refine Q.r4 ?_ | refine Q.r5 ?_))
  · rw [knoB_no1 hb]
    refine ⟨?_⟩; refine Spec.ofR (h := fun F w0 => ?_)
    repeat' ((conv => whnf); first | refine Q.E ?_ | (refine Stk.both (fun hb => ?_) (fun hb => ?_) <;> (try simp only [lE] at hb))); all_goals (conv => whnf)
    all_goals first | (exfalso; omega) | (refine Q.r6 (h := ?_); repeat' (first | exact Q.r0 | refine Q.r1 ?_ ?_ | refine Q.r2 ?_ | exact Q.r7 | refine Q.r3 ?_ | refine Q.r4 ?_ | refine Q.r5 ?_))
instance refknocheck_spec (k : Kno) : HasSpec Tryz.prog 162 [.agg k.cs] (PV.int (errI (knoB k) 2)) := by
  by_cases hb : 0 ≤ k.base ∧ k.base ≤ 1000000
  · cases hr : rngB k.rs with
    | false =>
      have jr := rrck_no hr
      rw [knoB_no2 hr]
      refine ⟨?_⟩; refine Spec.ofR (h := fun F w0 => ?_)
      repeat' ((conv => whnf); first | refine Q.E ?_ | (refine Stk.both (fun hb => ?_) (fun hb => ?_) <;> (try simp only [lE] at hb))); all_goals (conv => whnf)
      all_goals (refine Q.r6 (h := ?_); repeat' (first | exact Q.r0 | refine Q.r1 ?_ ?_ | refine Q.r2 ?_ | exact Q.r7 | refine Q.r3 ?_ | refine Q.r4 ?_ | refine Q.r5 ?_))
    | true =>
      have jr := rrck_yes hr
      by_cases h400 : k.atts.length ≤ 400
      · have ja := refrise_spec k.atts k.base 1000000
        cases ha : attB k.base 1000000 k.atts with
        | false =>
          rw [ha] at ja
          rw [knoB_no4 ha]
          refine ⟨?_⟩; refine Spec.ofR (h := fun F w0 => ?_)
          repeat' ((conv => whnf); first | refine Q.E ?_ | (refine Stk.both (fun hb => ?_) (fun hb => ?_) <;> (try simp only [lE] at hb))); all_goals (conv => whnf)
          all_goals (refine Q.r6 (h := ?_); repeat' (first | exact Q.r0 | refine Q.r1 ?_ ?_ | refine Q.r2 ?_ | exact Q.r7 | refine Q.r3 ?_ | refine Q.r4 ?_ | refine Q.r5 ?_))
        | true =>
          rw [ha] at ja
          by_cases h0 : ((0 : Int).toNat) < k.rs.length
          · have hd := hdB_pos (b := k.base) h0
            have h0' : (0 : Int) < (k.rs.length : Nat) := by simp at h0; omega
            have hl1 := rng_at hr h0
            by_cases hlo : k.base + 1 < (k.rs[((0 : Int).toNat)]'h0).lo
            · rw [decide_eq_true hlo] at hd
              rw [knoB_ok hb hr h400 ha hd]
              refine ⟨?_⟩; refine Spec.ofR (h := fun F w0 => ?_)
              repeat' ((conv => whnf); first | refine Q.E ?_ | (refine Stk.both (fun hb => ?_) (fun hb => ?_) <;> (try simp only [lE] at hb))); all_goals (conv => whnf)
              refine Stk.loop (ι := Nat) (fun i => [(1, .lp 1 0), (3, PV.int (i : Nat))]) (fun i => [(1, .box k.cs)]) (fun i => i ≤ k.atts.length ∧ ∀ x ∈ k.atts.take i, inK k x = false) (fun i => k.atts.length - i) 0 ⟨Nat.zero_le _, by simp⟩ (Weak.gc ⟨rfl, rfl, trivial⟩ ⟨rfl, trivial⟩ rfl rfl rfl) (fun i hi => ?_)
              obtain ⟨hi, hno⟩ := hi
              by_cases hlt : i < k.atts.length
              · have jh := refhas04_spec k.rs k.atts[i].t
                cases hq : inK k k.atts[i] with
                | true =>
                  rw [show rhasB k.rs k.atts[i].t = true from hq] at jh
                  rw [any_at hlt hq]
                  repeat' ((conv => whnf); first | refine Q.E ?_ | (refine Stk.both (fun hb => ?_) (fun hb => ?_) <;> (try simp only [lE] at hb))); all_goals (conv => whnf)
                  (refine Q.r6 (h := ?_); repeat' (first | exact Q.r0 | refine Q.r1 ?_ ?_ | refine Q.r2 ?_ | exact Q.r7 | refine Q.r3 ?_ | refine Q.r4 ?_ | refine Q.r5 ?_))
                | false =>
                  rw [show rhasB k.rs k.atts[i].t = false from hq] at jh
                  repeat' ((conv => whnf); first | refine Q.E ?_ | (refine Stk.both (fun hb => ?_) (fun hb => ?_) <;> (try simp only [lE] at hb))); all_goals (conv => whnf)
                  exact ⟨i + 1, ⟨by omega, take_no hlt hno hq⟩, by omega, Weak.gc ⟨rfl, rfl, trivial⟩ ⟨rfl, trivial⟩ rfl rfl rfl⟩
              · rw [any_none hlt hno]
                repeat' ((conv => whnf); first | refine Q.E ?_ | (refine Stk.both (fun hb => ?_) (fun hb => ?_) <;> (try simp only [lE] at hb))); all_goals (conv => whnf)
                (refine Q.r6 (h := ?_); repeat' (first | exact Q.r0 | refine Q.r1 ?_ ?_ | refine Q.r2 ?_ | exact Q.r7 | refine Q.r3 ?_ | refine Q.r4 ?_ | refine Q.r5 ?_))
            · rw [decide_eq_false hlo] at hd
              rw [knoB_no5 hd]
              have hlo2 : (k.rs[((0 : Int).toNat)]'h0).lo ≤ k.base + 1 := by omega
              refine ⟨?_⟩; refine Spec.ofR (h := fun F w0 => ?_)
              repeat' ((conv => whnf); first | refine Q.E ?_ | (refine Stk.both (fun hb => ?_) (fun hb => ?_) <;> (try simp only [lE] at hb))); all_goals (conv => whnf)
              (refine Q.r6 (h := ?_); repeat' (first | exact Q.r0 | refine Q.r1 ?_ ?_ | refine Q.r2 ?_ | exact Q.r7 | refine Q.r3 ?_ | refine Q.r4 ?_ | refine Q.r5 ?_))
          · have hz : k.rs.length = 0 := by simp at h0; simp [h0]
            rw [knoB_ok hb hr h400 ha (hdB_zero hz)]
            have h0' : ¬ (0 : Int) < (k.rs.length : Nat) := by omega
            refine ⟨?_⟩; refine Spec.ofR (h := fun F w0 => ?_)
            repeat' ((conv => whnf); first | refine Q.E ?_ | (refine Stk.both (fun hb => ?_) (fun hb => ?_) <;> (try simp only [lE] at hb))); all_goals (conv => whnf)
            refine Stk.loop (ι := Nat) (fun i => [(1, .lp 1 0), (3, PV.int (i : Nat))]) (fun i => [(1, .box k.cs)]) (fun i => i ≤ k.atts.length ∧ ∀ x ∈ k.atts.take i, inK k x = false) (fun i => k.atts.length - i) 0 ⟨Nat.zero_le _, by simp⟩ (Weak.gc ⟨rfl, rfl, trivial⟩ ⟨rfl, trivial⟩ rfl rfl rfl) (fun i hi => ?_)
            obtain ⟨hi, hno⟩ := hi
            by_cases hlt : i < k.atts.length
            · have jh := refhas04_spec k.rs k.atts[i].t
              cases hq : inK k k.atts[i] with
              | true =>
                rw [show rhasB k.rs k.atts[i].t = true from hq] at jh
                rw [any_at hlt hq]
                repeat' ((conv => whnf); first | refine Q.E ?_ | (refine Stk.both (fun hb => ?_) (fun hb => ?_) <;> (try simp only [lE] at hb))); all_goals (conv => whnf)
                (refine Q.r6 (h := ?_); repeat' (first | exact Q.r0 | refine Q.r1 ?_ ?_ | refine Q.r2 ?_ | exact Q.r7 | refine Q.r3 ?_ | refine Q.r4 ?_ | refine Q.r5 ?_))
              | false =>
                rw [show rhasB k.rs k.atts[i].t = false from hq] at jh
                repeat' ((conv => whnf); first | refine Q.E ?_ | (refine Stk.both (fun hb => ?_) (fun hb => ?_) <;> (try simp only [lE] at hb))); all_goals (conv => whnf)
                exact ⟨i + 1, ⟨by omega, take_no hlt hno hq⟩, by omega, Weak.gc ⟨rfl, rfl, trivial⟩ ⟨rfl, trivial⟩ rfl rfl rfl⟩
            · rw [any_none hlt hno]
              repeat' ((conv => whnf); first | refine Q.E ?_ | (refine Stk.both (fun hb => ?_) (fun hb => ?_) <;> (try simp only [lE] at hb))); all_goals (conv => whnf)
              (refine Q.r6 (h := ?_); repeat' (first | exact Q.r0 | refine Q.r1 ?_ ?_ | refine Q.r2 ?_ | exact Q.r7 | refine Q.r3 ?_ | refine Q.r4 ?_ | refine Q.r5 ?_))
      · rw [knoB_no3 h400]
        refine ⟨?_⟩; refine Spec.ofR (h := fun F w0 => ?_)
        repeat' ((conv => whnf); first | refine Q.E ?_ | (refine Stk.both (fun hb => ?_) (fun hb => ?_) <;> (try simp only [lE] at hb))); all_goals (conv => whnf)
        all_goals (refine Q.r6 (h := ?_); repeat' (first | exact Q.r0 | refine Q.r1 ?_ ?_ | refine Q.r2 ?_ | exact Q.r7 | refine Q.r3 ?_ | refine Q.r4 ?_ | refine Q.r5 ?_))
  · rw [knoB_no1 hb]
    refine ⟨?_⟩; refine Spec.ofR (h := fun F w0 => ?_)
    repeat' ((conv => whnf); first | refine Q.E ?_ | (refine Stk.both (fun hb => ?_) (fun hb => ?_) <;> (try simp only [lE] at hb))); all_goals (conv => whnf)
    all_goals first | (exfalso; omega) | (refine Q.r6 (h := ?_); repeat' (first | exact Q.r0 | refine Q.r1 ?_ ?_ | refine Q.r2 ?_ | exact Q.r7 | refine Q.r3 ?_ | refine Q.r4 ?_ | refine Q.r5 ?_))
end Go.Proofs.YtbjepdfnmbdplaaGreat
end
section
namespace Go.Proofs.YtbjepdfnmbdplaaGreat
set_option linter.unusedSimpArgs false
set_option linter.unusedVariables false
set_option linter.unusedSectionVars false
open Go.RowKit Go.MapKept
def kvB (m : List (Int × Bool)) : List (Value × Value) := m.map fun x => (.int .i64 x.1, .bool x.2)
def lookB : List (Int × Bool) → Int → Option Bool
  | [], _ => none
  | x :: m, k => if x.1 = k then some x.2 else lookB m k
theorem lookB_none : ∀ {m : List (Int × Bool)} {k : Int}, lookB m k = none ↔ ∀ x ∈ m, x.1 ≠ k
  | [], k => by simp [lookB]
  | x :: m, k => by
    unfold lookB
    split
    · rename_i e
      simp [e]
    · rename_i e
      rw [lookB_none]
      simp [e]
theorem lookB_of {m : List (Int × Bool)} (hn : (m.map Prod.fst).Nodup) : ∀ {k : Int} {v : Bool}, (k, v) ∈ m → lookB m k = some v := by
  induction m with
  | nil => intro k v h; cases h
  | cons x m ih =>
    intro k v h
    rw [List.map_cons, List.nodup_cons] at hn
    unfold lookB
    rcases List.mem_cons.1 h with h | h
    · rw [← h]
      simp
    · rw [if_neg (fun e => hn.1 (by rw [e]; exact List.mem_map.2 ⟨_, h, rfl⟩))]
      exact ih hn.2 h
section
variable {es : Array MapEntry} {clk : Nat} {m : List (Int × Bool)}
theorem MapIs.keysB (h : MapIs es clk (kvB m)) : (m.map Prod.fst).Nodup := by
  have h1 := h.st.2.2
  have h2 : es.toList.map (·.key) = (kvB m).map Prod.fst := by rw [← h.kv, List.map_map]; rfl
  rw [h2] at h1
  unfold kvB at h1
  rw [List.map_map] at h1
  unfold List.Nodup at h1 ⊢
  rw [List.pairwise_map] at h1 ⊢
  exact h1.imp fun h e => h (by simp only [Function.comp, e])
theorem MapIs.atB (h : MapIs es clk (kvB m)) {j : Nat} {e : MapEntry} (he : es.toList[j]? = some e) : ∃ k v, m[j]? = some (k, v) ∧ e.key = .int .i64 k ∧ e.val = .bool v := by
  have h1 : (es.toList.map fun e => (e.key, e.val))[j]? = some (e.key, e.val) := by rw [List.getElem?_map, he]; rfl
  rw [h.kv] at h1
  unfold kvB at h1
  rw [List.getElem?_map] at h1
  cases hm : m[j]? with
  | none => rw [hm] at h1; cases h1
  | some x =>
    rw [hm] at h1
    simp only [Option.map_some, Option.some.injEq, Prod.mk.injEq] at h1
    exact ⟨x.1, x.2, rfl, h1.1.symm, h1.2.symm⟩
theorem MapIs.isKeyB (h : MapIs es clk (kvB m)) : ∀ x ∈ es.toList, IsKey (.int .i64) x.key := by
  intro x hx
  obtain ⟨j, hj⟩ := List.getElem?_of_mem hx
  obtain ⟨k, v, _, hk, _⟩ := h.atB hj
  rw [hk]
  rfl
theorem MapIs.findB (h : MapIs es clk (kvB m)) (k : Int) :
    (Instr.findNow (.int .i64) (.int .i64 k) es.toList 0 = some none ∧ (∀ x ∈ es.toList, x.key ≠ .int .i64 k) ∧ lookB m k = none) ∨
    ∃ j e v, Instr.findNow (.int .i64) (.int .i64 k) es.toList 0 = some (some (j, .bool v)) ∧ es.toList[j]? = some e ∧ e.key = .int .i64 k ∧ m[j]? = some (k, v) ∧ lookB m k = some v := by
  rcases findNow_spec (d := .int .i64) (k := .int .i64 k) rfl es.toList 0 h.isKeyB with ⟨h1, h2⟩ | ⟨j, e, h1, h2, h3⟩
  · refine .inl ⟨h1, h2, lookB_none.2 fun x hx hk => ?_⟩
    obtain ⟨j, hj⟩ := List.getElem?_of_mem hx
    have hl : j < es.toList.length := by
      have e1 := congrArg List.length h.kv
      rw [List.length_map] at e1
      unfold kvB at e1
      rw [List.length_map] at e1
      rw [e1]
      exact (List.getElem?_eq_some_iff.1 hj).1
    obtain ⟨k', v', hm, hk', _⟩ := h.atB (List.getElem?_eq_getElem hl)
    rw [hj] at hm
    injection hm with hm
    subst hm
    exact h2 _ (List.getElem_mem hl) (by rw [hk', ← hk])
  · obtain ⟨k', v, hm, hk, hv⟩ := h.atB h2
    rw [h3] at hk
    injection hk with _ hk
    subst hk
    rw [Nat.zero_add, hv] at h1
    exact .inr ⟨j, e, v, h1, h2, h3, hm, lookB_of h.keysB (List.mem_of_getElem? hm)⟩
end
class MapTB (P : Program) (t : TypeId) (kt et : outParam TypeId) : Prop where
  h1 : P.underlying t = some (.map kt et)
  h2 : P.underlying kt = some (.int .i64)
  h3 : (P.info? et).map (·.zero) = some (some (.bool false))
section
variable {P : Program} {w : World} {g : Nat} {es : Array MapEntry} {clk : Nat} {m : List (Int × Bool)} {t kt et : TypeId}
theorem run_look_kvB [h : MapTB P t kt et] (hb : w.heap[g]? = some (.map es clk)) (hi : MapIs es clk (kvB m)) (k : Int) (ok : Bool) : (Instr.lookup t (.map (some g)) (.int .i64 k) ok).run P w = .ok (if ok then .tuple #[.bool ((lookB m k).getD false), .bool (lookB m k).isSome] else .bool ((lookB m k).getD false)) w := by
  have hz : (zeroValue et).run P w = .ok (.bool false) w := by
    have := h.h3
    cases hi : P.info? et with
    | none => rw [hi] at this; cases this
    | some i =>
      rw [hi] at this
      simp only [Option.map_some, Option.some.injEq] at this
      simp [zeroValue, typeInfo, hi, this]
  rcases hi.findB k with ⟨h1, _, h3⟩ | ⟨j, e, v, h1, _, _, _, h3⟩
  · cases ok <;> simp [Instr.lookup, run_underlying h.h1, MapKept.run_getObj_map hb, run_checkKey (d := .int .i64) (k := .int .i64 k) h.h2 rfl, run_findKey h.h2 h1, hz, Result.andThen, h3]
  · cases ok <;> simp [Instr.lookup, run_underlying h.h1, MapKept.run_getObj_map hb, run_checkKey (d := .int .i64) (k := .int .i64 k) h.h2 rfl, run_findKey h.h2 h1, Result.andThen, h3]
end
def mapRB (m : List (Int × Bool)) (k : Int) (ok : Bool) : PV := bif ok then .tup [.v (.bool ((lookB m k).getD false)), .v (.bool (lookB m k).isSome)] else .v (.bool ((lookB m k).getD false))
section
variable {P : Program} {σ : St} {dst : Option Tmp} {ty : TypeId} {pos : String} {after : Array Edge} {guard : Option (Nat × Bool)} {t kt et : TypeId}
theorem mapRB_rep {w : World} {μ : LMap} (m : List (Int × Bool)) (k : Int) (ok : Bool) : Rep w μ (mapRB m k ok) (if ok then .tuple #[.bool ((lookB m k).getD false), .bool (lookB m k).isSome] else .bool ((lookB m k).getD false)) := by
  cases ok with
  | false => exact rfl
  | true => exact ⟨_, rfl, _, _, rfl, rfl, _, _, rfl, rfl, rfl⟩
theorem ok_look_moB [h : MapTB P t kt et] {x y : Operand} {id : Nat} {m : List (Int × Bool)} {k : Int} {ok : Bool} (hx : σ.ev x = some (.mo id)) (hb : σ.blk id = some (.mp (kvB m))) (hy : σ.ev y = some (.v (.int .i64 k))) (hd : inB σ dst = true) : OpOK P ⟨dst, .lookup t x y ok, ty, pos, after, guard⟩ σ (mapRB m k ok) [] :=
  OpOK.val hd fun X w0 σ' a w μ hag s => by
    have h1 := eval_tmp s (hag.ev x (by simp [Op.operands]) _ hx)
    have h2 := eval_v s (hag.ev y (by simp [Op.operands]) _ hy)
    obtain ⟨g, es, clk, hm', hg, hm⟩ := s.blk id _ (hag.blk x (by simp [Op.operands]) _ id _ hx rfl hb)
    simp only [Rep] at h1
    obtain ⟨g', hm2, e⟩ := h1
    rw [hm'] at hm2
    injection hm2 with hm2
    injection hm2 with hm2
    subst hm2
    exact ⟨_, by simp [execOp, e, h2, run_look_kvB hg hm k ok], mapRB_rep m k ok⟩
theorem eff_mapNewB [h : MapTB P t kt et] {x y z : Operand} {id : Nat} {m : List (Int × Bool)} {k : Int} {v : Bool} (hx : σ.ev x = some (.mo id)) (hb : σ.blk id = some (.mp (kvB m))) (hy : σ.ev y = some (.v (.int .i64 k))) (hz : σ.ev z = some (.v (.bool v))) (hn : lookB m k = none) :
    OpEff P ⟨none, .mapUpdate t x y z, ty, pos, after, guard⟩ σ (σ.setB id (.mp (kvB (m ++ [(k, v)])))) := by
  refine ⟨fun X w0 a w μ K Q s hK => ?_⟩
  have h1 := eval_tmp s hx
  have h2 := eval_v s hy
  have h3 := eval_v s hz
  obtain ⟨g, es, clk, hm', hg, hm⟩ := s.blk id _ hb
  simp only [Rep] at h1
  obtain ⟨g', hm2, e⟩ := h1
  rw [hm'] at hm2
  injection hm2 with hm2
  injection hm2 with hm2
  subst hm2
  rcases hm.findB k with ⟨f1, f2, _⟩ | ⟨_, _, _, _, _, _, _, f3⟩
  · have hrun : (execOp a.eval ⟨none, .mapUpdate t x y z, ty, pos, after, guard⟩).run P w = .ok .skip { w with heap := w.heap.setIfInBounds g (.map (es.push { key := .int .i64 k, val := .bool v, born := clk }) (clk + 1)) } := by
      simp [execOp, e, h2, h3, Instr.mapUpdate, run_underlying h.h1, MapKept.run_getObj_map hg, run_checkKey (d := .int .i64) (k := .int .i64 k) h.h2 rfl, run_findKey h.h2 f1, MapKept.run_setObj_map _ hg, Result.andThen]
    unfold Oper.wp
    rw [hrun]
    obtain ⟨_, sm⟩ := s.relay hm' rfl (grown_set _) (b' := .mp (kvB (m ++ [(k, v)]))) (fun hl => ⟨g, _, _, hm', (heap_set hg).1, by
      rw [Array.toList_push, List.map_append, hm.kv]
      simp [kvB], stamped_push (key := .int .i64 k) (val := .bool v) hm.st f2⟩)
    exact hK _ _ μ sm
  · rw [hn] at f3; cases f3
class ConcT (P : Program) (t : TypeId) : Prop where
  h : P.concrete t = true
class IfcT (P : Program) (t : TypeId) : Prop where
  h : P.underlying t = some (.interface (P.methodsAt t))
theorem ok_mkIfc {t : TypeId} {x : Operand} {p : PV} [h : ConcT P t] (hx : σ.ev x = some p) (hd : inB σ dst = true) : OpOK P ⟨dst, .makeInterface t x, ty, pos, after, guard⟩ σ (.ifc t p) [] :=
  OpOK.val hd fun X w0 σ' a w μ hag s => by
    have h1 := eval_tmp s (hag.ev x (by simp [Op.operands]) _ hx)
    refine ⟨.iface t (a.eval x), ?_, a.eval x, rfl, h1⟩
    show ((do pure (Next.value (← Instr.makeInterface t (a.eval x)))) : Go.Sem Next).run P w = _
    rw [Sem.run_bind, run_makeInterface w t _ h.h, Result.andThen_ok]
    rfl
theorem ok_ifcNe {t t' yt : TypeId} {x : Operand} {p : PV} [h : IfcT P t] (hx : σ.ev x = some (.ifc t' p)) (hd : inB σ dst = true) : OpOK P ⟨dst, .binOp .neq t x (.const .nilIface) yt, ty, pos, after, guard⟩ σ (.v (.bool true)) [] :=
  OpOK.val hd fun X w0 σ' a w μ hag s => by
    have h1 := eval_tmp s (hag.ev x (by simp [Op.operands]) _ hx)
    simp only [Rep] at h1
    obtain ⟨z, e, _⟩ := h1
    refine ⟨.bool true, ?_, rfl⟩
    show ((do pure (Next.value (← (do eqGuard .neq t x (.const .nilIface) (a.eval x) .nilIface; binOp .neq t (a.eval x) .nilIface)))) : Go.Sem Next).run P w = _
    rw [e]
    show ((do pure (Next.value (← (do pure (); binOp .neq t (.iface t' z) .nilIface)))) : Go.Sem Next).run P w = _
    rw [Sem.run_bind, run_neq_held_nil w t t' z h.h, Result.andThen_ok]
    rfl
theorem ok_nilNe {t yt : TypeId} {x : Operand} [h : IfcT P t] (hx : σ.ev x = some (.v .nilIface)) (hd : inB σ dst = true) : OpOK P ⟨dst, .binOp .neq t x (.const .nilIface) yt, ty, pos, after, guard⟩ σ (.v (.bool false)) [] :=
  OpOK.val hd fun X w0 σ' a w μ hag s => by
    have e := eval_v s (hag.ev x (by simp [Op.operands]) _ hx)
    refine ⟨.bool false, ?_, rfl⟩
    show ((do pure (Next.value (← (do eqGuard .neq t x (.const .nilIface) (a.eval x) .nilIface; binOp .neq t (a.eval x) .nilIface)))) : Go.Sem Next).run P w = _
    rw [e, eqGuard_nil_constR]
    show ((do pure (Next.value (← (do pure (); binOp .neq t .nilIface .nilIface)))) : Go.Sem Next).run P w = _
    rw [Sem.run_bind, run_neq_nil_nil w t h.h, Result.andThen_ok]
    rfl
theorem ok_byte {t : TypeId} {x y : Operand} {b : ByteArray} {k : IntKind} {i : Int} [h : StrT P t] (hx : σ.ev x = some (.v (.string b))) (hy : σ.ev y = some (.v (.int k i))) {v : UInt8} (h0 : 0 ≤ i) (hb : b[i.toNat]? = some v) (hd : inB σ dst = true) : OpOK P ⟨dst, .index t x y, ty, pos, after, guard⟩ σ (.v (.int .u8 v.toNat)) [] :=
  OpOK.val hd fun X w0 σ' a w μ hag s => by
    have e1 := eval_v s (hag.ev x (by simp [Op.operands]) _ hx)
    have e2 := eval_v s (hag.ev y (by simp [Op.operands]) _ hy)
    exact ⟨.int .u8 v.toNat, by simp [execOp, e1, e2, Instr.index, asIntOf, run_underlying h.h, h0, hb], rfl⟩
end
section
variable {X : XF} {w0 : World}
theorem Weak.hide {nt d : Nat} {t : TypeId} {p : PV} {env : List (Nat × PV)} {lh : List (Nat × LB)} : Weak X w0 ⟨nt, (d, .ifc t p) :: env, lh⟩ ⟨nt, (d, .ifc t .any) :: env, lh⟩ := ⟨fun a w μ s => ⟨μ, s.nt, s.defers, s.keep, s.F, s.hF, s.hX, s.fr, fun t' q hq => by
  by_cases e : t' = d
  · subst e
    have h1 := s.env t' (.ifc t p) (look_cons_eq t' _ env)
    obtain ⟨y, hy, r⟩ := h1
    have hq' : look t' ((t', PV.ifc t .any) :: env) = some q := hq
    rw [look_cons_eq] at hq'
    injection hq' with hq'
    subst hq'
    simp only [Rep] at r ⊢
    obtain ⟨z, e, _⟩ := r
    exact ⟨y, hy, z, e, trivial⟩
  · have hq' : look t' ((d, PV.ifc t .any) :: env) = some q := hq
    rw [look_cons_ne e] at hq'
    exact s.env t' q (by show look t' ((d, PV.ifc t p) :: env) = some q; rw [look_cons_ne e]; exact hq'), s.blk, s.dom, s.apart, s.fresh⟩⟩
end
section
variable {P : Program} {X : XF} {w0 : World} {T : TT} [tb : TabT P T] {K : Exit → St → Prop}
theorem Stk.appC {g d' : Nat} {args : List PV} {A : PV → Option LB → StepR} {nt d id : Nat} {b : LB} {p : PV} {env : List (Nat × PV)} {lh : List (Nat × LB)} {fs : List Fr} {o : Oper} {ops : Array Oper} {l : List Oper} (hg : o.guard = none) (h : OpEff P o ⟨nt, env, lh⟩ ((St.setB ⟨nt, env, lh⟩ id b).put (some d) p)) (k : GoR P X w0 T (.next ⟨.ops ops l, nt, (d, p) :: env, (id, b) :: lh, fs⟩) K) :
    Stk P X w0 T (.call g args d' A ⟨.ops ops (o :: l), nt, env, lh, fs⟩) K := ⟨.inr (.inr (RW.stA hg h (k.sem tb.ok tb.mixed)))⟩
end
end Go.Proofs.YtbjepdfnmbdplaaGreat
end
section
namespace Go.Proofs.YtbjepdfnmbdplaaGreat
set_option linter.unusedSimpArgs false
set_option linter.unusedVariables false
set_option linter.unusedSectionVars false
open Go.RowKit
def LMap.rst (μ : LMap) (id : Nat) (z : Value) : LMap := ⟨μ.F, fun k => if k = id then some (.row z 0) else μ.m k⟩
theorem LMap.rst_ne (μ : LMap) {id k : Nat} {z : Value} (h : k ≠ id) : (μ.rst id z).m k = μ.m k := if_neg h
theorem LMap.rst_eq (μ : LMap) (id : Nat) (z : Value) : (μ.rst id z).m id = some (.row z 0) := if_pos rfl
theorem LMap.rst_owns {μ : LMap} {id ver : Nat} {z : Value} (hm : μ.m id = some (.row z ver)) : (μ.rst id z).owns = μ.owns := by
  funext g
  refine propext ⟨fun h => ?_, fun h => ?_⟩
  · rcases h with h | ⟨k, l, hl, hb⟩
    · exact .inl h
    · by_cases e : k = id
      · subst e
        rw [LMap.rst_eq] at hl
        injection hl with hl
        subst hl
        exact .inr ⟨k, _, hm, hb⟩
      · rw [LMap.rst_ne _ e] at hl
        exact .inr ⟨k, l, hl, hb⟩
  · rcases h with h | ⟨k, l, hl, hb⟩
    · exact .inl h
    · by_cases e : k = id
      · subst e
        rw [hm] at hl
        injection hl with hl
        subst hl
        exact .inr ⟨k, _, LMap.rst_eq _ _ _, hb⟩
      · exact .inr ⟨k, l, by rw [LMap.rst_ne _ e]; exact hl, hb⟩
theorem LMap.rst_shut {μ : LMap} {id ver : Nat} {z : Value} (hm : μ.m id = some (.row z ver)) : (μ.rst id z).shut = μ.shut := by
  unfold LMap.shut
  rw [LMap.rst_owns hm]
mutual
theorem Rep.rst {w : World} {μ : LMap} {id ver : Nat} {z : Value} (hm : μ.m id = some (.row z ver)) : ∀ (p : PV) (y : Value), p.noId id = true → Rep w μ p y → Rep w (μ.rst id z) p y
  | .v _, _, _, r => r
  | .any, _, _, _ => trivial
  | .agg cs, _, h, ⟨vs, e, r, h1⟩ => ⟨vs, e, RepL.rst hm cs vs (by simpa [PV.noId] using h) r, h1⟩
  | .tup cs, _, h, ⟨vs, e, r⟩ => ⟨vs, e, RepL.rst hm cs vs (by simpa [PV.noId] using h) r⟩
  | .sl sz xs, _, _, ⟨A, c, e, h1, h2, r⟩ => ⟨A, c, e, h1, h2, by rw [LMap.rst_shut hm]; exact r⟩
  | .ptr cs, _, _, ⟨a, e, r⟩ => ⟨a, e, by rw [LMap.rst_shut hm]; exact r⟩
  | .lp i o, _, h, ⟨g, hg, e⟩ => ⟨g, by rw [LMap.rst_ne _ (beq_ne h)]; exact hg, e⟩
  | .row i ver, _, h, ⟨z, k, hz, r⟩ => ⟨z, k, by rw [LMap.rst_ne _ (beq_ne h)]; exact hz, r⟩
  | .rp i ver _ _ _, _, h, ⟨z, k, hz, r⟩ => ⟨z, k, by rw [LMap.rst_ne _ (beq_ne h)]; exact hz, r⟩
  | .own _ _ _, _, _, r => r
  | .fn _ first caps, _, h, ⟨vs, us, e, r1, r2⟩ => by
    simp only [PV.noId, Bool.and_eq_true] at h
    exact ⟨vs, us, e, RepL.rst hm first vs h.1 r1, RepL.rst hm caps us h.2 r2⟩
  | .ifc _ x, _, h, ⟨z, e, r⟩ => ⟨z, e, Rep.rst hm x z (by simpa [PV.noId] using h) r⟩
  | .rs i ver _ _ _, _, h, ⟨z, k, hz, r⟩ => ⟨z, k, by rw [LMap.rst_ne _ (beq_ne h)]; exact hz, r⟩
  | .mp _, _, _, ⟨g, es, clk, e, hg, ho, hm'⟩ => ⟨g, es, clk, e, hg, by rw [LMap.rst_owns hm]; exact ho, hm'⟩
  | .mo i, _, h, ⟨g, hg, e⟩ => ⟨g, by rw [LMap.rst_ne _ (beq_ne h)]; exact hg, e⟩
theorem RepL.rst {w : World} {μ : LMap} {id ver : Nat} {z : Value} (hm : μ.m id = some (.row z ver)) : ∀ (cs : List PV) (vs : List Value), noIdL id cs = true → RepL w μ cs vs → RepL w (μ.rst id z) cs vs
  | [], _, _, r => r
  | c :: cs, _, h, ⟨u, us, e, r1, r2⟩ => by
    simp only [noIdL, Bool.and_eq_true] at h
    exact ⟨u, us, e, Rep.rst hm c u h.1 r1, RepL.rst hm cs us h.2 r2⟩
end
mutual
theorem noId_closed {id : Nat} : ∀ (p : PV), p.closed = true → p.noId id = true
  | .v _, _ | .any, _ | .sl _ _, _ | .ptr _, _ | .mp _, _ => rfl
  | .agg cs, h => by simp only [PV.closed] at h; simp only [PV.noId]; exact noIdL_closed cs h
  | .tup cs, h => by simp only [PV.closed] at h; simp only [PV.noId]; exact noIdL_closed cs h
  | .lp _ _, h => by cases h
  | .row _ _, h => by cases h
  | .rp _ _ _ _ _, h => by cases h
  | .own _ _ _, _ => rfl
  | .rs _ _ _ _ _, h => by cases h
  | .mo _, h => by cases h
  | .fn _ a b, h => by
    simp only [PV.closed, Bool.and_eq_true] at h
    simp only [PV.noId, Bool.and_eq_true]
    exact ⟨noIdL_closed a h.1, noIdL_closed b h.2⟩
  | .ifc _ x, h => by simp only [PV.closed] at h; simp only [PV.noId]; exact noId_closed x h
theorem noIdL_closed {id : Nat} : ∀ (cs : List PV), closedL cs = true → noIdL id cs = true
  | [], _ => rfl
  | c :: cs, h => by
    simp only [closedL, Bool.and_eq_true] at h
    simp only [noIdL, Bool.and_eq_true]
    exact ⟨noId_closed c h.1, noIdL_closed cs h.2⟩
end
theorem Weak.rever {X : XF} {w0 : World} {nt : Nat} {env env' : List (Nat × PV)} {lh lh' : List (Nat × LB)} {id ver rt sz : Nat} {xs : List (List PV)} (hb : look id lh = some (.row rt sz ver xs)) (hc : xs.all closedL = true) (he : frzE ⟨nt, env, lh⟩ id (.row id ver) (.row id 0) env') (hb1 : frzB ⟨nt, env, lh⟩ id lh') (hb2 : keepsB lh lh' id = true) (hfr : frNo id X.fr = true := by rfl) :
    Weak X w0 ⟨nt, env, lh⟩ ⟨nt, env', (id, .row rt sz 0 xs) :: lh'⟩ := by
  refine ⟨fun a w μ s => ?_⟩
  obtain ⟨y, vs, hm, hown, r, hl, h1⟩ := s.blk id _ hb
  refine ⟨μ.rst id y, s.nt, s.defers, s.keep, s.F, s.hF, ?_, ?_, ?_, ?_, ?_, ?_, ?_⟩
  · exact s.hX
  · intro e he' t p hp
    obtain ⟨z, hz, rz⟩ := s.fr e he' t p hp
    exact ⟨z, hz, Rep.rst hm p z (List.all_eq_true.1 (List.all_eq_true.1 hfr e he') (t, p) (look_mem hp)) rz⟩
  · intro t p hp
    rcases frzE_get he t p hp with ⟨hg, hno⟩ | ⟨hg, rfl⟩
    · obtain ⟨z, hz, rz⟩ := s.env t p hg
      exact ⟨z, hz, Rep.rst hm p z hno rz⟩
    · obtain ⟨z, hz, rz⟩ := s.env t _ hg
      refine ⟨z, hz, ?_⟩
      simp only [Rep] at rz ⊢
      obtain ⟨z', k, hz', _, ho, e⟩ := rz
      rw [hm] at hz'
      injection hz' with hz'
      injection hz' with e1 e2
      subst e1 e2
      exact ⟨y, 0, LMap.rst_eq _ _ _, Nat.le_refl _, ho, fun _ => e rfl⟩
  · intro k b hk
    have hk : look k ((id, .row rt sz 0 xs) :: lh') = some b := hk
    by_cases e : k = id
    · subst e
      rw [look_cons_eq] at hk
      injection hk with hk
      subst hk
      exact ⟨y, vs, LMap.rst_eq _ _ _, hown, RepL.rst hm _ _ (noIdL_closed _ (closedL_flatten hc)) r, hl, h1⟩
    · rw [look_cons_ne e] at hk
      obtain ⟨hne, hno, hkb⟩ := frzB_get hb1 k b hk
      have hok := s.blk k b hkb
      cases b with
      | box cells =>
        obtain ⟨g, cs, ty, hm', hg, r', h1'⟩ := hok
        exact ⟨g, cs, ty, by rw [LMap.rst_ne _ hne]; exact hm', hg, RepL.rst hm _ _ hno r', h1'⟩
      | row ty sz' ver' xs' =>
        obtain ⟨y', vs', hm', hown', r', h1', h2'⟩ := hok
        exact ⟨y', vs', by rw [LMap.rst_ne _ hne]; exact hm', hown', RepL.rst hm _ _ (noIdL_flatten hno) r', h1', h2'⟩
      | mp kv =>
        obtain ⟨g, es, clk, hm', r'⟩ := hok
        exact ⟨g, es, clk, by rw [LMap.rst_ne _ hne]; exact hm', r'⟩
      | it kv seen =>
        obtain ⟨g, gm, es, clk, bs, hm', hg, hgm, ho, r'⟩ := hok
        exact ⟨g, gm, es, clk, bs, by rw [LMap.rst_ne _ hne]; exact hm', hg, hgm, by rw [LMap.rst_owns hm]; exact ho, r'⟩
  · intro k l hk
    show ∃ b, look k ((id, .row rt sz 0 xs) :: lh') = some b
    by_cases e : k = id
    · subst e; exact ⟨_, look_cons_eq _ _ _⟩
    · rw [LMap.rst_ne _ e] at hk
      obtain ⟨b, hkb⟩ := s.dom k l hk
      rw [look_cons_ne e]
      cases hl' : look k lh' with
      | none =>
        have : look k lh = some b := hkb
        rw [keepsB_spec hb2 k e hl'] at this
        cases this
      | some b' => exact ⟨b', rfl⟩
  · intro k k' l l' g h1 h2 g1 g2
    by_cases e : k = id
    · by_cases e' : k' = id
      · rw [e, e']
      · subst e
        rw [LMap.rst_eq] at h1
        injection h1 with h1
        subst h1
        rw [LMap.rst_ne _ e'] at h2
        exact s.apart k k' _ l' g hm h2 g1 g2
    · rw [LMap.rst_ne _ e] at h1
      by_cases e' : k' = id
      · subst e'
        rw [LMap.rst_eq] at h2
        injection h2 with h2
        subst h2
        exact s.apart k k' l _ g h1 hm g1 g2
      · rw [LMap.rst_ne _ e'] at h2
        exact s.apart k k' l l' g h1 h2 g1 g2
  · intro k l g hk hg
    by_cases e : k = id
    · subst e
      rw [LMap.rst_eq] at hk
      injection hk with hk
      subst hk
      exact s.fresh k _ g hm hg
    · rw [LMap.rst_ne _ e] at hk
      exact s.fresh k l g hk hg
end Go.Proofs.YtbjepdfnmbdplaaGreat
end
section
namespace Go.Proofs.YtbjepdfnmbdplaaGreat
open Go.RowKit
set_option linter.unusedSimpArgs false
set_option linter.unusedVariables false
set_option maxRecDepth 100000
set_option maxHeartbeats 1000000
instance mapIB : MapTB Tryz.prog 238 3 4 := ⟨by kernel_rfl, by kernel_rfl, by kernel_rfl⟩
def seenM (l : List Att) : List (Int × Bool) := l.map fun a => (a.id, true)
theorem look_seen : ∀ (l : List Att) (id : Int), lookB (seenM l) id = if l.any (sameId id) then some true else none
  | [], _ => rfl
  | a :: l, id => by
    show (if a.id = id then some true else lookB (seenM l) id) = _
    rw [look_seen l id, List.any_cons]
    by_cases h : a.id = id
    · rw [if_pos h, show sameId id a = true from decide_eq_true h]
      rfl
    · rw [if_neg h, show sameId id a = false from decide_eq_false h]
      rfl
theorem ok_seen {P : Program} {σ : St} {dst : Option Tmp} {ty : TypeId} {pos : String} {after : Array Edge} {guard : Option (Nat × Bool)} {t kt et : TypeId} [h : MapTB P t kt et] {x y : Operand} {id : Nat} {l : List Att} {k : Int} {b : Bool} (hx : σ.ev x = some (.mo id)) (hb : σ.blk id = some (.mp (kvB (seenM l)))) (hy : σ.ev y = some (.v (.int .i64 k))) (hs : l.any (sameId k) = b) (hd : inB σ dst = true) : OpOK P ⟨dst, .lookup t x y false, ty, pos, after, guard⟩ σ (.v (.bool b)) [] := by
  have h1 := ok_look_moB (P := P) (σ := σ) (dst := dst) (ty := ty) (pos := pos) (after := after) (guard := guard) (t := t) (ok := false) hx hb hy hd
  have h2 : mapRB (seenM l) k false = .v (.bool b) := by
    show PV.v (.bool ((lookB (seenM l) k).getD false)) = _
    rw [look_seen, hs]
    cases b <;> rfl
  rw [h2] at h1
  exact h1
theorem own_att {lo hi : Int} {l : List Att} {i : Nat} (h : prefTo (ownP lo hi) l i = true) (hi' : i ≤ l.length) : lo ≤ lastI Att.t lo (l.take i) ∧ (0 < i → lastI Att.t lo (l.take i) ≤ hi) := by
  by_cases h0 : 0 < i
  · have h1 := (ownP_iff.1 (prefTo_at h (show i - 1 < i by omega) (by omega))).1
    rw [lastI_pos Att.t lo hi' h0]
    omega
  · obtain rfl : i = 0 := by omega
    rw [lastI_zero]
    omega
theorem clk_no1 {now floor : Int} {own : List Att} (h : ¬ (0 ≤ floor ∧ floor ≤ now ∧ now ≤ 1000000)) : clkB now floor own = false := by unfold clkB; rw [decide_eq_false h]; rfl
theorem clk_no2 {now floor : Int} {own : List Att} {i : Nat} (hi : i < own.length) (h : ownP floor now (own.take i) own[i] = false) : clkB now floor own = false := by unfold clkB; rw [pref_bad hi h, Bool.and_false]
theorem clk_yes {now floor : Int} {own : List Att} {i : Nat} (h0 : 0 ≤ floor ∧ floor ≤ now ∧ now ≤ 1000000) (h1 : ¬ i < own.length) (h2 : i ≤ own.length) (h : prefTo (ownP floor now) own i = true) : clkB now floor own = true := by unfold clkB; rw [decide_eq_true h0, pref_end (by omega) h2 h]; rfl
instance clkcheck_spec (now floor : Int) (own : List Att) : HasSpec Tryz.prog 166 [PV.int now, PV.int floor, PV.atts own] (PV.int (errI (clkB now floor own) 2)) := by
  by_cases h0 : 0 ≤ floor ∧ floor ≤ now ∧ now ≤ 1000000
  · refine ⟨Spec.bound 2 rfl fun hl => ?_⟩; rw [List.length_map] at hl; refine Spec.ofR (h := fun F w0 => ?_)
    repeat' ((conv => whnf); first | refine Q.E ?_ | (refine Stk.both (fun hb => ?_) (fun hb => ?_) <;> (try simp only [lE] at hb))); all_goals (conv => whnf)
    refine Stk.opB (ok_makeMap rfl) rfl ?_
    repeat' ((conv => whnf); first | refine Q.E ?_ | (refine Stk.both (fun hb => ?_) (fun hb => ?_) <;> (try simp only [lE] at hb))); all_goals (conv => whnf)
    refine Stk.loop (ι := Nat) (fun i => [(0, PV.int now), (7, PV.int (lastI Att.t floor (own.take i))), (8, .mo 23), (24, PV.atts own), (25, PV.int (own.length : Nat)), (26, PV.int (i : Nat))]) (fun i => [(23, .mp (kvB (seenM (own.take i))))]) (fun i => i ≤ own.length ∧ prefTo (ownP floor now) own i = true) (fun i => own.length - i) 0 ⟨Nat.zero_le _, rfl⟩ (Weak.gc ⟨rfl, rfl, rfl, rfl, rfl, rfl, trivial⟩ ⟨rfl, trivial⟩ rfl rfl rfl) (fun i hi => ?_)
    obtain ⟨hi, hp⟩ := hi
    have hb := (own_att hp hi).1
    by_cases hlt : i < own.length
    · have hs := lastI_succ Att.t floor hlt
      have hm : seenM (own.take (i + 1)) = seenM (own.take i) ++ [(own[i].id, true)] := by
        unfold seenM
        rw [take_snoc' own i hlt, List.map_append]
        rfl
      have hlk := look_seen (own.take i) own[i].id
      cases hid : idB own[i].id with
      | false =>
        have ji := idchk_no hid
        rw [clk_no2 hlt (ownP_f fun h => by rw [hid] at h; exact absurd h.1.2.2.2 (by simp))]
        generalize lastI Att.t floor (own.take i) = la at *
        repeat' ((conv => whnf); first | refine Q.E ?_ | (refine Stk.both (fun hb => ?_) (fun hb => ?_) <;> (try simp only [lE] at hb))); all_goals (conv => whnf)
        all_goals (refine Q.r6 (h := ?_); repeat' (first | exact Q.r0 | refine Q.r1 ?_ ?_ | refine Q.r2 ?_ | exact Q.r7 | refine Q.r3 ?_ | refine Q.r4 ?_ | refine Q.r5 ?_))
      | true =>
        have ji := idchk_yes hid
        cases hd : (own.take i).any (sameId own[i].id) with
        | true =>
          rw [clk_no2 hlt (ownP_f fun h => by rw [hd] at h; exact absurd h.2 (by simp))]
          generalize lastI Att.t floor (own.take i) = la at *
          repeat' ((conv => whnf); first | refine Q.E ?_ | (refine Stk.both (fun hb => ?_) (fun hb => ?_) <;> (try simp only [lE] at hb))); all_goals (conv => whnf)
          all_goals first | (refine Stk.op (ok_seen rfl rfl rfl hd rfl) ?_) | skip
          all_goals repeat' ((conv => whnf); first | refine Q.E ?_ | (refine Stk.both (fun hb => ?_) (fun hb => ?_) <;> (try simp only [lE] at hb))); all_goals (conv => whnf)
          all_goals (refine Q.r6 (h := ?_); repeat' (first | exact Q.r0 | refine Q.r1 ?_ ?_ | refine Q.r2 ?_ | exact Q.r7 | refine Q.r3 ?_ | refine Q.r4 ?_ | refine Q.r5 ?_))
        | false =>
          rw [hd, if_neg (by simp)] at hlk
          by_cases hq : floor < own[i].t ∧ lastI Att.t floor (own.take i) < own[i].t ∧ own[i].t ≤ now
          · have hq2 : ownP floor now (own.take i) own[i] = true := ownP_iff.2 ⟨⟨hq.1, hq.2.1, hq.2.2, hid⟩, hd⟩
            have hp2 := prefTo_next hlt hp hq2
            generalize lastI Att.t floor (own.take i) = la at *
            repeat' ((conv => whnf); first | refine Q.E ?_ | (refine Stk.both (fun hb => ?_) (fun hb => ?_) <;> (try simp only [lE] at hb))); all_goals (conv => whnf)
            refine Stk.op (ok_seen rfl rfl rfl hd rfl) ?_
            repeat' ((conv => whnf); first | refine Q.E ?_ | (refine Stk.both (fun hb => ?_) (fun hb => ?_) <;> (try simp only [lE] at hb))); all_goals (conv => whnf)
            refine Stk.eff (h := eff_mapNewB rfl rfl rfl rfl hlk) (k := ?_)
            repeat' ((conv => whnf); first | refine Q.E ?_ | (refine Stk.both (fun hb => ?_) (fun hb => ?_) <;> (try simp only [lE] at hb))); all_goals (conv => whnf)
            refine ⟨i + 1, ⟨by omega, hp2⟩, by omega, ?_⟩
            rw [hs, hm]
            exact Weak.gc ⟨rfl, rfl, rfl, rfl, rfl, rfl, trivial⟩ ⟨rfl, trivial⟩ rfl rfl rfl
          · rw [clk_no2 hlt (ownP_f fun h => hq ⟨h.1.1, h.1.2.1, h.1.2.2.1⟩)]
            generalize lastI Att.t floor (own.take i) = la at *
            repeat' ((conv => whnf); first | refine Q.E ?_ | (refine Stk.both (fun hb => ?_) (fun hb => ?_) <;> (try simp only [lE] at hb))); all_goals (conv => whnf)
            all_goals first | (exfalso; omega) | (refine Q.r6 (h := ?_); repeat' (first | exact Q.r0 | refine Q.r1 ?_ ?_ | refine Q.r2 ?_ | exact Q.r7 | refine Q.r3 ?_ | refine Q.r4 ?_ | refine Q.r5 ?_))
    · rw [clk_yes h0 hlt hi hp]
      repeat' ((conv => whnf); first | refine Q.E ?_ | (refine Stk.both (fun hb => ?_) (fun hb => ?_) <;> (try simp only [lE] at hb))); all_goals (conv => whnf)
      (refine Q.r6 (h := ?_); repeat' (first | exact Q.r0 | refine Q.r1 ?_ ?_ | refine Q.r2 ?_ | exact Q.r7 | refine Q.r3 ?_ | refine Q.r4 ?_ | refine Q.r5 ?_))
  · rw [clk_no1 h0]
    refine ⟨Spec.bound 2 rfl fun hl => ?_⟩; rw [List.length_map] at hl; refine Spec.ofR (h := fun F w0 => ?_)
    repeat' ((conv => whnf); first | refine Q.E ?_ | (refine Stk.both (fun hb => ?_) (fun hb => ?_) <;> (try simp only [lE] at hb))); all_goals (conv => whnf)
    all_goals first | (exfalso; omega) | (refine Q.r6 (h := ?_); repeat' (first | exact Q.r0 | refine Q.r1 ?_ ?_ | refine Q.r2 ?_ | exact Q.r7 | refine Q.r3 ?_ | refine Q.r4 ?_ | refine Q.r5 ?_))
instance refclk_spec (now floor : Int) (own : List Att) : HasSpec Tryz.prog 158 [PV.int now, PV.int floor, PV.atts own] (PV.int (errI (clkB now floor own) 2)) := by
  by_cases h0 : 0 ≤ floor ∧ floor ≤ now ∧ now ≤ 1000000
  · refine ⟨Spec.bound 2 rfl fun hl => ?_⟩; rw [List.length_map] at hl; refine Spec.ofR (h := fun F w0 => ?_)
    repeat' ((conv => whnf); first | refine Q.E ?_ | (refine Stk.both (fun hb => ?_) (fun hb => ?_) <;> (try simp only [lE] at hb))); all_goals (conv => whnf)
    refine Stk.loop (ι := Nat) (fun i => [(0, PV.int now), (1, PV.int floor), (2, PV.atts own), (7, PV.int (i : Nat))]) (fun i => []) (fun i => i ≤ own.length ∧ prefTo (ownP floor now) own i = true) (fun i => own.length - i) 0 ⟨Nat.zero_le _, rfl⟩ (Weak.gc ⟨rfl, rfl, rfl, rfl, trivial⟩ trivial rfl rfl rfl) (fun i hi => ?_)
    obtain ⟨hi, hp⟩ := hi
    have hb := (own_att hp hi).1
    by_cases hlt : i < own.length
    · have jsp := split_spec own[i].id
      have hpi : ((i : Int) - 1).toNat < own.length := by omega
      have hv : (0 < i → lastI Att.t floor (own.take i) = (own[((i : Int) - 1).toNat]'hpi).t) ∧ (i = 0 → lastI Att.t floor (own.take i) = floor) := by
        refine ⟨fun h0 => ?_, fun h0 => by subst h0; rfl⟩
        rw [lastI_pos Att.t floor hi h0]
        congr 2
        omega
      cases hid : idB own[i].id with
      | false =>
        have h2 := self_none hid
        rw [clk_no2 hlt (ownP_f fun h => by rw [hid] at h; exact absurd h.1.2.2.2 (by simp))]
        repeat' ((conv => whnf); first | refine Q.E ?_ | (refine Stk.both (fun hb => ?_) (fun hb => ?_) <;> (try simp only [lE] at hb))); all_goals (conv => whnf)
        all_goals (refine Q.r6 (h := ?_); repeat' (first | exact Q.r0 | refine Q.r1 ?_ ?_ | refine Q.r2 ?_ | exact Q.r7 | refine Q.r3 ?_ | refine Q.r4 ?_ | refine Q.r5 ?_))
      | true =>
        have h2 := self_pos hid
        by_cases hq : floor < own[i].t ∧ lastI Att.t floor (own.take i) < own[i].t ∧ own[i].t ≤ now
        · have hf1 : ∀ k (hk : k < i), own[k].id = own[i].id → clkB now floor own = false := fun k hk he => clk_no2 hlt (ownP_f fun h => by
            have := List.any_eq_false.1 h.2 own[k] (List.mem_take_iff_getElem.2 ⟨k, by omega, rfl⟩)
            exact this (decide_eq_true he))
          have hf2 : (∀ x ∈ own.take i, sameId own[i].id x = false) → prefTo (ownP floor now) own (i + 1) = true := fun h => prefTo_next hlt hp (ownP_iff.2 ⟨⟨hq.1, hq.2.1, hq.2.2, hid⟩, List.any_eq_false.2 fun x hx => by rw [h x hx]; simp⟩)
          have hinner : ∀ K : Prop, K → K := fun _ h => h
          by_cases h00 : 0 < i
          · have h1 := hv.1 h00
            clear hv
            repeat' ((conv => whnf); first | refine Q.E ?_ | (refine Stk.both (fun hb => ?_) (fun hb => ?_) <;> (try simp only [lE] at hb))); all_goals (conv => whnf)
            refine Stk.loop (ι := Nat) (fun k => [(0, PV.int now), (1, PV.int floor), (2, PV.atts own), (7, PV.int (i : Nat)), (10, PV.int (k : Nat))]) (fun _ => []) (fun k => k ≤ i ∧ ∀ x ∈ own.take k, sameId own[i].id x = false) (fun k => i - k) 0 ⟨Nat.zero_le _, by simp⟩ (Weak.gc ⟨rfl, rfl, rfl, rfl, rfl, trivial⟩ trivial rfl rfl rfl) (fun k hk => ?_)
            obtain ⟨hk, hno⟩ := hk
            by_cases hki : k < i
            · by_cases he : own[k].id = own[i].id
              · rw [hf1 k hki he]
                repeat' ((conv => whnf); first | refine Q.E ?_ | (refine Stk.both (fun hb => ?_) (fun hb => ?_) <;> (try simp only [lE] at hb))); all_goals (conv => whnf)
                (refine Q.r6 (h := ?_); repeat' (first | exact Q.r0 | refine Q.r1 ?_ ?_ | refine Q.r2 ?_ | exact Q.r7 | refine Q.r3 ?_ | refine Q.r4 ?_ | refine Q.r5 ?_))
              · repeat' ((conv => whnf); first | refine Q.E ?_ | (refine Stk.both (fun hb => ?_) (fun hb => ?_) <;> (try simp only [lE] at hb))); all_goals (conv => whnf)
                exact ⟨k + 1, ⟨by omega, take_no (by omega) hno (decide_eq_false he)⟩, by omega, Weak.gc ⟨rfl, rfl, rfl, rfl, rfl, trivial⟩ trivial rfl rfl rfl⟩
            · obtain rfl : k = i := by omega
              repeat' ((conv => whnf); first | refine Q.E ?_ | (refine Stk.both (fun hb => ?_) (fun hb => ?_) <;> (try simp only [lE] at hb))); all_goals (conv => whnf)
              exact ⟨k + 1, ⟨by omega, hf2 hno⟩, by omega, Weak.gc ⟨rfl, rfl, rfl, rfl, trivial⟩ trivial rfl rfl rfl⟩
          · have h1 := hv.2 (by omega)
            clear hv
            obtain rfl : i = 0 := by omega
            repeat' ((conv => whnf); first | refine Q.E ?_ | (refine Stk.both (fun hb => ?_) (fun hb => ?_) <;> (try simp only [lE] at hb))); all_goals (conv => whnf)
            refine Stk.loop (ι := Nat) (fun k => [(0, PV.int now), (1, PV.int floor), (2, PV.atts own), (7, PV.int (0 : Nat)), (10, PV.int (k : Nat))]) (fun _ => []) (fun k => k ≤ 0) (fun k => 0 - k) 0 (Nat.zero_le _) (Weak.gc ⟨rfl, rfl, rfl, rfl, rfl, trivial⟩ trivial rfl rfl rfl) (fun k hk => ?_)
            obtain rfl : k = 0 := by omega
            repeat' ((conv => whnf); first | refine Q.E ?_ | (refine Stk.both (fun hb => ?_) (fun hb => ?_) <;> (try simp only [lE] at hb))); all_goals (conv => whnf)
            exact ⟨0 + 1, ⟨by omega, hf2 (by simp)⟩, by omega, Weak.gc ⟨rfl, rfl, rfl, rfl, trivial⟩ trivial rfl rfl rfl⟩
        · rw [clk_no2 hlt (ownP_f fun h => hq ⟨h.1.1, h.1.2.1, h.1.2.2.1⟩)]
          by_cases h00 : 0 < i
          · have h1 := hv.1 h00
            clear hv
            repeat' ((conv => whnf); first | refine Q.E ?_ | (refine Stk.both (fun hb => ?_) (fun hb => ?_) <;> (try simp only [lE] at hb))); all_goals (conv => whnf)
            all_goals first | (exfalso; omega) | (refine Q.r6 (h := ?_); repeat' (first | exact Q.r0 | refine Q.r1 ?_ ?_ | refine Q.r2 ?_ | exact Q.r7 | refine Q.r3 ?_ | refine Q.r4 ?_ | refine Q.r5 ?_))
          · have h1 := hv.2 (by omega)
            clear hv
            repeat' ((conv => whnf); first | refine Q.E ?_ | (refine Stk.both (fun hb => ?_) (fun hb => ?_) <;> (try simp only [lE] at hb))); all_goals (conv => whnf)
            all_goals first | (exfalso; omega) | (refine Q.r6 (h := ?_); repeat' (first | exact Q.r0 | refine Q.r1 ?_ ?_ | refine Q.r2 ?_ | exact Q.r7 | refine Q.r3 ?_ | refine Q.r4 ?_ | refine Q.r5 ?_))
    · rw [clk_yes h0 hlt hi hp]
      repeat' ((conv => whnf); first | refine Q.E ?_ | (refine Stk.both (fun hb => ?_) (fun hb => ?_) <;> (try simp only [lE] at hb))); all_goals (conv => whnf)
      (refine Q.r6 (h := ?_); repeat' (first | exact Q.r0 | refine Q.r1 ?_ ?_ | refine Q.r2 ?_ | exact Q.r7 | refine Q.r3 ?_ | refine Q.r4 ?_ | refine Q.r5 ?_))
  · rw [clk_no1 h0]
    refine ⟨Spec.bound 2 rfl fun hl => ?_⟩; rw [List.length_map] at hl; refine Spec.ofR (h := fun F w0 => ?_)
    repeat' ((conv => whnf); first | refine Q.E ?_ | (refine Stk.both (fun hb => ?_) (fun hb => ?_) <;> (try simp only [lE] at hb))); all_goals (conv => whnf)
    all_goals first | (exfalso; omega) | (refine Q.r6 (h := ?_); repeat' (first | exact Q.r0 | refine Q.r1 ?_ ?_ | refine Q.r2 ?_ | exact Q.r7 | refine Q.r3 ?_ | refine Q.r4 ?_ | refine Q.r5 ?_))
instance bump_spec (now t : Int) : HasSpec Tryz.prog 55 [PV.int now, PV.int t] (PV.int (bumpI now t)) := by
  unfold bumpI
  by_cases h : t ≤ 1000000
  · rw [if_pos h]
    refine ⟨?_⟩; refine Spec.ofR (h := fun F w0 => ?_)
    repeat' ((conv => whnf); first | refine Q.E ?_ | (refine Stk.both (fun hb => ?_) (fun hb => ?_) <;> (try simp only [lE] at hb))); all_goals (conv => whnf)
    (refine Q.r6 (h := ?_); repeat' (first | exact Q.r0 | refine Q.r1 ?_ ?_ | refine Q.r2 ?_ | exact Q.r7 | refine Q.r3 ?_ | refine Q.r4 ?_ | refine Q.r5 ?_))
  · rw [if_neg h]
    refine ⟨?_⟩; refine Spec.ofR (h := fun F w0 => ?_)
    repeat' ((conv => whnf); first | refine Q.E ?_ | (refine Stk.both (fun hb => ?_) (fun hb => ?_) <;> (try simp only [lE] at hb))); all_goals (conv => whnf)
    (refine Q.r6 (h := ?_); repeat' (first | exact Q.r0 | refine Q.r1 ?_ ?_ | refine Q.r2 ?_ | exact Q.r7 | refine Q.r3 ?_ | refine Q.r4 ?_ | refine Q.r5 ?_))
instance refbump_spec (now t : Int) : HasSpec Tryz.prog 62 [PV.int now, PV.int t] (PV.int (bumpI now t)) := by
  unfold bumpI
  by_cases h : t ≤ 1000000
  · rw [if_pos h]
    by_cases h2 : now < t
    · rw [show max now t = t by omega]
      refine ⟨?_⟩; refine Spec.ofR (h := fun F w0 => ?_)
      repeat' ((conv => whnf); first | refine Q.E ?_ | (refine Stk.both (fun hb => ?_) (fun hb => ?_) <;> (try simp only [lE] at hb))); all_goals (conv => whnf)
      (refine Q.r6 (h := ?_); repeat' (first | exact Q.r0 | refine Q.r1 ?_ ?_ | refine Q.r2 ?_ | exact Q.r7 | refine Q.r3 ?_ | refine Q.r4 ?_ | refine Q.r5 ?_))
    · rw [show max now t = now by omega]
      refine ⟨?_⟩; refine Spec.ofR (h := fun F w0 => ?_)
      repeat' ((conv => whnf); first | refine Q.E ?_ | (refine Stk.both (fun hb => ?_) (fun hb => ?_) <;> (try simp only [lE] at hb))); all_goals (conv => whnf)
      (refine Q.r6 (h := ?_); repeat' (first | exact Q.r0 | refine Q.r1 ?_ ?_ | refine Q.r2 ?_ | exact Q.r7 | refine Q.r3 ?_ | refine Q.r4 ?_ | refine Q.r5 ?_))
  · rw [if_neg h]
    by_cases h2 : now < t
    · refine ⟨?_⟩; refine Spec.ofR (h := fun F w0 => ?_)
      repeat' ((conv => whnf); first | refine Q.E ?_ | (refine Stk.both (fun hb => ?_) (fun hb => ?_) <;> (try simp only [lE] at hb))); all_goals (conv => whnf)
      (refine Q.r6 (h := ?_); repeat' (first | exact Q.r0 | refine Q.r1 ?_ ?_ | refine Q.r2 ?_ | exact Q.r7 | refine Q.r3 ?_ | refine Q.r4 ?_ | refine Q.r5 ?_))
    · refine ⟨?_⟩; refine Spec.ofR (h := fun F w0 => ?_)
      repeat' ((conv => whnf); first | refine Q.E ?_ | (refine Stk.both (fun hb => ?_) (fun hb => ?_) <;> (try simp only [lE] at hb))); all_goals (conv => whnf)
      (refine Q.r6 (h := ?_); repeat' (first | exact Q.r0 | refine Q.r1 ?_ ?_ | refine Q.r2 ?_ | exact Q.r7 | refine Q.r3 ?_ | refine Q.r4 ?_ | refine Q.r5 ?_))
end Go.Proofs.YtbjepdfnmbdplaaGreat
end
section
namespace Go.Proofs.YtbjepdfnmbdplaaGreat
open Go.RowKit
set_option linter.unusedSimpArgs false
set_option linter.unusedVariables false
set_option maxRecDepth 100000
set_option maxHeartbeats 1000000
instance swithin_spec (n top : Int) : HasSpec Tryz.prog 165 [PV.int n, PV.int top] (.v (.bool (within n top))) := by
  refine ⟨?_⟩; refine Spec.ofR (h := fun F w0 => ?_)
  repeat' ((conv => whnf); first | refine Q.N ?_ | (refine Stk.both (fun hb => ?_) (fun hb => ?_) <;> (try simp only [lE] at hb) <;> (try (exfalso; omega)))); all_goals (conv => whnf)
  all_goals ((refine Q.r6 (h := ?_); repeat' (first | exact Q.r0 | refine Q.r1 ?_ ?_ | refine Q.r2 ?_ | exact Q.r7 | refine Q.r3 ?_ | refine Q.r4 ?_ | refine Q.r5 ?_)))
  all_goals ((first | rfl | (rw [Bool.eq_iff_iff]; simp only [tst_true, tst_false, within, decide_eq_true_eq, decide_eq_false_iff_not, Bool.and_eq_true, Bool.or_eq_true, Bool.not_eq_true', Bool.not_eq_false', Bool.false_eq_true, Bool.true_eq_false, true_iff, iff_true, false_iff, iff_false, true_and, and_true, false_and, and_false, not_false_eq_true, not_true_eq_false]; try omega)))
theorem clkok {n f : Int} {own : List Att} (h : clkB n f own = true) : HasSpec Tryz.prog 166 [PV.int n, PV.int f, PV.atts own] (PV.int 0) := by have := clkcheck_spec n f own; rw [h] at this; exact this
theorem clkbad {n f : Int} {own : List Att} (h : clkB n f own = false) : HasSpec Tryz.prog 166 [PV.int n, PV.int f, PV.atts own] (PV.int 2) := by have := clkcheck_spec n f own; rw [h] at this; exact this
abbrev numsP (r : Rpl) : Prop := 3 ≤ r.n ∧ r.n ≤ 9 ∧ 1 ≤ r.f ∧ 2 * r.f ≤ r.n - 1 ∧ 1 ≤ r.self ∧ r.self ≤ r.n ∧ 0 ≤ r.seq ∧ r.seq ≤ 99999 ∧ 0 ≤ r.ticks ∧ r.ticks ≤ 1000000 ∧ 0 ≤ r.count ∧ r.count ≤ 1000000
theorem nums_no {r : Rpl} (h : ¬ numsP r) : numsB r = false := by unfold numsB; rw [decide_eq_false h]; rfl
theorem nums_yes {r : Rpl} (h : numsP r) : numsB r = clkB r.clock r.floor r.own := by unfold numsB; rw [decide_eq_true h]; rfl
theorem sizeok {n f : Int} (h : sizeB n f = true) : HasSpec Tryz.prog 164 [PV.int n, PV.int f] (PV.int 0) := by have := sizecheck_spec n f; rw [h] at this; exact this
theorem sizebad {n f : Int} (h : sizeB n f = false) : HasSpec Tryz.prog 164 [PV.int n, PV.int f] (PV.int 2) := by have := sizecheck_spec n f; rw [h] at this; exact this
theorem sizeB_p {n f : Int} : sizeB n f = true ↔ (3 ≤ n ∧ n ≤ 9 ∧ 1 ≤ f ∧ 2 * f ≤ n - 1) := by simp only [lC]; try omega
instance counts_spec (r : Rpl) : HasSpec Tryz.prog 86 [.agg r.cs] (.v (.bool (numsB r))) := by
  by_cases h : numsP r
  · rw [nums_yes h]
    have js := sizeok (sizeB_p.2 ⟨h.1, h.2.1, h.2.2.1, h.2.2.2.1⟩)
    unfold numsP at h
    cases hk : clkB r.clock r.floor r.own with
    | true =>
      have jc := clkok hk
      refine ⟨?_⟩; refine Spec.ofR (h := fun F w0 => ?_)
      repeat' ((conv => whnf); first | refine Q.E ?_ | (refine Stk.both (fun hb => ?_) (fun hb => ?_) <;> (try simp only [lE] at hb))); all_goals (conv => whnf)
      (refine Q.r6 (h := ?_); repeat' (first | exact Q.r0 | refine Q.r1 ?_ ?_ | refine Q.r2 ?_ | exact Q.r7 | refine Q.r3 ?_ | refine Q.r4 ?_ | refine Q.r5 ?_))
      all_goals (exact tst_true.2 rfl)
    | false =>
      have jc := clkbad hk
      refine ⟨?_⟩; refine Spec.ofR (h := fun F w0 => ?_)
      repeat' ((conv => whnf); first | refine Q.E ?_ | (refine Stk.both (fun hb => ?_) (fun hb => ?_) <;> (try simp only [lE] at hb))); all_goals (conv => whnf)
      (refine Q.r6 (h := ?_); repeat' (first | exact Q.r0 | refine Q.r1 ?_ ?_ | refine Q.r2 ?_ | exact Q.r7 | refine Q.r3 ?_ | refine Q.r4 ?_ | refine Q.r5 ?_))
      all_goals (exact tst_false.2 (by decide))
  · rw [nums_no h]
    unfold numsP at h
    cases hs : sizeB r.n r.f with
    | false =>
      have js := sizebad hs
      refine ⟨?_⟩; refine Spec.ofR (h := fun F w0 => ?_)
      repeat' ((conv => whnf); first | refine Q.E ?_ | (refine Stk.both (fun hb => ?_) (fun hb => ?_) <;> (try simp only [lE] at hb))); all_goals (conv => whnf)
      all_goals (refine Q.r6 (h := ?_); repeat' (first | exact Q.r0 | refine Q.r1 ?_ ?_ | refine Q.r2 ?_ | exact Q.r7 | refine Q.r3 ?_ | refine Q.r4 ?_ | refine Q.r5 ?_))
    | true =>
      have js := sizeok hs
      have hs2 := sizeB_p.1 hs
      refine ⟨?_⟩; refine Spec.ofR (h := fun F w0 => ?_)
      repeat' ((conv => whnf); first | refine Q.E ?_ | (refine Stk.both (fun hb => ?_) (fun hb => ?_) <;> (try simp only [lE] at hb))); all_goals (conv => whnf)
      all_goals first | (exfalso; omega) | (refine Q.r6 (h := ?_); repeat' (first | exact Q.r0 | refine Q.r1 ?_ ?_ | refine Q.r2 ?_ | exact Q.r7 | refine Q.r3 ?_ | refine Q.r4 ?_ | refine Q.r5 ?_))
theorem tabok {l : List Ent} (h : entsB l = true) : HasSpec Tryz.prog 168 [PV.ents l] (PV.int 0) := by have := tablecheck_spec l; rw [h] at this; exact this
theorem tabbad {l : List Ent} (h : entsB l = false) : HasSpec Tryz.prog 168 [PV.ents l] (PV.int 2) := by have := tablecheck_spec l; rw [h] at this; exact this
instance commands_spec (r : Rpl) : HasSpec Tryz.prog 87 [.agg r.cs] (.v (.bool (cmdB r))) := by
  cases he : entsB r.entries with
  | false =>
    have jt := tabbad he
    rw [show cmdB r = false by unfold cmdB; rw [he]; rfl]
    refine ⟨?_⟩; refine Spec.ofR (h := fun F w0 => ?_)
    repeat' ((conv => whnf); first | refine Q.E ?_ | (refine Stk.both (fun hb => ?_) (fun hb => ?_) <;> (try simp only [lE] at hb))); all_goals (conv => whnf)
    (refine Q.r6 (h := ?_); repeat' (first | exact Q.r0 | refine Q.r1 ?_ ?_ | refine Q.r2 ?_ | exact Q.r7 | refine Q.r3 ?_ | refine Q.r4 ?_ | refine Q.r5 ?_))
  | true =>
    have jt := tabok he
    have hl := (entsB_iff.1 he).1
    rw [show cmdB r = !r.entries.any (farB r.n) by unfold cmdB; rw [he]; rfl]
    refine ⟨?_⟩; refine Spec.ofR (h := fun F w0 => ?_)
    repeat' ((conv => whnf); first | refine Q.a ?_ | refine Q.b ?_ | refine Q.c ?_ | refine Stk.is (by first | assumption | ((try simp only [lE]); first | done | assumption | omega)) ?_ | refine Stk.isnt (by first | assumption | ((try simp only [lE]); first | done | assumption | omega)) ?_ | (refine Stk.both (fun hb => ?_) (fun hb => ?_) <;> (try simp only [lE] at hb)) | refine Q.d ?_ | refine Q.e ?_ | refine Q.f ?_ | refine Q.g ?_ | refine Q.h ?_ | refine Q.i ?_ | refine Q.j ?_ | refine Q.k ?_ | refine Q.l ?_ | refine Q.m ?_ | refine Q.n ?_ | refine Q.o (h := ?_) | refine Q.p (h := ?_) | refine Q.q ?_ | refine Q.r ?_ | refine Q.s ?_ | refine Q.t ?_ | refine Q.u ?_ | refine Q.v ?_ | refine Q.w ?_ | refine Q.x ?_ | refine Q.y ?_ | refine Q.z ?_ | refine Stk.inl (h := fun tm => ?_) | refine Stk.inl0 (h := fun tm => ?_) | refine DefG.go (h := fun vs us => ?_) | intro (tm : Array Value) | refine Stk.op (ok_buildA rfl rfl rfl rfl) ?_ | refine Stk.scope ?_); all_goals (conv => whnf)
    refine Stk.loop (ι := Nat) (fun i => [(0, PV.ents r.entries), (1, .fn (.func 167) [] [.lp 1 0]), (7, PV.int (r.entries.length : Nat)), (8, PV.int (i : Nat))]) (fun i => [(1, .box r.cs)]) (fun i => i ≤ r.entries.length ∧ ∀ x ∈ r.entries.take i, farB r.n x = false) (fun i => r.entries.length - i) 0 ⟨Nat.zero_le _, by simp⟩ (Weak.gc ⟨rfl, rfl, rfl, rfl, trivial⟩ ⟨rfl, trivial⟩ rfl rfl rfl) (fun i hi => ?_)
    obtain ⟨hi, hno⟩ := hi
    by_cases hlt : i < r.entries.length
    · by_cases hq : r.n < selfI r.entries[i].id
      · rw [any_at hlt (decide_eq_true hq)]
        repeat' ((conv => whnf); first | refine Q.a ?_ | refine Q.b ?_ | refine Q.c ?_ | refine Stk.is (by first | assumption | ((try simp only [lE]); first | done | assumption | omega)) ?_ | refine Stk.isnt (by first | assumption | ((try simp only [lE]); first | done | assumption | omega)) ?_ | (refine Stk.both (fun hb => ?_) (fun hb => ?_) <;> (try simp only [lE] at hb)) | refine Q.d ?_ | refine Q.e ?_ | refine Q.f ?_ | refine Q.g ?_ | refine Q.h ?_ | refine Q.i ?_ | refine Q.j ?_ | refine Q.k ?_ | refine Q.l ?_ | refine Q.m ?_ | refine Q.n ?_ | refine Q.o (h := ?_) | refine Q.p (h := ?_) | refine Q.q ?_ | refine Q.r ?_ | refine Q.s ?_ | refine Q.t ?_ | refine Q.u ?_ | refine Q.v ?_ | refine Q.w ?_ | refine Q.x ?_ | refine Q.y ?_ | refine Q.z ?_ | refine Stk.inl (h := fun tm => ?_) | refine Stk.inl0 (h := fun tm => ?_) | refine DefG.go (h := fun vs us => ?_) | intro (tm : Array Value) | refine Stk.op (ok_buildA rfl rfl rfl rfl) ?_ | refine Stk.scope ?_); all_goals (conv => whnf)
        (refine Q.r6 (h := ?_); repeat' (first | exact Q.r0 | refine Q.r1 ?_ ?_ | refine Q.r2 ?_ | exact Q.r7 | refine Q.r3 ?_ | refine Q.r4 ?_ | refine Q.r5 ?_))
        all_goals first | rfl | rw [tst_true.2 (by omega)]
      · repeat' ((conv => whnf); first | refine Q.a ?_ | refine Q.b ?_ | refine Q.c ?_ | refine Stk.is (by first | assumption | ((try simp only [lE]); first | done | assumption | omega)) ?_ | refine Stk.isnt (by first | assumption | ((try simp only [lE]); first | done | assumption | omega)) ?_ | (refine Stk.both (fun hb => ?_) (fun hb => ?_) <;> (try simp only [lE] at hb)) | refine Q.d ?_ | refine Q.e ?_ | refine Q.f ?_ | refine Q.g ?_ | refine Q.h ?_ | refine Q.i ?_ | refine Q.j ?_ | refine Q.k ?_ | refine Q.l ?_ | refine Q.m ?_ | refine Q.n ?_ | refine Q.o (h := ?_) | refine Q.p (h := ?_) | refine Q.q ?_ | refine Q.r ?_ | refine Q.s ?_ | refine Q.t ?_ | refine Q.u ?_ | refine Q.v ?_ | refine Q.w ?_ | refine Q.x ?_ | refine Q.y ?_ | refine Q.z ?_ | refine Stk.inl (h := fun tm => ?_) | refine Stk.inl0 (h := fun tm => ?_) | refine DefG.go (h := fun vs us => ?_) | intro (tm : Array Value) | refine Stk.op (ok_buildA rfl rfl rfl rfl) ?_ | refine Stk.scope ?_); all_goals (conv => whnf)
        exact ⟨i + 1, ⟨by omega, take_no hlt hno (decide_eq_false hq)⟩, by omega, Weak.gc ⟨rfl, rfl, rfl, rfl, trivial⟩ ⟨rfl, trivial⟩ rfl rfl rfl⟩
    · rw [any_none hlt hno]
      repeat' ((conv => whnf); first | refine Q.a ?_ | refine Q.b ?_ | refine Q.c ?_ | refine Stk.is (by first | assumption | ((try simp only [lE]); first | done | assumption | omega)) ?_ | refine Stk.isnt (by first | assumption | ((try simp only [lE]); first | done | assumption | omega)) ?_ | (refine Stk.both (fun hb => ?_) (fun hb => ?_) <;> (try simp only [lE] at hb)) | refine Q.d ?_ | refine Q.e ?_ | refine Q.f ?_ | refine Q.g ?_ | refine Q.h ?_ | refine Q.i ?_ | refine Q.j ?_ | refine Q.k ?_ | refine Q.l ?_ | refine Q.m ?_ | refine Q.n ?_ | refine Q.o (h := ?_) | refine Q.p (h := ?_) | refine Q.q ?_ | refine Q.r ?_ | refine Q.s ?_ | refine Q.t ?_ | refine Q.u ?_ | refine Q.v ?_ | refine Q.w ?_ | refine Q.x ?_ | refine Q.y ?_ | refine Q.z ?_ | refine Stk.inl (h := fun tm => ?_) | refine Stk.inl0 (h := fun tm => ?_) | refine DefG.go (h := fun vs us => ?_) | intro (tm : Array Value) | refine Stk.op (ok_buildA rfl rfl rfl rfl) ?_ | refine Stk.scope ?_); all_goals (conv => whnf)
      (refine Q.r6 (h := ?_); repeat' (first | exact Q.r0 | refine Q.r1 ?_ ?_ | refine Q.r2 ?_ | exact Q.r7 | refine Q.r3 ?_ | refine Q.r4 ?_ | refine Q.r5 ?_))
      all_goals first | rfl | rw [tst_false.2 (by omega)]
end Go.Proofs.YtbjepdfnmbdplaaGreat
end
section
namespace Go.Proofs.YtbjepdfnmbdplaaGreat
open Go.RowKit
set_option linter.unusedSimpArgs false
set_option linter.unusedVariables false
set_option maxRecDepth 100000
set_option maxHeartbeats 1000000
theorem kck_yes {k : Kno} (h : knoB k = true) : HasSpec Tryz.prog 171 [.agg k.cs] (PV.int 0) := by have := knocheck_spec k; rw [h] at this; exact this
theorem kck_no {k : Kno} (h : knoB k = false) : HasSpec Tryz.prog 171 [.agg k.cs] (PV.int 2) := by have := knocheck_spec k; rw [h] at this; exact this
theorem swok {m : List (List Int)} {n : Int} (h : tableB m n = true) : HasSpec Tryz.prog 173 [PV.tab m, PV.int n] (PV.int 0) := by have := tabcheck_spec m n; rw [h] at this; exact this
theorem swbad {m : List (List Int)} {n : Int} (h : tableB m n = false) : HasSpec Tryz.prog 173 [PV.tab m, PV.int n] (PV.int 2) := by have := tabcheck_spec m n; rw [h] at this; exact this
theorem stok {m : List Int} {n : Int} (h : marksB m n = true) : HasSpec Tryz.prog 174 [PV.ints m, PV.int n] (PV.int 0) := by have := stablecheck_spec m n; rw [h] at this; exact this
theorem stbad {m : List Int} {n : Int} (h : marksB m n = false) : HasSpec Tryz.prog 174 [PV.ints m, PV.int n] (PV.int 2) := by have := stablecheck_spec m n; rw [h] at this; exact this
instance hears1_spec (k : Kno) : HasSpec Tryz.prog 170 [.agg k.cs] (.v (.bool (!knoB k))) := by
  cases h : knoB k with
  | true =>
    have j := kck_yes h
    refine ⟨?_⟩; refine Spec.ofR (h := fun F w0 => ?_)
    repeat' ((conv => whnf); first | refine Q.E ?_ | (refine Stk.both (fun hb => ?_) (fun hb => ?_) <;> (try simp only [lE] at hb))); all_goals (conv => whnf)
    (refine Q.r6 (h := ?_); repeat' (first | exact Q.r0 | refine Q.r1 ?_ ?_ | refine Q.r2 ?_ | exact Q.r7 | refine Q.r3 ?_ | refine Q.r4 ?_ | refine Q.r5 ?_))
    all_goals (first | rfl | exact tst_true.2 (by omega) | exact tst_false.2 (by omega) | (simp [tst_eq]; done) | (simp only [Bool.not_true, Bool.not_false, Bool.and_true, Bool.true_and, Bool.and_false, Bool.false_and]; first | done | exact tst_true.2 (by omega) | exact tst_false.2 (by omega) | (rw [tst_true.2 (by omega)]; done) | (rw [tst_false.2 (by omega)]; done)))
  | false =>
    have j := kck_no h
    refine ⟨?_⟩; refine Spec.ofR (h := fun F w0 => ?_)
    repeat' ((conv => whnf); first | refine Q.E ?_ | (refine Stk.both (fun hb => ?_) (fun hb => ?_) <;> (try simp only [lE] at hb))); all_goals (conv => whnf)
    (refine Q.r6 (h := ?_); repeat' (first | exact Q.r0 | refine Q.r1 ?_ ?_ | refine Q.r2 ?_ | exact Q.r7 | refine Q.r3 ?_ | refine Q.r4 ?_ | refine Q.r5 ?_))
    all_goals (first | rfl | exact tst_true.2 (by omega) | exact tst_false.2 (by omega) | (simp [tst_eq]; done) | (simp only [Bool.not_true, Bool.not_false, Bool.and_true, Bool.true_and, Bool.and_false, Bool.false_and]; first | done | exact tst_true.2 (by omega) | exact tst_false.2 (by omega) | (rw [tst_true.2 (by omega)]; done) | (rw [tst_false.2 (by omega)]; done)))
theorem anyk_spec (l : List Kno) (hl : l.length ≤ 1000) : HasSpec Tryz.prog 172 [PV.knos l, .fn (.func 170) [] []] (.v (.bool (l.any fun k => !knoB k))) := by
  refine ⟨?_⟩; refine Spec.ofR (h := fun F w0 => ?_)
  repeat' ((conv => whnf); first | refine Q.a ?_ | refine Q.b ?_ | refine Q.c ?_ | refine Stk.is (by first | assumption | ((try simp only [lE]); first | done | assumption | omega)) ?_ | refine Stk.isnt (by first | assumption | ((try simp only [lE]); first | done | assumption | omega)) ?_ | (refine Stk.both (fun hb => ?_) (fun hb => ?_) <;> (try simp only [lE] at hb)) | refine Q.d ?_ | refine Q.e ?_ | refine Q.f ?_ | refine Q.g ?_ | refine Q.h ?_ | refine Q.i ?_ | refine Q.j ?_ | refine Q.k ?_ | refine Q.l ?_ | refine Q.m ?_ | refine Q.n ?_ | refine Q.o (h := ?_) | refine Q.p (h := ?_) | refine Q.q ?_ | refine Q.r ?_ | refine Q.s ?_ | refine Q.t ?_ | refine Q.u ?_ | refine Q.v ?_ | refine Q.w ?_ | refine Q.x ?_ | refine Q.y ?_ | refine Q.z ?_ | refine Stk.inl (h := fun tm => ?_) | refine Stk.inl0 (h := fun tm => ?_) | refine DefG.go (h := fun vs us => ?_) | intro (tm : Array Value) | refine Stk.op (ok_buildA rfl rfl rfl rfl) ?_ | refine Stk.scope ?_); all_goals (conv => whnf)
  refine Stk.loop (ι := Nat) (fun i => [(0, PV.knos l), (1, .fn (.func 170) [] []), (7, PV.int (l.length : Nat)), (8, PV.int (i : Nat))]) (fun i => []) (fun i => i ≤ l.length ∧ ∀ x ∈ l.take i, (!knoB x) = false) (fun i => l.length - i) 0 ⟨Nat.zero_le _, by simp⟩ (Weak.gc ⟨rfl, rfl, rfl, rfl, trivial⟩ trivial rfl rfl rfl) (fun i hi => ?_)
  obtain ⟨hi, hno⟩ := hi
  by_cases hlt : i < l.length
  · have j1 := hears1_spec l[i]
    cases hq : knoB l[i] with
    | false =>
      rw [hq] at j1
      rw [any_at (p := fun k => !knoB k) hlt (by show (!knoB l[i]) = true; rw [hq]; rfl)]
      repeat' ((conv => whnf); first | refine Q.E ?_ | (refine Stk.both (fun hb => ?_) (fun hb => ?_) <;> (try simp only [lE] at hb))); all_goals (conv => whnf)
      (refine Q.r6 (h := ?_); repeat' (first | exact Q.r0 | refine Q.r1 ?_ ?_ | refine Q.r2 ?_ | exact Q.r7 | refine Q.r3 ?_ | refine Q.r4 ?_ | refine Q.r5 ?_))
      all_goals (first | rfl | exact tst_true.2 (by omega) | exact tst_false.2 (by omega) | (simp [tst_eq]; done) | (simp only [Bool.not_true, Bool.not_false, Bool.and_true, Bool.true_and, Bool.and_false, Bool.false_and]; first | done | exact tst_true.2 (by omega) | exact tst_false.2 (by omega) | (rw [tst_true.2 (by omega)]; done) | (rw [tst_false.2 (by omega)]; done)))
    | true =>
      rw [hq] at j1
      repeat' ((conv => whnf); first | refine Q.E ?_ | (refine Stk.both (fun hb => ?_) (fun hb => ?_) <;> (try simp only [lE] at hb))); all_goals (conv => whnf)
      exact ⟨i + 1, ⟨by omega, take_no (p := fun k => !knoB k) hlt hno (by show (!knoB l[i]) = false; rw [hq]; rfl)⟩, by omega, Weak.gc ⟨rfl, rfl, rfl, rfl, trivial⟩ trivial rfl rfl rfl⟩
  · rw [any_none (p := fun k => !knoB k) hlt hno]
    repeat' ((conv => whnf); first | refine Q.E ?_ | (refine Stk.both (fun hb => ?_) (fun hb => ?_) <;> (try simp only [lE] at hb))); all_goals (conv => whnf)
    (refine Q.r6 (h := ?_); repeat' (first | exact Q.r0 | refine Q.r1 ?_ ?_ | refine Q.r2 ?_ | exact Q.r7 | refine Q.r3 ?_ | refine Q.r4 ?_ | refine Q.r5 ?_))
    all_goals (first | rfl | exact tst_true.2 (by omega) | exact tst_false.2 (by omega) | (simp [tst_eq]; done) | (simp only [Bool.not_true, Bool.not_false, Bool.and_true, Bool.true_and, Bool.and_false, Bool.false_and]; first | done | exact tst_true.2 (by omega) | exact tst_false.2 (by omega) | (rw [tst_true.2 (by omega)]; done) | (rw [tst_false.2 (by omega)]; done)))
theorem hears_spec (r : Rpl) (h9 : r.n ≤ 9) : HasSpec Tryz.prog 88 [.agg r.cs] (.v (.bool (hrsB r))) := by
  by_cases hn : (r.known.length : Int) = r.n
  · cases ht : tableB r.marks r.n with
    | false =>
      have jt := swbad ht
      rw [show hrsB r = false by unfold hrsB; rw [ht]; simp]
      have jk := anyk_spec r.known (by omega)
      cases ha : r.known.any (fun k => !knoB k) with
      | true =>
        rw [ha] at jk
        refine ⟨?_⟩; refine Spec.ofR (h := fun F w0 => ?_)
        repeat' ((conv => whnf); first | refine Q.E ?_ | (refine Stk.both (fun hb => ?_) (fun hb => ?_) <;> (try simp only [lE] at hb))); all_goals (conv => whnf)
        (refine Q.r6 (h := ?_); repeat' (first | exact Q.r0 | refine Q.r1 ?_ ?_ | refine Q.r2 ?_ | exact Q.r7 | refine Q.r3 ?_ | refine Q.r4 ?_ | refine Q.r5 ?_))
      | false =>
        rw [ha] at jk
        refine ⟨?_⟩; refine Spec.ofR (h := fun F w0 => ?_)
        repeat' ((conv => whnf); first | refine Q.E ?_ | (refine Stk.both (fun hb => ?_) (fun hb => ?_) <;> (try simp only [lE] at hb))); all_goals (conv => whnf)
        (refine Q.r6 (h := ?_); repeat' (first | exact Q.r0 | refine Q.r1 ?_ ?_ | refine Q.r2 ?_ | exact Q.r7 | refine Q.r3 ?_ | refine Q.r4 ?_ | refine Q.r5 ?_))
        all_goals (first | rfl | exact tst_true.2 (by omega) | exact tst_false.2 (by omega) | (simp [tst_eq]; done) | (simp only [Bool.not_true, Bool.not_false, Bool.and_true, Bool.true_and, Bool.and_false, Bool.false_and]; first | done | exact tst_true.2 (by omega) | exact tst_false.2 (by omega) | (rw [tst_true.2 (by omega)]; done) | (rw [tst_false.2 (by omega)]; done)))
    | true =>
      have jt := swok ht
      have h39 : 3 ≤ r.n ∧ r.n ≤ 9 := by
        have h := ht
        unfold tableB at h
        rw [Bool.and_eq_true] at h
        simpa [manyB] using h.1
      have jk := anyk_spec r.known (by omega)
      cases ha : r.known.any (fun k => !knoB k) with
      | true =>
        rw [ha] at jk
        rw [show hrsB r = false by unfold hrsB; rw [ha]; simp]
        refine ⟨?_⟩; refine Spec.ofR (h := fun F w0 => ?_)
        repeat' ((conv => whnf); first | refine Q.E ?_ | (refine Stk.both (fun hb => ?_) (fun hb => ?_) <;> (try simp only [lE] at hb))); all_goals (conv => whnf)
        (refine Q.r6 (h := ?_); repeat' (first | exact Q.r0 | refine Q.r1 ?_ ?_ | refine Q.r2 ?_ | exact Q.r7 | refine Q.r3 ?_ | refine Q.r4 ?_ | refine Q.r5 ?_))
      | false =>
        rw [ha] at jk
        rw [show hrsB r = marksB r.fronts r.n by unfold hrsB; rw [ha, ht, decide_eq_true hn]; rfl]
        cases hm : marksB r.fronts r.n with
        | true =>
          have jm := stok hm
          refine ⟨?_⟩; refine Spec.ofR (h := fun F w0 => ?_)
          repeat' ((conv => whnf); first | refine Q.E ?_ | (refine Stk.both (fun hb => ?_) (fun hb => ?_) <;> (try simp only [lE] at hb))); all_goals (conv => whnf)
          (refine Q.r6 (h := ?_); repeat' (first | exact Q.r0 | refine Q.r1 ?_ ?_ | refine Q.r2 ?_ | exact Q.r7 | refine Q.r3 ?_ | refine Q.r4 ?_ | refine Q.r5 ?_))
          all_goals (first | rfl | exact tst_true.2 (by omega) | exact tst_false.2 (by omega) | (simp [tst_eq]; done) | (simp only [Bool.not_true, Bool.not_false, Bool.and_true, Bool.true_and, Bool.and_false, Bool.false_and]; first | done | exact tst_true.2 (by omega) | exact tst_false.2 (by omega) | (rw [tst_true.2 (by omega)]; done) | (rw [tst_false.2 (by omega)]; done)))
        | false =>
          have jm := stbad hm
          refine ⟨?_⟩; refine Spec.ofR (h := fun F w0 => ?_)
          repeat' ((conv => whnf); first | refine Q.E ?_ | (refine Stk.both (fun hb => ?_) (fun hb => ?_) <;> (try simp only [lE] at hb))); all_goals (conv => whnf)
          (refine Q.r6 (h := ?_); repeat' (first | exact Q.r0 | refine Q.r1 ?_ ?_ | refine Q.r2 ?_ | exact Q.r7 | refine Q.r3 ?_ | refine Q.r4 ?_ | refine Q.r5 ?_))
          all_goals (first | rfl | exact tst_true.2 (by omega) | exact tst_false.2 (by omega) | (simp [tst_eq]; done) | (simp only [Bool.not_true, Bool.not_false, Bool.and_true, Bool.true_and, Bool.and_false, Bool.false_and]; first | done | exact tst_true.2 (by omega) | exact tst_false.2 (by omega) | (rw [tst_true.2 (by omega)]; done) | (rw [tst_false.2 (by omega)]; done)))
  · rw [show hrsB r = false by unfold hrsB; rw [decide_eq_false hn]; rfl]
    refine ⟨?_⟩; refine Spec.ofR (h := fun F w0 => ?_)
    repeat' ((conv => whnf); first | refine Q.E ?_ | (refine Stk.both (fun hb => ?_) (fun hb => ?_) <;> (try simp only [lE] at hb))); all_goals (conv => whnf)
    (refine Q.r6 (h := ?_); repeat' (first | exact Q.r0 | refine Q.r1 ?_ ?_ | refine Q.r2 ?_ | exact Q.r7 | refine Q.r3 ?_ | refine Q.r4 ?_ | refine Q.r5 ?_))
theorem lastHi_pos {l : List Rng} (h : 0 < l.length) {k : Nat} (hk : k < l.length) (e : k = l.length - 1) : lastHi l = l[k].hi := by
  subst e
  have := lastI_pos Rng.hi 0 (Nat.le_refl l.length) h
  rw [List.take_length] at this
  exact this
instance fin1_spec (l : List Rng) : HasSpec Tryz.prog 175 [PV.rngs l] (.v (.bool (!donB l))) := by
  cases hr : rngB l with
  | false =>
    have j := rck_no hr
    rw [show donB l = false by unfold donB; rw [hr]; rfl]
    refine ⟨?_⟩; refine Spec.ofR (h := fun F w0 => ?_)
    repeat' ((conv => whnf); first | refine Q.E ?_ | (refine Stk.both (fun hb => ?_) (fun hb => ?_) <;> (try simp only [lE] at hb))); all_goals (conv => whnf)
    (refine Q.r6 (h := ?_); repeat' (first | exact Q.r0 | refine Q.r1 ?_ ?_ | refine Q.r2 ?_ | exact Q.r7 | refine Q.r3 ?_ | refine Q.r4 ?_ | refine Q.r5 ?_))
    all_goals (first | rfl | exact tst_true.2 (by omega) | exact tst_false.2 (by omega) | (simp [tst_eq]; done) | (simp only [Bool.not_true, Bool.not_false, Bool.and_true, Bool.true_and, Bool.and_false, Bool.false_and]; first | done | exact tst_true.2 (by omega) | exact tst_false.2 (by omega) | (rw [tst_true.2 (by omega)]; done) | (rw [tst_false.2 (by omega)]; done)))
  | true =>
    have j := rck_yes hr
    rw [show donB l = decide (lastHi l ≤ 99999) by unfold donB; rw [hr]; rfl]
    by_cases h0 : 0 < l.length
    · have hk : ((l.length : Int) - 1).toNat < l.length := by omega
      have hl := lastHi_pos h0 hk (by omega)
      rw [hl]
      by_cases h9 : (l[((l.length : Int) - 1).toNat]'hk).hi ≤ 99999
      · rw [decide_eq_true h9]
        refine ⟨Spec.bound 0 rfl fun hl => ?_⟩; rw [List.length_map] at hl; refine Spec.ofR (h := fun F w0 => ?_)
        repeat' ((conv => whnf); first | refine Q.E ?_ | (refine Stk.both (fun hb => ?_) (fun hb => ?_) <;> (try simp only [lE] at hb))); all_goals (conv => whnf)
        (refine Q.r6 (h := ?_); repeat' (first | exact Q.r0 | refine Q.r1 ?_ ?_ | refine Q.r2 ?_ | exact Q.r7 | refine Q.r3 ?_ | refine Q.r4 ?_ | refine Q.r5 ?_))
        all_goals (first | rfl | exact tst_true.2 (by omega) | exact tst_false.2 (by omega) | (simp [tst_eq]; done) | (simp only [Bool.not_true, Bool.not_false, Bool.and_true, Bool.true_and, Bool.and_false, Bool.false_and]; first | done | exact tst_true.2 (by omega) | exact tst_false.2 (by omega) | (rw [tst_true.2 (by omega)]; done) | (rw [tst_false.2 (by omega)]; done)))
      · rw [decide_eq_false h9]
        refine ⟨Spec.bound 0 rfl fun hl => ?_⟩; rw [List.length_map] at hl; refine Spec.ofR (h := fun F w0 => ?_)
        repeat' ((conv => whnf); first | refine Q.E ?_ | (refine Stk.both (fun hb => ?_) (fun hb => ?_) <;> (try simp only [lE] at hb))); all_goals (conv => whnf)
        (refine Q.r6 (h := ?_); repeat' (first | exact Q.r0 | refine Q.r1 ?_ ?_ | refine Q.r2 ?_ | exact Q.r7 | refine Q.r3 ?_ | refine Q.r4 ?_ | refine Q.r5 ?_))
        all_goals (first | rfl | exact tst_true.2 (by omega) | exact tst_false.2 (by omega) | (simp [tst_eq]; done) | (simp only [Bool.not_true, Bool.not_false, Bool.and_true, Bool.true_and, Bool.and_false, Bool.false_and]; first | done | exact tst_true.2 (by omega) | exact tst_false.2 (by omega) | (rw [tst_true.2 (by omega)]; done) | (rw [tst_false.2 (by omega)]; done)))
    · have : l = [] := List.eq_nil_of_length_eq_zero (by omega)
      subst this
      rw [show decide (lastHi [] ≤ 99999) = true from rfl]
      have h00 : (([] : List Rng).length : Int) = 0 := rfl
      refine ⟨?_⟩; refine Spec.ofR (h := fun F w0 => ?_)
      repeat' ((conv => whnf); first | refine Q.E ?_ | (refine Stk.both (fun hb => ?_) (fun hb => ?_) <;> (try simp only [lE] at hb))); all_goals (conv => whnf)
      (refine Q.r6 (h := ?_); repeat' (first | exact Q.r0 | refine Q.r1 ?_ ?_ | refine Q.r2 ?_ | exact Q.r7 | refine Q.r3 ?_ | refine Q.r4 ?_ | refine Q.r5 ?_))
      all_goals (first | rfl | exact tst_true.2 (by omega) | exact tst_false.2 (by omega) | (simp [tst_eq]; done) | (simp only [Bool.not_true, Bool.not_false, Bool.and_true, Bool.true_and, Bool.and_false, Bool.false_and]; first | done | exact tst_true.2 (by omega) | exact tst_false.2 (by omega) | (rw [tst_true.2 (by omega)]; done) | (rw [tst_false.2 (by omega)]; done)))
theorem anyd_spec (l : List (List Rng)) (hl : l.length ≤ 1000) : HasSpec Tryz.prog 177 [PV.dons l, .fn (.func 175) [] []] (.v (.bool (l.any fun k => !donB k))) := by
  refine ⟨?_⟩; refine Spec.ofR (h := fun F w0 => ?_)
  repeat' ((conv => whnf); first | refine Q.a ?_ | refine Q.b ?_ | refine Q.c ?_ | refine Stk.is (by first | assumption | ((try simp only [lE]); first | done | assumption | omega)) ?_ | refine Stk.isnt (by first | assumption | ((try simp only [lE]); first | done | assumption | omega)) ?_ | (refine Stk.both (fun hb => ?_) (fun hb => ?_) <;> (try simp only [lE] at hb)) | refine Q.d ?_ | refine Q.e ?_ | refine Q.f ?_ | refine Q.g ?_ | refine Q.h ?_ | refine Q.i ?_ | refine Q.j ?_ | refine Q.k ?_ | refine Q.l ?_ | refine Q.m ?_ | refine Q.n ?_ | refine Q.o (h := ?_) | refine Q.p (h := ?_) | refine Q.q ?_ | refine Q.r ?_ | refine Q.s ?_ | refine Q.t ?_ | refine Q.u ?_ | refine Q.v ?_ | refine Q.w ?_ | refine Q.x ?_ | refine Q.y ?_ | refine Q.z ?_ | refine Stk.inl (h := fun tm => ?_) | refine Stk.inl0 (h := fun tm => ?_) | refine DefG.go (h := fun vs us => ?_) | intro (tm : Array Value) | refine Stk.op (ok_buildA rfl rfl rfl rfl) ?_ | refine Stk.scope ?_); all_goals (conv => whnf)
  refine Stk.loop (ι := Nat) (fun i => [(0, PV.dons l), (1, .fn (.func 175) [] []), (7, PV.int (l.length : Nat)), (8, PV.int (i : Nat))]) (fun i => []) (fun i => i ≤ l.length ∧ ∀ x ∈ l.take i, (!donB x) = false) (fun i => l.length - i) 0 ⟨Nat.zero_le _, by simp⟩ (Weak.gc ⟨rfl, rfl, rfl, rfl, trivial⟩ trivial rfl rfl rfl) (fun i hi => ?_)
  obtain ⟨hi, hno⟩ := hi
  by_cases hlt : i < l.length
  · have j1 := fin1_spec l[i]
    cases hq : donB l[i] with
    | false =>
      rw [hq] at j1
      rw [any_at (p := fun k => !donB k) hlt (by show (!donB l[i]) = true; rw [hq]; rfl)]
      repeat' ((conv => whnf); first | refine Q.E ?_ | (refine Stk.both (fun hb => ?_) (fun hb => ?_) <;> (try simp only [lE] at hb))); all_goals (conv => whnf)
      (refine Q.r6 (h := ?_); repeat' (first | exact Q.r0 | refine Q.r1 ?_ ?_ | refine Q.r2 ?_ | exact Q.r7 | refine Q.r3 ?_ | refine Q.r4 ?_ | refine Q.r5 ?_))
      all_goals (first | rfl | exact tst_true.2 (by omega) | exact tst_false.2 (by omega) | (simp [tst_eq]; done) | (simp only [Bool.not_true, Bool.not_false, Bool.and_true, Bool.true_and, Bool.and_false, Bool.false_and]; first | done | exact tst_true.2 (by omega) | exact tst_false.2 (by omega) | (rw [tst_true.2 (by omega)]; done) | (rw [tst_false.2 (by omega)]; done)))
    | true =>
      rw [hq] at j1
      repeat' ((conv => whnf); first | refine Q.E ?_ | (refine Stk.both (fun hb => ?_) (fun hb => ?_) <;> (try simp only [lE] at hb))); all_goals (conv => whnf)
      exact ⟨i + 1, ⟨by omega, take_no (p := fun k => !donB k) hlt hno (by show (!donB l[i]) = false; rw [hq]; rfl)⟩, by omega, Weak.gc ⟨rfl, rfl, rfl, rfl, trivial⟩ trivial rfl rfl rfl⟩
  · rw [any_none (p := fun k => !donB k) hlt hno]
    repeat' ((conv => whnf); first | refine Q.E ?_ | (refine Stk.both (fun hb => ?_) (fun hb => ?_) <;> (try simp only [lE] at hb))); all_goals (conv => whnf)
    (refine Q.r6 (h := ?_); repeat' (first | exact Q.r0 | refine Q.r1 ?_ ?_ | refine Q.r2 ?_ | exact Q.r7 | refine Q.r3 ?_ | refine Q.r4 ?_ | refine Q.r5 ?_))
    all_goals (first | rfl | exact tst_true.2 (by omega) | exact tst_false.2 (by omega) | (simp [tst_eq]; done) | (simp only [Bool.not_true, Bool.not_false, Bool.and_true, Bool.true_and, Bool.and_false, Bool.false_and]; first | done | exact tst_true.2 (by omega) | exact tst_false.2 (by omega) | (rw [tst_true.2 (by omega)]; done) | (rw [tst_false.2 (by omega)]; done)))
theorem finished_spec (r : Rpl) (h9 : r.n ≤ 9) : HasSpec Tryz.prog 89 [.agg r.cs] (.v (.bool (finB r))) := by
  by_cases hn : (r.done.length : Int) = r.n
  · have jk := anyd_spec r.done (by omega)
    cases ha : r.done.any (fun k => !donB k) with
    | true =>
      rw [ha] at jk
      rw [show finB r = false by unfold finB; rw [ha]; simp]
      refine ⟨?_⟩; refine Spec.ofR (h := fun F w0 => ?_)
      repeat' ((conv => whnf); first | refine Q.E ?_ | (refine Stk.both (fun hb => ?_) (fun hb => ?_) <;> (try simp only [lE] at hb))); all_goals (conv => whnf)
      (refine Q.r6 (h := ?_); repeat' (first | exact Q.r0 | refine Q.r1 ?_ ?_ | refine Q.r2 ?_ | exact Q.r7 | refine Q.r3 ?_ | refine Q.r4 ?_ | refine Q.r5 ?_))
      all_goals (first | rfl | exact tst_true.2 (by omega) | exact tst_false.2 (by omega) | (simp [tst_eq]; done) | (simp only [Bool.not_true, Bool.not_false, Bool.and_true, Bool.true_and, Bool.and_false, Bool.false_and]; first | done | exact tst_true.2 (by omega) | exact tst_false.2 (by omega) | (rw [tst_true.2 (by omega)]; done) | (rw [tst_false.2 (by omega)]; done)))
    | false =>
      rw [ha] at jk
      rw [show finB r = attOk r.last by unfold finB; rw [ha, decide_eq_true hn]; rfl]
      by_cases hz : r.last.t = 0 ∧ r.last.id = 0
      · have hz1 : tst ([r.last.t, r.last.id] = [0, 0]) = true := tst_true.2 (by rw [hz.1, hz.2])
        rw [show attOk r.last = true by unfold attOk; rw [decide_eq_true hz]; rfl]
        refine ⟨?_⟩; refine Spec.ofR (h := fun F w0 => ?_)
        repeat' ((conv => whnf); first | refine Q.E ?_ | (refine Stk.both (fun hb => ?_) (fun hb => ?_) <;> (try simp only [lE] at hb))); all_goals (conv => whnf)
        (refine Q.r6 (h := ?_); repeat' (first | exact Q.r0 | refine Q.r1 ?_ ?_ | refine Q.r2 ?_ | exact Q.r7 | refine Q.r3 ?_ | refine Q.r4 ?_ | refine Q.r5 ?_))
        all_goals (first | rfl | exact tst_true.2 (by omega) | exact tst_false.2 (by omega) | (simp [tst_eq]; done) | (simp only [Bool.not_true, Bool.not_false, Bool.and_true, Bool.true_and, Bool.and_false, Bool.false_and]; first | done | exact tst_true.2 (by omega) | exact tst_false.2 (by omega) | (rw [tst_true.2 (by omega)]; done) | (rw [tst_false.2 (by omega)]; done)))
      · have hz1 : tst ([r.last.t, r.last.id] = [0, 0]) = false := tst_false.2 (by simpa using hz)
        rw [show attOk r.last = (idB r.last.id && decide (1 ≤ r.last.t ∧ r.last.t ≤ 1000000)) by unfold attOk; rw [decide_eq_false hz]; rfl]
        cases hid : idB r.last.id with
        | false =>
          have ji := idchk_no hid
          refine ⟨?_⟩; refine Spec.ofR (h := fun F w0 => ?_)
          repeat' ((conv => whnf); first | refine Q.E ?_ | (refine Stk.both (fun hb => ?_) (fun hb => ?_) <;> (try simp only [lE] at hb))); all_goals (conv => whnf)
          (refine Q.r6 (h := ?_); repeat' (first | exact Q.r0 | refine Q.r1 ?_ ?_ | refine Q.r2 ?_ | exact Q.r7 | refine Q.r3 ?_ | refine Q.r4 ?_ | refine Q.r5 ?_))
          all_goals (first | rfl | exact tst_true.2 (by omega) | exact tst_false.2 (by omega) | (simp [tst_eq]; done) | (simp only [Bool.not_true, Bool.not_false, Bool.and_true, Bool.true_and, Bool.and_false, Bool.false_and]; first | done | exact tst_true.2 (by omega) | exact tst_false.2 (by omega) | (rw [tst_true.2 (by omega)]; done) | (rw [tst_false.2 (by omega)]; done)))
        | true =>
          have ji := idchk_yes hid
          by_cases ht : 1 ≤ r.last.t ∧ r.last.t ≤ 1000000
          · rw [decide_eq_true ht]
            refine ⟨?_⟩; refine Spec.ofR (h := fun F w0 => ?_)
            repeat' ((conv => whnf); first | refine Q.E ?_ | (refine Stk.both (fun hb => ?_) (fun hb => ?_) <;> (try simp only [lE] at hb))); all_goals (conv => whnf)
            (refine Q.r6 (h := ?_); repeat' (first | exact Q.r0 | refine Q.r1 ?_ ?_ | refine Q.r2 ?_ | exact Q.r7 | refine Q.r3 ?_ | refine Q.r4 ?_ | refine Q.r5 ?_))
            all_goals (first | rfl | exact tst_true.2 (by omega) | exact tst_false.2 (by omega) | (simp [tst_eq]; done) | (simp only [Bool.not_true, Bool.not_false, Bool.and_true, Bool.true_and, Bool.and_false, Bool.false_and]; first | done | exact tst_true.2 (by omega) | exact tst_false.2 (by omega) | (rw [tst_true.2 (by omega)]; done) | (rw [tst_false.2 (by omega)]; done)))
          · rw [decide_eq_false ht]
            refine ⟨?_⟩; refine Spec.ofR (h := fun F w0 => ?_)
            repeat' ((conv => whnf); first | refine Q.E ?_ | (refine Stk.both (fun hb => ?_) (fun hb => ?_) <;> (try simp only [lE] at hb))); all_goals (conv => whnf)
            all_goals first | (exfalso; omega) | (refine Q.r6 (h := ?_); repeat' (first | exact Q.r0 | refine Q.r1 ?_ ?_ | refine Q.r2 ?_ | exact Q.r7 | refine Q.r3 ?_ | refine Q.r4 ?_ | refine Q.r5 ?_))
            all_goals (first | rfl | exact tst_true.2 (by omega) | exact tst_false.2 (by omega) | (simp [tst_eq]; done) | (simp only [Bool.not_true, Bool.not_false, Bool.and_true, Bool.true_and, Bool.and_false, Bool.false_and]; first | done | exact tst_true.2 (by omega) | exact tst_false.2 (by omega) | (rw [tst_true.2 (by omega)]; done) | (rw [tst_false.2 (by omega)]; done)))
  · rw [show finB r = false by unfold finB; rw [decide_eq_false hn]; rfl]
    refine ⟨?_⟩; refine Spec.ofR (h := fun F w0 => ?_)
    repeat' ((conv => whnf); first | refine Q.E ?_ | (refine Stk.both (fun hb => ?_) (fun hb => ?_) <;> (try simp only [lE] at hb))); all_goals (conv => whnf)
    (refine Q.r6 (h := ?_); repeat' (first | exact Q.r0 | refine Q.r1 ?_ ?_ | refine Q.r2 ?_ | exact Q.r7 | refine Q.r3 ?_ | refine Q.r4 ?_ | refine Q.r5 ?_))
instance : TySz Tryz.prog 44 false 1 := ⟨by kernel_rfl⟩
instance : ElemT Tryz.prog 44 .nilFunc 1 8 := ⟨by kernel_rfl⟩
theorem rep_parts {r : Rpl} (h : repB r = true) : numsB r = true ∧ cmdB r = true ∧ hrsB r = true ∧ finB r = true := by
  unfold repB at h
  simp only [Bool.and_eq_true] at h
  exact ⟨h.1.1.1, h.1.1.2, h.1.2, h.2⟩
theorem nums_p {r : Rpl} (h : numsB r = true) : numsP r ∧ clkB r.clock r.floor r.own = true := by
  unfold numsB at h
  rw [Bool.and_eq_true, decide_eq_true_iff] at h
  exact h
def fnA (r : Rpl) : PV := .fn (.func 86) [.agg r.cs] []
def fnB (r : Rpl) : PV := .fn (.func 87) [.agg r.cs] []
def fnC (r : Rpl) : PV := .fn (.func 88) [.agg r.cs] []
def fnD (r : Rpl) : PV := .fn (.func 89) [.agg r.cs] []
instance statecheck_spec (r : Rpl) : HasSpec Tryz.prog 26 [.agg r.cs] (PV.int (errI (repB r) 2)) := by
  have j1 := counts_spec r
  have j2 := commands_spec r
  have hlen : (([[fnA r], [fnB r], [fnC r], [fnD r]] : List (List PV)).length : Int) = 4 := rfl
  cases h1 : numsB r with
  | false =>
    rw [h1] at j1
    rw [show repB r = false by unfold repB; rw [h1]; rfl]
    refine ⟨?_⟩; refine Spec.ofR (h := fun F w0 => ?_)
    repeat' ((conv => whnf); first | refine Q.E ?_ | (refine Stk.both (fun hb => ?_) (fun hb => ?_) <;> (try simp only [lE] at hb))); all_goals (conv => whnf)
    refine Stk.op (p := .sl 1 [[fnA r], [fnB r], [fnC r], [fnD r]]) (ok_lit (parts := [(0, .tmp 9), (1, .tmp 11), (2, .tmp 13), (3, .tmp 15)]) (n := 4) (cs := [fnA r, fnB r, fnC r, fnD r]) rfl rfl rfl rfl rfl) ?_
    repeat' ((conv => whnf); first | refine Q.E ?_ | (refine Stk.both (fun hb => ?_) (fun hb => ?_) <;> (try simp only [lE] at hb))); all_goals (conv => whnf)
    refine Stk.unroll 4 ?_
    repeat' ((conv => whnf); first | refine Q.E ?_ | (refine Stk.both (fun hb => ?_) (fun hb => ?_) <;> (try simp only [lE] at hb))); all_goals (conv => whnf)
    refine Stk.op (ok_load1_ptr rfl rfl rfl) ?_
    repeat' ((conv => whnf); first | refine Q.E ?_ | (refine Stk.both (fun hb => ?_) (fun hb => ?_) <;> (try simp only [lE] at hb))); all_goals (conv => whnf)
    (refine Q.r6 (h := ?_); repeat' (first | exact Q.r0 | refine Q.r1 ?_ ?_ | refine Q.r2 ?_ | exact Q.r7 | refine Q.r3 ?_ | refine Q.r4 ?_ | refine Q.r5 ?_))
  | true =>
    rw [h1] at j1
    have h9 : r.n ≤ 9 := (nums_p h1).1.2.1
    have j3 := hears_spec r h9
    have j4 := finished_spec r h9
    cases h2 : cmdB r with
    | false =>
      rw [h2] at j2
      rw [show repB r = false by unfold repB; rw [h2]; simp]
      refine ⟨?_⟩; refine Spec.ofR (h := fun F w0 => ?_)
      repeat' ((conv => whnf); first | refine Q.E ?_ | (refine Stk.both (fun hb => ?_) (fun hb => ?_) <;> (try simp only [lE] at hb))); all_goals (conv => whnf)
      refine Stk.op (p := .sl 1 [[fnA r], [fnB r], [fnC r], [fnD r]]) (ok_lit (parts := [(0, .tmp 9), (1, .tmp 11), (2, .tmp 13), (3, .tmp 15)]) (n := 4) (cs := [fnA r, fnB r, fnC r, fnD r]) rfl rfl rfl rfl rfl) ?_
      repeat' ((conv => whnf); first | refine Q.E ?_ | (refine Stk.both (fun hb => ?_) (fun hb => ?_) <;> (try simp only [lE] at hb))); all_goals (conv => whnf)
      refine Stk.unroll 4 ?_
      repeat' ((conv => whnf); first | refine Q.E ?_ | (refine Stk.both (fun hb => ?_) (fun hb => ?_) <;> (try simp only [lE] at hb))); all_goals (conv => whnf)
      refine Stk.op (ok_load1_ptr rfl rfl rfl) ?_
      repeat' ((conv => whnf); first | refine Q.E ?_ | (refine Stk.both (fun hb => ?_) (fun hb => ?_) <;> (try simp only [lE] at hb))); all_goals (conv => whnf)
      refine Stk.op (ok_load1_ptr rfl rfl rfl) ?_
      repeat' ((conv => whnf); first | refine Q.E ?_ | (refine Stk.both (fun hb => ?_) (fun hb => ?_) <;> (try simp only [lE] at hb))); all_goals (conv => whnf)
      (refine Q.r6 (h := ?_); repeat' (first | exact Q.r0 | refine Q.r1 ?_ ?_ | refine Q.r2 ?_ | exact Q.r7 | refine Q.r3 ?_ | refine Q.r4 ?_ | refine Q.r5 ?_))
    | true =>
      rw [h2] at j2
      cases h3 : hrsB r with
      | false =>
        rw [h3] at j3
        rw [show repB r = false by unfold repB; rw [h3]; simp]
        refine ⟨?_⟩; refine Spec.ofR (h := fun F w0 => ?_)
        repeat' ((conv => whnf); first | refine Q.E ?_ | (refine Stk.both (fun hb => ?_) (fun hb => ?_) <;> (try simp only [lE] at hb))); all_goals (conv => whnf)
        refine Stk.op (p := .sl 1 [[fnA r], [fnB r], [fnC r], [fnD r]]) (ok_lit (parts := [(0, .tmp 9), (1, .tmp 11), (2, .tmp 13), (3, .tmp 15)]) (n := 4) (cs := [fnA r, fnB r, fnC r, fnD r]) rfl rfl rfl rfl rfl) ?_
        repeat' ((conv => whnf); first | refine Q.E ?_ | (refine Stk.both (fun hb => ?_) (fun hb => ?_) <;> (try simp only [lE] at hb))); all_goals (conv => whnf)
        refine Stk.unroll 4 ?_
        repeat' ((conv => whnf); first | refine Q.E ?_ | (refine Stk.both (fun hb => ?_) (fun hb => ?_) <;> (try simp only [lE] at hb))); all_goals (conv => whnf)
        refine Stk.op (ok_load1_ptr rfl rfl rfl) ?_
        repeat' ((conv => whnf); first | refine Q.E ?_ | (refine Stk.both (fun hb => ?_) (fun hb => ?_) <;> (try simp only [lE] at hb))); all_goals (conv => whnf)
        refine Stk.op (ok_load1_ptr rfl rfl rfl) ?_
        repeat' ((conv => whnf); first | refine Q.E ?_ | (refine Stk.both (fun hb => ?_) (fun hb => ?_) <;> (try simp only [lE] at hb))); all_goals (conv => whnf)
        refine Stk.op (ok_load1_ptr rfl rfl rfl) ?_
        repeat' ((conv => whnf); first | refine Q.E ?_ | (refine Stk.both (fun hb => ?_) (fun hb => ?_) <;> (try simp only [lE] at hb))); all_goals (conv => whnf)
        (refine Q.r6 (h := ?_); repeat' (first | exact Q.r0 | refine Q.r1 ?_ ?_ | refine Q.r2 ?_ | exact Q.r7 | refine Q.r3 ?_ | refine Q.r4 ?_ | refine Q.r5 ?_))
      | true =>
        rw [h3] at j3
        cases h4 : finB r with
        | false =>
          rw [h4] at j4
          rw [show repB r = false by unfold repB; rw [h4]; simp]
          refine ⟨?_⟩; refine Spec.ofR (h := fun F w0 => ?_)
          repeat' ((conv => whnf); first | refine Q.E ?_ | (refine Stk.both (fun hb => ?_) (fun hb => ?_) <;> (try simp only [lE] at hb))); all_goals (conv => whnf)
          refine Stk.op (p := .sl 1 [[fnA r], [fnB r], [fnC r], [fnD r]]) (ok_lit (parts := [(0, .tmp 9), (1, .tmp 11), (2, .tmp 13), (3, .tmp 15)]) (n := 4) (cs := [fnA r, fnB r, fnC r, fnD r]) rfl rfl rfl rfl rfl) ?_
          repeat' ((conv => whnf); first | refine Q.E ?_ | (refine Stk.both (fun hb => ?_) (fun hb => ?_) <;> (try simp only [lE] at hb))); all_goals (conv => whnf)
          refine Stk.unroll 4 ?_
          repeat' ((conv => whnf); first | refine Q.E ?_ | (refine Stk.both (fun hb => ?_) (fun hb => ?_) <;> (try simp only [lE] at hb))); all_goals (conv => whnf)
          refine Stk.op (ok_load1_ptr rfl rfl rfl) ?_
          repeat' ((conv => whnf); first | refine Q.E ?_ | (refine Stk.both (fun hb => ?_) (fun hb => ?_) <;> (try simp only [lE] at hb))); all_goals (conv => whnf)
          refine Stk.op (ok_load1_ptr rfl rfl rfl) ?_
          repeat' ((conv => whnf); first | refine Q.E ?_ | (refine Stk.both (fun hb => ?_) (fun hb => ?_) <;> (try simp only [lE] at hb))); all_goals (conv => whnf)
          refine Stk.op (ok_load1_ptr rfl rfl rfl) ?_
          repeat' ((conv => whnf); first | refine Q.E ?_ | (refine Stk.both (fun hb => ?_) (fun hb => ?_) <;> (try simp only [lE] at hb))); all_goals (conv => whnf)
          refine Stk.op (ok_load1_ptr rfl rfl rfl) ?_
          repeat' ((conv => whnf); first | refine Q.E ?_ | (refine Stk.both (fun hb => ?_) (fun hb => ?_) <;> (try simp only [lE] at hb))); all_goals (conv => whnf)
          (refine Q.r6 (h := ?_); repeat' (first | exact Q.r0 | refine Q.r1 ?_ ?_ | refine Q.r2 ?_ | exact Q.r7 | refine Q.r3 ?_ | refine Q.r4 ?_ | refine Q.r5 ?_))
        | true =>
          rw [h4] at j4
          rw [show repB r = true by unfold repB; rw [h1, h2, h3, h4]; rfl]
          refine ⟨?_⟩; refine Spec.ofR (h := fun F w0 => ?_)
          repeat' ((conv => whnf); first | refine Q.E ?_ | (refine Stk.both (fun hb => ?_) (fun hb => ?_) <;> (try simp only [lE] at hb))); all_goals (conv => whnf)
          refine Stk.op (p := .sl 1 [[fnA r], [fnB r], [fnC r], [fnD r]]) (ok_lit (parts := [(0, .tmp 9), (1, .tmp 11), (2, .tmp 13), (3, .tmp 15)]) (n := 4) (cs := [fnA r, fnB r, fnC r, fnD r]) rfl rfl rfl rfl rfl) ?_
          repeat' ((conv => whnf); first | refine Q.E ?_ | (refine Stk.both (fun hb => ?_) (fun hb => ?_) <;> (try simp only [lE] at hb))); all_goals (conv => whnf)
          refine Stk.unroll 4 ?_
          repeat' ((conv => whnf); first | refine Q.E ?_ | (refine Stk.both (fun hb => ?_) (fun hb => ?_) <;> (try simp only [lE] at hb))); all_goals (conv => whnf)
          refine Stk.op (ok_load1_ptr rfl rfl rfl) ?_
          repeat' ((conv => whnf); first | refine Q.E ?_ | (refine Stk.both (fun hb => ?_) (fun hb => ?_) <;> (try simp only [lE] at hb))); all_goals (conv => whnf)
          refine Stk.op (ok_load1_ptr rfl rfl rfl) ?_
          repeat' ((conv => whnf); first | refine Q.E ?_ | (refine Stk.both (fun hb => ?_) (fun hb => ?_) <;> (try simp only [lE] at hb))); all_goals (conv => whnf)
          refine Stk.op (ok_load1_ptr rfl rfl rfl) ?_
          repeat' ((conv => whnf); first | refine Q.E ?_ | (refine Stk.both (fun hb => ?_) (fun hb => ?_) <;> (try simp only [lE] at hb))); all_goals (conv => whnf)
          refine Stk.op (ok_load1_ptr rfl rfl rfl) ?_
          repeat' ((conv => whnf); first | refine Q.E ?_ | (refine Stk.both (fun hb => ?_) (fun hb => ?_) <;> (try simp only [lE] at hb))); all_goals (conv => whnf)
          (refine Q.r6 (h := ?_); repeat' (first | exact Q.r0 | refine Q.r1 ?_ ?_ | refine Q.r2 ?_ | exact Q.r7 | refine Q.r3 ?_ | refine Q.r4 ?_ | refine Q.r5 ?_))
end Go.Proofs.YtbjepdfnmbdplaaGreat
end
section
namespace Go.Proofs.YtbjepdfnmbdplaaGreat
open Go.RowKit
set_option linter.unusedSimpArgs false
set_option linter.unusedVariables false
set_option maxRecDepth 100000
set_option maxHeartbeats 1000000
theorem putX_no {l : List Ent} {e : Ent} (h : ¬ (entsB l = true ∧ entB e = true)) : putX l e = 2 := if_pos h
theorem putX_in {l : List Ent} {e : Ent} (h : entsB l = true ∧ entB e = true) (hf : findB l e.id = true) : putX l e = 0 := (if_neg (not_not_intro h)).trans (if_pos hf)
theorem putX_new {l : List Ent} {e : Ent} (h : entsB l = true ∧ entB e = true) (hf : findB l e.id = false) (hn : l.length < 40) : putX l e = 0 := (if_neg (not_not_intro h)).trans ((if_neg (by rw [hf]; simp)).trans (if_pos hn))
theorem putX_full {l : List Ent} {e : Ent} (h : entsB l = true ∧ entB e = true) (hf : findB l e.id = false) (hn : ¬ l.length < 40) : putX l e = 8 := (if_neg (not_not_intro h)).trans ((if_neg (by rw [hf]; simp)).trans (if_neg hn))
theorem putL_no {l : List Ent} {e : Ent} (h : putX l e ≠ 0) : putL21 l e = [] := if_neg h
theorem putL_yes {l : List Ent} {e : Ent} (h : putX l e = 0) : putL21 l e = putE l e := if_pos h
theorem tw_mem {α : Type} {p : α → Bool} : ∀ {l : List α} {x : α}, x ∈ l.takeWhile p → p x = true
  | [], _, h => by cases h
  | a :: l, x, h => by
    rw [List.takeWhile_cons] at h
    split at h
    · rcases List.mem_cons.1 h with h | h
      · rw [h]; assumption
      · exact tw_mem h
    · cases h
theorem pos_split {l : List Ent} (hr : risE l l.length) (id : Int) : (∀ i (h : i < l.length), i < posE l id → l[i].id < id) ∧ (∀ i (h : i < l.length), posE l id ≤ i → id ≤ l[i].id) := by
  have h1 : ∀ i (h : i < l.length), i < posE l id → l[i].id < id := by
    intro i h hi
    have hm : l[i] ∈ l.takeWhile (fun e => decide (e.id < id)) := by
      have hp := List.takeWhile_prefix (l := l) (fun e => decide (e.id < id))
      rw [List.prefix_iff_eq_take] at hp
      rw [hp]
      exact List.mem_take_iff_getElem.2 ⟨i, by unfold posE at hi; omega, rfl⟩
    have := tw_mem hm
    exact of_decide_eq_true this
  refine ⟨h1, fun i h hi => ?_⟩
  have hp : posE l id < l.length := by omega
  have h2 : id ≤ (l[posE l id]'hp).id := by
    have e : l = l.takeWhile (fun e => decide (e.id < id)) ++ l.dropWhile (fun e => decide (e.id < id)) := List.takeWhile_append_dropWhile.symm
    have hd : l.dropWhile (fun e => decide (e.id < id)) ≠ [] := by
      intro h0
      rw [h0, List.append_nil] at e
      have := congrArg List.length e
      unfold posE at hp
      omega
    have hh := List.head_dropWhile_not (fun e : Ent => decide (e.id < id)) hd
    have hg : (l[posE l id]'hp) = (l.dropWhile (fun e => decide (e.id < id))).head hd := by
      have h3 : l[posE l id]? = (l.takeWhile (fun e => decide (e.id < id)) ++ l.dropWhile (fun e => decide (e.id < id)))[posE l id]? := by rw [← e]
      rw [List.getElem?_append_right (by unfold posE; exact Nat.le_refl _), show posE l id - (l.takeWhile (fun e => decide (e.id < id))).length = 0 from by unfold posE; omega, ← List.head?_eq_getElem?, List.head?_eq_some_head hd, List.getElem?_eq_getElem hp] at h3
      injection h3
    rw [hg]
    have := of_decide_eq_false hh
    omega
  by_cases e : posE l id = i
  · subst e; exact h2
  · have := rise_lt hr i h (posE l id) (by omega)
    omega
theorem pos_found {l : List Ent} (hr : risE l l.length) {id : Int} (h : findB l id = true) : ∃ hp : posE l id < l.length, (l[posE l id]'hp).id = id :=
  (found_at hr (pos_le l id) (pos_split hr id).1 (pos_split hr id).2).1 h
theorem pos_not {l : List Ent} (hr : risE l l.length) {id : Int} (h : findB l id = false) : ∀ i (hi : i < l.length), posE l id ≤ i → id < l[i].id := by
  intro i hi hp
  have h1 := (pos_split hr id).2 i hi hp
  by_cases e : l[i].id = id
  · have := List.any_eq_false.1 h l[i] (List.getElem_mem hi)
    exact absurd (decide_eq_true e) this
  · omega
instance tableput_spec (l : List Ent) (e : Ent) : HasSpec Tryz.prog 133 [PV.ents l, .agg e.cs] (.tup [PV.ents (putL21 l e), PV.int (putX l e)]) := by
  have jc := tablecheck_spec l
  cases hL : entsB l with
  | false =>
    rw [hL] at jc
    have hx : putX l e = 2 := putX_no (by rw [hL]; simp)
    rw [putL_no (by rw [hx]; decide), hx]
    refine ⟨?_⟩; refine Spec.ofR (h := fun F w0 => ?_)
    repeat' ((conv => whnf); first | refine Q.E ?_ | (refine Stk.both (fun hb => ?_) (fun hb => ?_) <;> (try simp only [lE] at hb))); all_goals (conv => whnf)
    (refine Q.r6 (h := ?_); repeat' (first | exact Q.r0 | refine Q.r1 ?_ ?_ | refine Q.r2 ?_ | exact Q.r7 | refine Q.r3 ?_ | refine Q.r4 ?_ | refine Q.r5 ?_))
  | true =>
    rw [hL] at jc
    cases hE : entB e with
    | false =>
      have je := chk_no hE
      have hx : putX l e = 2 := putX_no (by rw [hE]; simp)
      rw [putL_no (by rw [hx]; decide), hx]
      refine ⟨?_⟩; refine Spec.ofR (h := fun F w0 => ?_)
      repeat' ((conv => whnf); first | refine Q.E ?_ | (refine Stk.both (fun hb => ?_) (fun hb => ?_) <;> (try simp only [lE] at hb))); all_goals (conv => whnf)
      (refine Q.r6 (h := ?_); repeat' (first | exact Q.r0 | refine Q.r1 ?_ ?_ | refine Q.r2 ?_ | exact Q.r7 | refine Q.r3 ?_ | refine Q.r4 ?_ | refine Q.r5 ?_))
    | true =>
      have je := chk_yes hE
      obtain ⟨hl, hr⟩ := entsB_iff.1 hL
      have jb := bsearch_spec l hl hr e.id
      have jk := cloneent_spec l (by omega)
      cases hF : findB l e.id with
      | true =>
        obtain ⟨hp, hid⟩ := pos_found hr hF
        have hx := putX_in ⟨hL, hE⟩ hF
        rw [putL_yes hx, hx, show putE l e = l.set (posE l e.id) e from if_pos hF]
        rw [hF] at jb
        generalize posE l e.id = p at *
        refine ⟨?_⟩; refine Spec.ofR (h := fun F w0 => ?_)
        repeat' ((conv => whnf); first | refine Q.E ?_ | (refine Stk.both (fun hb => ?_) (fun hb => ?_) <;> (try simp only [lE] at hb))); all_goals (conv => whnf)
        refine Stk.op (ok_ix_row (l := l) (f := Ent.cs) (i := p) rfl rfl rfl hp rfl) ?_
        repeat' ((conv => whnf); first | refine Q.E ?_ | (refine Stk.both (fun hb => ?_) (fun hb => ?_) <;> (try simp only [lE] at hb))); all_goals (conv => whnf)
        refine Stk.eff (h := eff_st_row (l := l) (f := Ent.cs) (a := e) (fun _ => rfl) rfl rfl hp rfl) (k := ?_)
        repeat' ((conv => whnf); first | refine Q.E ?_ | (refine Stk.both (fun hb => ?_) (fun hb => ?_) <;> (try simp only [lE] at hb))); all_goals (conv => whnf)
        (refine Q.r6 (h := ?_); repeat' (first | exact Q.r0 | refine Q.r1 ?_ ?_ | refine Q.r2 ?_ | exact Q.r7 | refine Q.r3 ?_ | refine Q.r4 ?_ | refine Q.r5 ?_))
      | false =>
        rw [hF] at jb
        by_cases h40 : l.length < 40
        · have hx := putX_new ⟨hL, hE⟩ hF h40
          have hp := pos_le l e.id
          rw [putL_yes hx, hx, show putE l e = l.take (posE l e.id) ++ [e] ++ l.drop (posE l e.id) from if_neg (by rw [hF]; simp)]
          generalize posE l e.id = p at *
          refine ⟨?_⟩; refine Spec.ofR (h := fun F w0 => ?_)
          conv => whnf
          refine Stk.reC (TabT.noEz inferInstance) ?_
          have tb' : TabT Tryz.prog _ := TabT.noEz inferInstance
          repeat' ((conv => whnf); first | refine Q.E ?_ | (refine Stk.both (fun hb => ?_) (fun hb => ?_) <;> (try simp only [lE] at hb))); all_goals (conv => whnf)
          refine Stk.opB (b := .row 40 10 0 (chunks 10 1 e.cs)) (ok_litrow (parts := [(0, .tmp 37)]) (n := 1) (cs := e.cs) rfl rfl (by kernel_rfl) rfl) rfl ?_
          rw [show chunks 10 1 e.cs = [e.cs] from rfl]
          repeat' ((conv => whnf); first | refine Q.E ?_ | (refine Stk.both (fun hb => ?_) (fun hb => ?_) <;> (try simp only [lE] at hb))); all_goals (conv => whnf)
          refine Stk.appC rfl (eff_insG insEnt (inferInstance : FnT Tryz.prog 209 _).ent (i := p) (e := e.cs) (xs := l.map Ent.cs) rfl rfl rfl rfl rfl (by decide) (by rw [List.length_map]; exact hp) (by rw [List.length_map]; omega) rfl) ?_
          rw [show (l.map Ent.cs).take p ++ [e.cs] ++ (l.map Ent.cs).drop p = (l.take p ++ [e] ++ l.drop p).map Ent.cs from by rw [List.map_append, List.map_append, List.map_take, List.map_drop]; rfl]
          repeat' ((conv => whnf); first | refine Q.E ?_ | (refine Stk.both (fun hb => ?_) (fun hb => ?_) <;> (try simp only [lE] at hb))); all_goals (conv => whnf)
          (refine Q.r6 (h := ?_); repeat' (first | exact Q.r0 | refine Q.r1 ?_ ?_ | refine Q.r2 ?_ | exact Q.r7 | refine Q.r3 ?_ | refine Q.r4 ?_ | refine Q.r5 ?_))
        · have hx := putX_full ⟨hL, hE⟩ hF h40
          rw [putL_no (by rw [hx]; decide), hx]
          generalize posE l e.id = p at *
          refine ⟨?_⟩; refine Spec.ofR (h := fun F w0 => ?_)
          repeat' ((conv => whnf); first | refine Q.E ?_ | (refine Stk.both (fun hb => ?_) (fun hb => ?_) <;> (try simp only [lE] at hb))); all_goals (conv => whnf)
          (refine Q.r6 (h := ?_); repeat' (first | exact Q.r0 | refine Q.r1 ?_ ?_ | refine Q.r2 ?_ | exact Q.r7 | refine Q.r3 ?_ | refine Q.r4 ?_ | refine Q.r5 ?_))
end Go.Proofs.YtbjepdfnmbdplaaGreat
end
section
namespace Go.Proofs.YtbjepdfnmbdplaaGreat
open Go.RowKit
set_option linter.unusedSimpArgs false
set_option linter.unusedVariables false
set_option maxRecDepth 100000
set_option maxHeartbeats 1000000
theorem rchk_yes {e : Ent} (h : entB e = true) : HasSpec Tryz.prog 114 [.agg e.cs] (PV.int 0) := by have := refentcheck_spec e; rw [h] at this; exact this
theorem rchk_no {e : Ent} (h : entB e = false) : HasSpec Tryz.prog 114 [.agg e.cs] (PV.int 2) := by have := refentcheck_spec e; rw [h] at this; exact this
instance reftabcheck_spec (l : List Ent) : HasSpec Tryz.prog 159 [PV.ents l] (PV.int (errI (entsB l) 2)) := by
  by_cases hn : l.length ≤ 40
  · refine ⟨Spec.bound 0 rfl fun hl => ?_⟩; rw [List.length_map] at hl; refine Spec.ofR (h := fun F w0 => ?_)
    repeat' ((conv => whnf); first | refine Q.E ?_ | (refine Stk.both (fun hb => ?_) (fun hb => ?_) <;> (try simp only [lE] at hb))); all_goals (conv => whnf)
    refine Stk.loop (ι := Nat) (fun i => [(0, PV.ents l), (3, PV.int (i : Nat))]) (fun _ => []) (fun i => i ≤ l.length ∧ risE l i) (fun i => l.length - i) 0 ⟨Nat.zero_le _, risE_zero l⟩ (Weak.gc ⟨rfl, rfl, trivial⟩ trivial rfl rfl rfl) (fun i hi => ?_)
    obtain ⟨hi, hr⟩ := hi
    by_cases hlt : i < l.length
    · cases he : entB l[i] with
      | false =>
        rw [entsB_bad hlt he]
        have je := rchk_no he
        repeat' ((conv => whnf); first | refine Q.E ?_ | (refine Stk.both (fun hb => ?_) (fun hb => ?_) <;> (try simp only [lE] at hb))); all_goals (conv => whnf)
        (refine Q.r6 (h := ?_); repeat' (first | exact Q.r0 | refine Q.r1 ?_ ?_ | refine Q.r2 ?_ | exact Q.r7 | refine Q.r3 ?_ | refine Q.r4 ?_ | refine Q.r5 ?_))
      | true =>
        have je := rchk_yes he
        by_cases h0 : 0 < i
        · have hp : ((i : Int) - 1).toNat < l.length := by omega
          have ep : ((i : Int) - 1).toNat = i - 1 := by omega
          by_cases hc : (l[((i : Int) - 1).toNat]'hp).id < l[i].id
          · repeat' ((conv => whnf); first | refine Q.E ?_ | (refine Stk.both (fun hb => ?_) (fun hb => ?_) <;> (try simp only [lE] at hb))); all_goals (conv => whnf)
            exact ⟨i + 1, ⟨by omega, risE_succ hlt hr he fun _ => by simp only [ep] at hc; exact hc⟩, by omega, Weak.gc ⟨rfl, rfl, trivial⟩ trivial rfl rfl rfl⟩
          · rw [entsB_bad2 hlt h0 (by simp only [ep] at hc; exact hc)]
            have hc2 : l[i].id ≤ (l[((i : Int) - 1).toNat]'hp).id := by omega
            repeat' ((conv => whnf); first | refine Q.E ?_ | (refine Stk.both (fun hb => ?_) (fun hb => ?_) <;> (try simp only [lE] at hb))); all_goals (conv => whnf)
            (refine Q.r6 (h := ?_); repeat' (first | exact Q.r0 | refine Q.r1 ?_ ?_ | refine Q.r2 ?_ | exact Q.r7 | refine Q.r3 ?_ | refine Q.r4 ?_ | refine Q.r5 ?_))
        · repeat' ((conv => whnf); first | refine Q.E ?_ | (refine Stk.both (fun hb => ?_) (fun hb => ?_) <;> (try simp only [lE] at hb))); all_goals (conv => whnf)
          exact ⟨i + 1, ⟨by omega, risE_succ hlt hr he fun h => absurd h h0⟩, by omega, Weak.gc ⟨rfl, rfl, trivial⟩ trivial rfl rfl rfl⟩
    · rw [entsB_iff.2 ⟨hn, by rwa [show l.length = i by omega]⟩]
      repeat' ((conv => whnf); first | refine Q.E ?_ | (refine Stk.both (fun hb => ?_) (fun hb => ?_) <;> (try simp only [lE] at hb))); all_goals (conv => whnf)
      (refine Q.r6 (h := ?_); repeat' (first | exact Q.r0 | refine Q.r1 ?_ ?_ | refine Q.r2 ?_ | exact Q.r7 | refine Q.r3 ?_ | refine Q.r4 ?_ | refine Q.r5 ?_))
  · rw [entsB_no fun h => hn h.1]
    refine ⟨Spec.bound 0 rfl fun hl => ?_⟩; rw [List.length_map] at hl; refine Spec.ofR (h := fun F w0 => ?_)
    repeat' ((conv => whnf); first | refine Q.E ?_ | (refine Stk.both (fun hb => ?_) (fun hb => ?_) <;> (try simp only [lE] at hb))); all_goals (conv => whnf)
    (refine Q.r6 (h := ?_); repeat' (first | exact Q.r0 | refine Q.r1 ?_ ?_ | refine Q.r2 ?_ | exact Q.r7 | refine Q.r3 ?_ | refine Q.r4 ?_ | refine Q.r5 ?_))
instance reftabfind_spec (l : List Ent) (id : Int) : HasSpec Tryz.prog 77 [PV.ents l, PV.int id] (.tup [.agg (findT l id).cs, .v (.bool (findB l id))]) := by
  refine ⟨Spec.bound 0 rfl fun hl => ?_⟩; rw [List.length_map] at hl; refine Spec.ofR (h := fun F w0 => ?_)
  repeat' ((conv => whnf); first | refine Q.E ?_ | (refine Stk.both (fun hb => ?_) (fun hb => ?_) <;> (try simp only [lE] at hb))); all_goals (conv => whnf)
  refine Stk.loop (ι := Nat) (fun i => [(0, PV.ents l), (1, PV.int id), (4, .lp 4 0), (6, PV.int (i : Nat))]) (fun i => [(4, .box nilE)]) (fun i => i ≤ l.length ∧ ∀ x ∈ l.take i, isId id x = false) (fun i => l.length - i) 0 ⟨Nat.zero_le _, by simp⟩ (Weak.gc ⟨rfl, rfl, rfl, rfl, trivial⟩ ⟨rfl, trivial⟩ rfl rfl rfl) (fun i hi => ?_)
  obtain ⟨hi, hno⟩ := hi
  by_cases hlt : i < l.length
  · by_cases hq : l[i].id = id
    · obtain ⟨e1, e2⟩ := find_at hlt hno (by unfold isId; exact decide_eq_true hq)
      rw [e1, e2]
      repeat' ((conv => whnf); first | refine Q.E ?_ | (refine Stk.both (fun hb => ?_) (fun hb => ?_) <;> (try simp only [lE] at hb))); all_goals (conv => whnf)
      (refine Q.r6 (h := ?_); repeat' (first | exact Q.r0 | refine Q.r1 ?_ ?_ | refine Q.r2 ?_ | exact Q.r7 | refine Q.r3 ?_ | refine Q.r4 ?_ | refine Q.r5 ?_))
    · repeat' ((conv => whnf); first | refine Q.E ?_ | (refine Stk.both (fun hb => ?_) (fun hb => ?_) <;> (try simp only [lE] at hb))); all_goals (conv => whnf)
      exact ⟨i + 1, ⟨by omega, take_no hlt hno (by unfold isId; exact decide_eq_false hq)⟩, by omega, Weak.gc ⟨rfl, rfl, rfl, rfl, trivial⟩ ⟨rfl, trivial⟩ rfl rfl rfl⟩
  · obtain ⟨e1, e2⟩ := find_no (take_all (by omega) hno)
    rw [e1, e2]
    repeat' ((conv => whnf); first | refine Q.E ?_ | (refine Stk.both (fun hb => ?_) (fun hb => ?_) <;> (try simp only [lE] at hb))); all_goals (conv => whnf)
    (refine Q.r6 (h := ?_); repeat' (first | exact Q.r0 | refine Q.r1 ?_ ?_ | refine Q.r2 ?_ | exact Q.r7 | refine Q.r3 ?_ | refine Q.r4 ?_ | refine Q.r5 ?_))
theorem Ent.snoc (o : List Ent) (e : Ent) : o.map Ent.cs ++ [[PV.int e.id, PV.int e.phase, PV.int e.quorum, PV.int e.t, PV.int e.bal, PV.int e.abal, PV.int e.seen, PV.int e.age, .v (.string e.payload), .sl 6 (e.acks.map Ack.cs)]] = (o ++ [e]).map Ent.cs := by
  rw [List.map_append]
  rfl
def outAt (l : List Ent) (e : Ent) (p c i : Nat) : List Ent := if i ≤ p then l.take i else l.take p ++ [e] ++ (l.take i).drop (p + c)
theorem outAt_lt {l : List Ent} {e : Ent} {p c i : Nat} (h : i < p) (hi : i < l.length) : outAt l e p c (i + 1) = outAt l e p c i ++ [l[i]] := by
  unfold outAt
  rw [if_pos (by omega), if_pos (by omega), take_snoc' l i hi]
theorem outAt_eq1 {l : List Ent} {e : Ent} {p : Nat} (hi : p < l.length) : outAt l e p 1 (p + 1) = outAt l e p 1 p ++ [e] := by
  unfold outAt
  rw [if_neg (by omega), if_pos (by omega), List.drop_eq_nil_of_le (by rw [List.length_take]; omega), List.append_nil]
theorem outAt_eq0 {l : List Ent} {e : Ent} {p : Nat} (hi : p < l.length) : outAt l e p 0 (p + 1) = outAt l e p 0 p ++ [e] ++ [l[p]] := by
  unfold outAt
  rw [if_neg (by omega), if_pos (by omega), take_snoc' l p hi, Nat.add_zero, List.drop_append_of_le_length (by rw [List.length_take]; omega), List.drop_eq_nil_of_le (by rw [List.length_take]; omega), List.nil_append]
theorem outAt_gt {l : List Ent} {e : Ent} {p c i : Nat} (h : p < i) (hc : c ≤ 1) (hi : i < l.length) : outAt l e p c (i + 1) = outAt l e p c i ++ [l[i]] := by
  unfold outAt
  rw [if_neg (by omega), if_neg (by omega), take_snoc' l i hi, List.drop_append_of_le_length (by rw [List.length_take]; omega), List.append_assoc, List.append_assoc, List.append_assoc]
theorem outAt_len {l : List Ent} {e : Ent} {p c i : Nat} (hp : p ≤ l.length) : (outAt l e p c i).length ≤ l.length + 1 := by
  unfold outAt
  split
  · rw [List.length_take]; omega
  · simp only [List.length_append, List.length_take, List.length_drop, List.length_singleton]
    omega
theorem outAt_end1 {l : List Ent} {e : Ent} {p : Nat} (hi : p < l.length) : outAt l e p 1 l.length = l.set p e := by
  unfold outAt
  rw [if_neg (by omega), List.take_length, List.set_eq_take_append_cons_drop, if_pos hi, List.append_assoc]
  rfl
theorem outAt_end0 {l : List Ent} {e : Ent} {p : Nat} (hi : p < l.length) : outAt l e p 0 l.length = l.take p ++ [e] ++ l.drop p := by
  unfold outAt
  rw [if_neg (by omega), List.take_length, Nat.add_zero]
instance reftabput_spec (l : List Ent) (e : Ent) : HasSpec Tryz.prog 141 [PV.ents l, .agg e.cs] (.tup [PV.ents (putL21 l e), PV.int (putX l e)]) := by
  have jc := reftabcheck_spec l
  cases hL : entsB l with
  | false =>
    rw [hL] at jc
    have hx : putX l e = 2 := putX_no (by rw [hL]; simp)
    rw [putL_no (by rw [hx]; decide), hx]
    refine ⟨?_⟩; refine Spec.ofR (h := fun F w0 => ?_)
    repeat' ((conv => whnf); first | refine Q.E ?_ | (refine Stk.both (fun hb => ?_) (fun hb => ?_) <;> (try simp only [lE] at hb))); all_goals (conv => whnf)
    (refine Q.r6 (h := ?_); repeat' (first | exact Q.r0 | refine Q.r1 ?_ ?_ | refine Q.r2 ?_ | exact Q.r7 | refine Q.r3 ?_ | refine Q.r4 ?_ | refine Q.r5 ?_))
  | true =>
    rw [hL] at jc
    cases hE : entB e with
    | false =>
      have je := rchk_no hE
      have hx : putX l e = 2 := putX_no (by rw [hE]; simp)
      rw [putL_no (by rw [hx]; decide), hx]
      refine ⟨?_⟩; refine Spec.ofR (h := fun F w0 => ?_)
      repeat' ((conv => whnf); first | refine Q.E ?_ | (refine Stk.both (fun hb => ?_) (fun hb => ?_) <;> (try simp only [lE] at hb))); all_goals (conv => whnf)
      (refine Q.r6 (h := ?_); repeat' (first | exact Q.r0 | refine Q.r1 ?_ ?_ | refine Q.r2 ?_ | exact Q.r7 | refine Q.r3 ?_ | refine Q.r4 ?_ | refine Q.r5 ?_))
    | true =>
      have je := rchk_yes hE
      obtain ⟨hl, hr⟩ := entsB_iff.1 hL
      obtain ⟨hs1, hs2⟩ := pos_split hr e.id
      cases hF : findB l e.id with
      | true =>
        obtain ⟨hp, hid⟩ := pos_found hr hF
        have hx := putX_in ⟨hL, hE⟩ hF
        rw [putL_yes hx, hx, show putE l e = l.set (posE l e.id) e from if_pos hF]
        have hgt : ∀ i (hi : i < l.length), posE l e.id < i → e.id < l[i].id := fun i hi h => by rw [← hid]; exact rise_lt hr i hi _ h
        generalize posE l e.id = p at *
        have hlen := fun i => outAt_len (l := l) (e := e) (c := 1) (i := i) (Nat.le_of_lt hp)
        have he1 := outAt_end1 (e := e) hp
        have hel : (l.set p e).length = l.length := List.length_set
        refine ⟨Spec.bound 0 rfl fun hl => ?_⟩; rw [List.length_map] at hl; refine Spec.ofR (h := fun F w0 => ?_)
        repeat' ((conv => whnf); first | refine Q.E ?_ | (refine Stk.both (fun hb => ?_) (fun hb => ?_) <;> (try simp only [lE] at hb))); all_goals (conv => whnf)
        refine Stk.loop (ι := Nat) (fun i => [(0, PV.ents l), (3, .lp 3 0), (6, .row 6 0), (7, .v (.bool (decide (p < i)))), (8, PV.int (i : Nat))]) (fun i => [(6, .row 40 10 0 ((outAt l e p 1 i).map Ent.cs)), (3, .box e.cs)]) (fun i => i ≤ l.length) (fun i => l.length - i) 0 (Nat.zero_le _) (Weak.trans (Weak.nilrow (t := 6) (id := 6) (rt := 40) (sz := 10) rfl rfl) (Weak.gc ⟨rfl, rfl, rfl, rfl, rfl, trivial⟩ ⟨rfl, rfl, trivial⟩ rfl rfl rfl)) (fun i hi => ?_)
        have hli := hlen i
        by_cases hlt : i < l.length
        · rcases Nat.lt_trichotomy i p with h | h | h
          · have h1 := hs1 i hlt h
            have e1 := outAt_lt (e := e) (c := 1) h hlt
            rw [decide_eq_false (show ¬ p < i by omega)]
            generalize outAt l e p 1 i = o at *
            repeat' ((conv => whnf); first | refine Q.E ?_ | (refine Stk.both (fun hb => ?_) (fun hb => ?_) <;> (try simp only [lE] at hb))); all_goals (conv => whnf)
            (refine Stk.app rfl Q.app ?_)
            repeat' ((conv => whnf); first | refine Q.E ?_ | (refine Stk.both (fun hb => ?_) (fun hb => ?_) <;> (try simp only [lE] at hb))); all_goals (conv => whnf)
            refine ⟨i + 1, by omega, by omega, ?_⟩
            rw [e1, decide_eq_false (show ¬ p < i + 1 by omega)]
            exact Weak.rever (by rw [List.map_append]; rfl) (all_map_closed (fun _ => rfl) _) ⟨.inl ⟨rfl, rfl⟩, .inl ⟨rfl, rfl⟩, .inr ⟨rfl, rfl⟩, .inl ⟨rfl, rfl⟩, .inl ⟨rfl, rfl⟩, trivial⟩ ⟨⟨by decide, rfl, rfl⟩, trivial⟩ rfl
          · subst h
            have e1 := outAt_eq1 (e := e) hp
            rw [decide_eq_false (show ¬ i < i by omega)]
            generalize outAt l e i 1 i = o at *
            repeat' ((conv => whnf); first | refine Q.E ?_ | (refine Stk.both (fun hb => ?_) (fun hb => ?_) <;> (try simp only [lE] at hb))); all_goals (conv => whnf)
            (refine Stk.app rfl Q.app ?_)
            repeat' ((conv => whnf); first | refine Q.E ?_ | (refine Stk.both (fun hb => ?_) (fun hb => ?_) <;> (try simp only [lE] at hb))); all_goals (conv => whnf)
            refine ⟨i + 1, by omega, by omega, ?_⟩
            rw [e1, decide_eq_true (show i < i + 1 by omega)]
            exact Weak.rever (by rw [List.map_append]; rfl) (all_map_closed (fun _ => rfl) _) ⟨.inl ⟨rfl, rfl⟩, .inl ⟨rfl, rfl⟩, .inr ⟨rfl, rfl⟩, .inl ⟨rfl, rfl⟩, .inl ⟨rfl, rfl⟩, trivial⟩ ⟨⟨by decide, rfl, rfl⟩, trivial⟩ rfl
          · have h1 := hgt i hlt h
            have e1 := outAt_gt (e := e) h (Nat.le_refl 1) hlt
            rw [decide_eq_true h]
            generalize outAt l e p 1 i = o at *
            repeat' ((conv => whnf); first | refine Q.E ?_ | (refine Stk.both (fun hb => ?_) (fun hb => ?_) <;> (try simp only [lE] at hb))); all_goals (conv => whnf)
            (refine Stk.app rfl Q.app ?_)
            repeat' ((conv => whnf); first | refine Q.E ?_ | (refine Stk.both (fun hb => ?_) (fun hb => ?_) <;> (try simp only [lE] at hb))); all_goals (conv => whnf)
            refine ⟨i + 1, by omega, by omega, ?_⟩
            rw [e1, decide_eq_true (show p < i + 1 by omega)]
            exact Weak.rever (by rw [List.map_append]; rfl) (all_map_closed (fun _ => rfl) _) ⟨.inl ⟨rfl, rfl⟩, .inl ⟨rfl, rfl⟩, .inr ⟨rfl, rfl⟩, .inl ⟨rfl, rfl⟩, .inl ⟨rfl, rfl⟩, trivial⟩ ⟨⟨by decide, rfl, rfl⟩, trivial⟩ rfl
        · obtain rfl : i = l.length := by omega
          rw [decide_eq_true hp, he1]
          repeat' ((conv => whnf); first | refine Q.E ?_ | (refine Stk.both (fun hb => ?_) (fun hb => ?_) <;> (try simp only [lE] at hb))); all_goals (conv => whnf)
          (refine Q.r6 (h := ?_); repeat' (first | exact Q.r0 | refine Q.r1 ?_ ?_ | refine Q.r2 ?_ | exact Q.r7 | refine Q.r3 ?_ | refine Q.r4 ?_ | refine Q.r5 ?_))
      | false =>
        have hgt := pos_not hr hF
        have hp := pos_le l e.id
        have hpe : putE l e = l.take (posE l e.id) ++ [e] ++ l.drop (posE l e.id) := if_neg (by rw [hF]; simp)
        generalize posE l e.id = p at *
        have hlen := fun i => outAt_len (l := l) (e := e) (c := 0) (i := i) hp
        have hel : (l.take p ++ [e] ++ l.drop p).length = l.length + 1 := by
          simp only [List.length_append, List.length_take, List.length_drop, List.length_singleton]
          omega
        refine ⟨Spec.bound 0 rfl fun hl => ?_⟩; rw [List.length_map] at hl; refine Spec.ofR (h := fun F w0 => ?_)
        repeat' ((conv => whnf); first | refine Q.E ?_ | (refine Stk.both (fun hb => ?_) (fun hb => ?_) <;> (try simp only [lE] at hb))); all_goals (conv => whnf)
        refine Stk.loop (ι := Nat) (fun i => [(0, PV.ents l), (3, .lp 3 0), (6, .row 6 0), (7, .v (.bool (decide (p < i)))), (8, PV.int (i : Nat))]) (fun i => [(6, .row 40 10 0 ((outAt l e p 0 i).map Ent.cs)), (3, .box e.cs)]) (fun i => i ≤ l.length) (fun i => l.length - i) 0 (Nat.zero_le _) (Weak.trans (Weak.nilrow (t := 6) (id := 6) (rt := 40) (sz := 10) rfl rfl) (Weak.gc ⟨rfl, rfl, rfl, rfl, rfl, trivial⟩ ⟨rfl, rfl, trivial⟩ rfl rfl rfl)) (fun i hi => ?_)
        have hli := hlen i
        by_cases hlt : i < l.length
        · rcases Nat.lt_trichotomy i p with h | h | h
          · have h1 := hs1 i hlt h
            have e1 := outAt_lt (e := e) (c := 0) h hlt
            rw [decide_eq_false (show ¬ p < i by omega)]
            generalize outAt l e p 0 i = o at *
            repeat' ((conv => whnf); first | refine Q.E ?_ | (refine Stk.both (fun hb => ?_) (fun hb => ?_) <;> (try simp only [lE] at hb))); all_goals (conv => whnf)
            (refine Stk.app rfl Q.app ?_)
            repeat' ((conv => whnf); first | refine Q.E ?_ | (refine Stk.both (fun hb => ?_) (fun hb => ?_) <;> (try simp only [lE] at hb))); all_goals (conv => whnf)
            refine ⟨i + 1, by omega, by omega, ?_⟩
            rw [e1, decide_eq_false (show ¬ p < i + 1 by omega)]
            exact Weak.rever (by rw [List.map_append]; rfl) (all_map_closed (fun _ => rfl) _) ⟨.inl ⟨rfl, rfl⟩, .inl ⟨rfl, rfl⟩, .inr ⟨rfl, rfl⟩, .inl ⟨rfl, rfl⟩, .inl ⟨rfl, rfl⟩, trivial⟩ ⟨⟨by decide, rfl, rfl⟩, trivial⟩ rfl
          · subst h
            have e1 := outAt_eq0 (e := e) hlt
            have h1 := hgt i hlt (Nat.le_refl _)
            have hol : (outAt l e i 0 i).length ≤ l.length := by unfold outAt; rw [if_pos (Nat.le_refl _), List.length_take]; omega
            rw [decide_eq_false (show ¬ i < i by omega)]
            generalize outAt l e i 0 i = o at *
            repeat' ((conv => whnf); first | refine Q.E ?_ | (refine Stk.both (fun hb => ?_) (fun hb => ?_) <;> (try simp only [lE] at hb))); all_goals (conv => whnf)
            (refine Stk.app rfl Q.app ?_)
            repeat' ((conv => whnf); first | refine Q.E ?_ | (refine Stk.both (fun hb => ?_) (fun hb => ?_) <;> (try simp only [lE] at hb))); all_goals (conv => whnf)
            rw [Ent.snoc]
            have hol2 : (o ++ [e]).length ≤ l.length + 1 := by rw [List.length_append, List.length_singleton]; omega
            generalize o ++ [e] = o2 at *
            (refine Stk.app rfl Q.app ?_)
            repeat' ((conv => whnf); first | refine Q.E ?_ | (refine Stk.both (fun hb => ?_) (fun hb => ?_) <;> (try simp only [lE] at hb))); all_goals (conv => whnf)
            refine ⟨i + 1, by omega, by omega, ?_⟩
            rw [e1, decide_eq_true (show i < i + 1 by omega)]
            exact Weak.rever (by rw [List.map_append]; rfl) (all_map_closed (fun _ => rfl) _) ⟨.inl ⟨rfl, rfl⟩, .inl ⟨rfl, rfl⟩, .inr ⟨rfl, rfl⟩, .inl ⟨rfl, rfl⟩, .inl ⟨rfl, rfl⟩, trivial⟩ ⟨⟨by decide, rfl, rfl⟩, trivial⟩ rfl
          · have h1 := hgt i hlt (Nat.le_of_lt h)
            have e1 := outAt_gt (e := e) (c := 0) h (by omega) hlt
            rw [decide_eq_true h]
            generalize outAt l e p 0 i = o at *
            repeat' ((conv => whnf); first | refine Q.E ?_ | (refine Stk.both (fun hb => ?_) (fun hb => ?_) <;> (try simp only [lE] at hb))); all_goals (conv => whnf)
            (refine Stk.app rfl Q.app ?_)
            repeat' ((conv => whnf); first | refine Q.E ?_ | (refine Stk.both (fun hb => ?_) (fun hb => ?_) <;> (try simp only [lE] at hb))); all_goals (conv => whnf)
            refine ⟨i + 1, by omega, by omega, ?_⟩
            rw [e1, decide_eq_true (show p < i + 1 by omega)]
            exact Weak.rever (by rw [List.map_append]; rfl) (all_map_closed (fun _ => rfl) _) ⟨.inl ⟨rfl, rfl⟩, .inl ⟨rfl, rfl⟩, .inr ⟨rfl, rfl⟩, .inl ⟨rfl, rfl⟩, .inl ⟨rfl, rfl⟩, trivial⟩ ⟨⟨by decide, rfl, rfl⟩, trivial⟩ rfl
        · obtain rfl : i = l.length := by omega
          have hput : (l.length < 40 → putX l e = 0 ∧ putL21 l e = l.take p ++ [e] ++ l.drop p) ∧ (¬ l.length < 40 → putX l e = 8 ∧ putL21 l e = []) := by
            refine ⟨fun h40 => ?_, fun h40 => ?_⟩
            · have hx := putX_new ⟨hL, hE⟩ hF h40
              exact ⟨hx, by rw [putL_yes hx, hpe]⟩
            · have hx := putX_full ⟨hL, hE⟩ hF h40
              exact ⟨hx, putL_no (by rw [hx]; decide)⟩
          by_cases hpl : p < l.length
          · rw [decide_eq_true hpl, outAt_end0 hpl]
            generalize l.take p ++ [e] ++ l.drop p = o at *
            by_cases h40 : l.length < 40
            · rw [(hput.1 h40).1, (hput.1 h40).2]
              repeat' ((conv => whnf); first | refine Q.E ?_ | (refine Stk.both (fun hb => ?_) (fun hb => ?_) <;> (try simp only [lE] at hb))); all_goals (conv => whnf)
              (refine Q.r6 (h := ?_); repeat' (first | exact Q.r0 | refine Q.r1 ?_ ?_ | refine Q.r2 ?_ | exact Q.r7 | refine Q.r3 ?_ | refine Q.r4 ?_ | refine Q.r5 ?_))
            · rw [(hput.2 h40).1, (hput.2 h40).2]
              repeat' ((conv => whnf); first | refine Q.E ?_ | (refine Stk.both (fun hb => ?_) (fun hb => ?_) <;> (try simp only [lE] at hb))); all_goals (conv => whnf)
              (refine Q.r6 (h := ?_); repeat' (first | exact Q.r0 | refine Q.r1 ?_ ?_ | refine Q.r2 ?_ | exact Q.r7 | refine Q.r3 ?_ | refine Q.r4 ?_ | refine Q.r5 ?_))
          · have hpp : p = l.length := by omega
            have ho : l.take p ++ [e] ++ l.drop p = l ++ [e] := by rw [hpp, List.take_length, List.drop_length, List.append_nil]
            rw [ho] at hput hel
            rw [decide_eq_false hpl, show outAt l e p 0 l.length = l from by unfold outAt; rw [if_pos (by omega), List.take_length]]
            by_cases h40 : l.length < 40
            · rw [(hput.1 h40).1, (hput.1 h40).2]
              repeat' ((conv => whnf); first | refine Q.E ?_ | (refine Stk.both (fun hb => ?_) (fun hb => ?_) <;> (try simp only [lE] at hb))); all_goals (conv => whnf)
              (refine Stk.app rfl Q.app ?_)
              rw [Ent.snoc]
              generalize l ++ [e] = o at *
              repeat' ((conv => whnf); first | refine Q.E ?_ | (refine Stk.both (fun hb => ?_) (fun hb => ?_) <;> (try simp only [lE] at hb))); all_goals (conv => whnf)
              (refine Q.r6 (h := ?_); repeat' (first | exact Q.r0 | refine Q.r1 ?_ ?_ | refine Q.r2 ?_ | exact Q.r7 | refine Q.r3 ?_ | refine Q.r4 ?_ | refine Q.r5 ?_))
            · rw [(hput.2 h40).1, (hput.2 h40).2]
              repeat' ((conv => whnf); first | refine Q.E ?_ | (refine Stk.both (fun hb => ?_) (fun hb => ?_) <;> (try simp only [lE] at hb))); all_goals (conv => whnf)
              (refine Stk.app rfl Q.app ?_)
              rw [Ent.snoc]
              generalize l ++ [e] = o at *
              repeat' ((conv => whnf); first | refine Q.E ?_ | (refine Stk.both (fun hb => ?_) (fun hb => ?_) <;> (try simp only [lE] at hb))); all_goals (conv => whnf)
              (refine Q.r6 (h := ?_); repeat' (first | exact Q.r0 | refine Q.r1 ?_ ?_ | refine Q.r2 ?_ | exact Q.r7 | refine Q.r3 ?_ | refine Q.r4 ?_ | refine Q.r5 ?_))
end Go.Proofs.YtbjepdfnmbdplaaGreat
end
section
namespace Go.Proofs.YtbjepdfnmbdplaaGreat
open Go.RowKit
set_option linter.unusedSimpArgs false
set_option linter.unusedVariables false
set_option maxRecDepth 100000
set_option maxHeartbeats 1000000
end Go.Proofs.YtbjepdfnmbdplaaGreat
end
section
namespace Go.Proofs.YtbjepdfnmbdplaaGreat
open Go.RowKit
set_option linter.unusedSimpArgs false
set_option linter.unusedVariables false
set_option maxRecDepth 100000
set_option maxHeartbeats 1000000
end Go.Proofs.YtbjepdfnmbdplaaGreat
end
section
namespace Go.Proofs.YtbjepdfnmbdplaaGreat
open Go.RowKit
set_option linter.unusedSimpArgs false
set_option linter.unusedVariables false
set_option maxRecDepth 100000
set_option maxHeartbeats 1000000
theorem take_eq_stepG {α : Type} {a b : List α} {i : Nat} (h : a.take i = b.take i) (ha : i < a.length) (hb : i < b.length) (e : a[i] = b[i]) : a.take (i + 1) = b.take (i + 1) := by
  rw [take_snoc' a i ha, take_snoc' b i hb, h, e]
theorem dec_len {α : Type} [DecidableEq α] {a b : List α} (h : a.length ≠ b.length) : decide (a = b) = false := decide_eq_false (fun e => h (by rw [e]))
theorem dec_at {α : Type} [DecidableEq α] {a b : List α} (i : Nat) (ha : i < a.length) (hb : i < b.length) (h : a[i] ≠ b[i]) : decide (a = b) = false := decide_eq_false (fun e => h (by subst e; rfl))
instance sliceseq_spec (a b : List Int) : HasSpec Tryz.prog 232 [PV.ints a, PV.ints b] (.v (.bool (decide (a = b)))) := by
  by_cases hl0 : a.length = b.length
  · have hll : (a.length : Int) = (b.length : Nat) := by rw [hl0]
    refine ⟨Spec.bound 0 rfl fun hl => ?_⟩; rw [List.length_map] at hl; refine Spec.ofR (h := fun F w0 => ?_)
    repeat' ((conv => whnf); first | refine Q.E ?_ | (refine Stk.both (fun hb => ?_) (fun hb => ?_) <;> (try simp only [lE] at hb))); all_goals (conv => whnf)
    refine Stk.loop (ι := Nat) (fun i => [(0, PV.ints a), (1, PV.ints b), (12, PV.int (a.length : Nat)), (13, PV.int (i : Nat))]) (fun _ => []) (fun i => i ≤ a.length ∧ a.take i = b.take i) (fun i => a.length - i) 0 ⟨Nat.zero_le _, by simp⟩ (Weak.gc ⟨rfl, rfl, rfl, rfl, trivial⟩ trivial rfl rfl rfl) (fun i hi => ?_)
    obtain ⟨hi, he⟩ := hi
    by_cases hlt : i < a.length
    · have hb : i < b.length := by omega
      by_cases hq : a[i] = b[i]
      · repeat' ((conv => whnf); first | refine Q.E ?_ | (refine Stk.both (fun hb => ?_) (fun hb => ?_) <;> (try simp only [lE] at hb))); all_goals (conv => whnf)
        exact ⟨i + 1, ⟨by omega, take_eq_stepG he hlt hb hq⟩, by omega, Weak.gc ⟨rfl, rfl, rfl, rfl, trivial⟩ trivial rfl rfl rfl⟩
      · rw [dec_at i hlt hb hq]
        repeat' ((conv => whnf); first | refine Q.E ?_ | (refine Stk.both (fun hb => ?_) (fun hb => ?_) <;> (try simp only [lE] at hb))); all_goals (conv => whnf)
        (refine Q.r6 (h := ?_); repeat' (first | exact Q.r0 | refine Q.r1 ?_ ?_ | refine Q.r2 ?_ | exact Q.r7 | refine Q.r3 ?_ | refine Q.r4 ?_ | refine Q.r5 ?_))
    · rw [List.take_of_length_le (by omega), List.take_of_length_le (by omega)] at he
      rw [decide_eq_true he]
      repeat' ((conv => whnf); first | refine Q.E ?_ | (refine Stk.both (fun hb => ?_) (fun hb => ?_) <;> (try simp only [lE] at hb))); all_goals (conv => whnf)
      (refine Q.r6 (h := ?_); repeat' (first | exact Q.r0 | refine Q.r1 ?_ ?_ | refine Q.r2 ?_ | exact Q.r7 | refine Q.r3 ?_ | refine Q.r4 ?_ | refine Q.r5 ?_))
  · rw [dec_len hl0]
    have hll : ¬ (a.length : Int) = (b.length : Nat) := by omega
    refine ⟨Spec.bound 0 rfl fun hl => ?_⟩; rw [List.length_map] at hl; refine Spec.ofR (h := fun F w0 => ?_)
    repeat' ((conv => whnf); first | refine Q.E ?_ | (refine Stk.both (fun hb => ?_) (fun hb => ?_) <;> (try simp only [lE] at hb))); all_goals (conv => whnf)
    (refine Q.r6 (h := ?_); repeat' (first | exact Q.r0 | refine Q.r1 ?_ ?_ | refine Q.r2 ?_ | exact Q.r7 | refine Q.r3 ?_ | refine Q.r4 ?_ | refine Q.r5 ?_))
instance refsame18_spec (a b : List (List Int)) : HasSpec Tryz.prog 66 [PV.tab a, PV.tab b] (.v (.bool (decide (a = b)))) := by
  by_cases hl0 : a.length = b.length
  · have hll : (a.length : Int) = (b.length : Nat) := by rw [hl0]
    refine ⟨Spec.bound 0 rfl fun hl => ?_⟩; rw [List.length_map] at hl; refine Spec.ofR (h := fun F w0 => ?_)
    repeat' ((conv => whnf); first | refine Q.E ?_ | (refine Stk.both (fun hb => ?_) (fun hb => ?_) <;> (try simp only [lE] at hb))); all_goals (conv => whnf)
    refine Stk.loop (ι := Nat) (fun i => [(0, PV.tab a), (1, PV.tab b), (5, PV.int (i : Nat))]) (fun _ => []) (fun i => i ≤ a.length ∧ a.take i = b.take i) (fun i => a.length - i) 0 ⟨Nat.zero_le _, by simp⟩ (Weak.gc ⟨rfl, rfl, rfl, trivial⟩ trivial rfl rfl rfl) (fun i hi => ?_)
    obtain ⟨hi, he⟩ := hi
    by_cases hlt : i < a.length
    · have hb : i < b.length := by omega
      have js := refsame_spec a[i] b[i]
      by_cases hq : a[i] = b[i]
      · rw [decide_eq_true hq] at js
        repeat' ((conv => whnf); first | refine Q.E ?_ | (refine Stk.both (fun hb => ?_) (fun hb => ?_) <;> (try simp only [lE] at hb))); all_goals (conv => whnf)
        exact ⟨i + 1, ⟨by omega, take_eq_stepG he hlt hb hq⟩, by omega, Weak.gc ⟨rfl, rfl, rfl, trivial⟩ trivial rfl rfl rfl⟩
      · rw [decide_eq_false hq] at js
        rw [dec_at i hlt hb hq]
        repeat' ((conv => whnf); first | refine Q.E ?_ | (refine Stk.both (fun hb => ?_) (fun hb => ?_) <;> (try simp only [lE] at hb))); all_goals (conv => whnf)
        (refine Q.r6 (h := ?_); repeat' (first | exact Q.r0 | refine Q.r1 ?_ ?_ | refine Q.r2 ?_ | exact Q.r7 | refine Q.r3 ?_ | refine Q.r4 ?_ | refine Q.r5 ?_))
    · rw [List.take_of_length_le (by omega), List.take_of_length_le (by omega)] at he
      rw [decide_eq_true he]
      repeat' ((conv => whnf); first | refine Q.E ?_ | (refine Stk.both (fun hb => ?_) (fun hb => ?_) <;> (try simp only [lE] at hb))); all_goals (conv => whnf)
      (refine Q.r6 (h := ?_); repeat' (first | exact Q.r0 | refine Q.r1 ?_ ?_ | refine Q.r2 ?_ | exact Q.r7 | refine Q.r3 ?_ | refine Q.r4 ?_ | refine Q.r5 ?_))
  · rw [dec_len hl0]
    have hll : ¬ (a.length : Int) = (b.length : Nat) := by omega
    refine ⟨Spec.bound 0 rfl fun hl => ?_⟩; rw [List.length_map] at hl; refine Spec.ofR (h := fun F w0 => ?_)
    repeat' ((conv => whnf); first | refine Q.E ?_ | (refine Stk.both (fun hb => ?_) (fun hb => ?_) <;> (try simp only [lE] at hb))); all_goals (conv => whnf)
    (refine Q.r6 (h := ?_); repeat' (first | exact Q.r0 | refine Q.r1 ?_ ?_ | refine Q.r2 ?_ | exact Q.r7 | refine Q.r3 ?_ | refine Q.r4 ?_ | refine Q.r5 ?_))
theorem marks_bad {l : List Int} {n : Int} {i : Nat} (hi : i < l.length) (h : noneB l[i] = true) : marksB l n = false := by
  unfold marksB
  rw [show l.any noneB = true from List.any_eq_true.2 ⟨l[i], List.getElem_mem hi, h⟩]
  simp
theorem marks_good {l : List Int} {n : Int} (h1 : manyB n = true) (h2 : (l.length : Int) = n) (h : ∀ x ∈ l, noneB x = false) : marksB l n = true := by
  unfold marksB
  rw [h1, decide_eq_true h2, show l.any noneB = false from List.any_eq_false.2 fun x hx => by rw [h x hx]; simp]
  rfl
theorem noneB_f {t : Int} : noneB t = false ↔ 0 ≤ t ∧ t ≤ 1000000 := by
  unfold noneB
  rw [decide_eq_false_iff_not]
  omega
instance refcheck17_spec (l : List Int) (n : Int) : HasSpec Tryz.prog 161 [PV.ints l, PV.int n] (PV.int (errI (marksB l n) 2)) := by
  have jo := refmost_spec n
  cases hm : manyB n with
  | false =>
    rw [hm, if_neg (by simp)] at jo
    rw [show marksB l n = false by unfold marksB; rw [hm]; rfl]
    refine ⟨Spec.bound 0 rfl fun hl => ?_⟩; rw [List.length_map] at hl; refine Spec.ofR (h := fun F w0 => ?_)
    repeat' ((conv => whnf); first | refine Q.E ?_ | (refine Stk.both (fun hb => ?_) (fun hb => ?_) <;> (try simp only [lE] at hb))); all_goals (conv => whnf)
    (refine Q.r6 (h := ?_); repeat' (first | exact Q.r0 | refine Q.r1 ?_ ?_ | refine Q.r2 ?_ | exact Q.r7 | refine Q.r3 ?_ | refine Q.r4 ?_ | refine Q.r5 ?_))
  | true =>
    have hn : 3 ≤ n ∧ n ≤ 9 := by simpa [manyB] using hm
    rw [hm, if_pos rfl] at jo
    by_cases hl2 : (l.length : Int) = n
    · refine ⟨Spec.bound 0 rfl fun hl => ?_⟩; rw [List.length_map] at hl; refine Spec.ofR (h := fun F w0 => ?_)
      repeat' ((conv => whnf); first | refine Q.E ?_ | (refine Stk.both (fun hb => ?_) (fun hb => ?_) <;> (try simp only [lE] at hb))); all_goals (conv => whnf)
      refine Stk.loop (ι := Nat) (fun i => [(0, PV.ints l), (1, PV.int n), (5, PV.int (i : Nat))]) (fun _ => []) (fun i => i ≤ l.length ∧ ∀ r ∈ l.take i, noneB r = false) (fun i => l.length - i) 0 ⟨Nat.zero_le _, by simp⟩ (Weak.gc ⟨rfl, rfl, rfl, trivial⟩ trivial rfl rfl rfl) (fun i hi => ?_)
      obtain ⟨hi, hno⟩ := hi
      by_cases hlt : i < l.length
      · cases hr : noneB l[i] with
        | false =>
          have h2 := noneB_f.1 hr
          repeat' ((conv => whnf); first | refine Q.E ?_ | (refine Stk.both (fun hb => ?_) (fun hb => ?_) <;> (try simp only [lE] at hb))); all_goals (conv => whnf)
          exact ⟨i + 1, ⟨by omega, take_no hlt hno hr⟩, by omega, Weak.gc ⟨rfl, rfl, rfl, trivial⟩ trivial rfl rfl rfl⟩
        | true =>
          have h2 : l[i] < 0 ∨ 1000000 < l[i] := by simpa [noneB] using hr
          rw [marks_bad hlt hr]
          by_cases h3 : l[i] < 0
          · repeat' ((conv => whnf); first | refine Q.E ?_ | (refine Stk.both (fun hb => ?_) (fun hb => ?_) <;> (try simp only [lE] at hb))); all_goals (conv => whnf)
            (refine Q.r6 (h := ?_); repeat' (first | exact Q.r0 | refine Q.r1 ?_ ?_ | refine Q.r2 ?_ | exact Q.r7 | refine Q.r3 ?_ | refine Q.r4 ?_ | refine Q.r5 ?_))
          · repeat' ((conv => whnf); first | refine Q.E ?_ | (refine Stk.both (fun hb => ?_) (fun hb => ?_) <;> (try simp only [lE] at hb))); all_goals (conv => whnf)
            (refine Q.r6 (h := ?_); repeat' (first | exact Q.r0 | refine Q.r1 ?_ ?_ | refine Q.r2 ?_ | exact Q.r7 | refine Q.r3 ?_ | refine Q.r4 ?_ | refine Q.r5 ?_))
      · rw [marks_good hm hl2 (take_all (by omega) hno)]
        repeat' ((conv => whnf); first | refine Q.E ?_ | (refine Stk.both (fun hb => ?_) (fun hb => ?_) <;> (try simp only [lE] at hb))); all_goals (conv => whnf)
        (refine Q.r6 (h := ?_); repeat' (first | exact Q.r0 | refine Q.r1 ?_ ?_ | refine Q.r2 ?_ | exact Q.r7 | refine Q.r3 ?_ | refine Q.r4 ?_ | refine Q.r5 ?_))
    · rw [show marksB l n = false by unfold marksB; rw [decide_eq_false hl2, Bool.false_and, Bool.and_false]]
      refine ⟨Spec.bound 0 rfl fun hl => ?_⟩; rw [List.length_map] at hl; refine Spec.ofR (h := fun F w0 => ?_)
      repeat' ((conv => whnf); first | refine Q.E ?_ | (refine Stk.both (fun hb => ?_) (fun hb => ?_) <;> (try simp only [lE] at hb))); all_goals (conv => whnf)
      (refine Q.r6 (h := ?_); repeat' (first | exact Q.r0 | refine Q.r1 ?_ ?_ | refine Q.r2 ?_ | exact Q.r7 | refine Q.r3 ?_ | refine Q.r4 ?_ | refine Q.r5 ?_))
instance refcheck18_spec (m : List (List Int)) (n : Int) : HasSpec Tryz.prog 160 [PV.tab m, PV.int n] (PV.int (errI (tableB m n) 2)) := by
  by_cases hn : 3 ≤ n ∧ n ≤ 9
  · have hm : manyB n = true := by simpa [manyB] using hn
    by_cases hl2 : (m.length : Int) = n
    · refine ⟨Spec.bound 0 rfl fun hl => ?_⟩; rw [List.length_map] at hl; refine Spec.ofR (h := fun F w0 => ?_)
      repeat' ((conv => whnf); first | refine Q.E ?_ | (refine Stk.both (fun hb => ?_) (fun hb => ?_) <;> (try simp only [lE] at hb))); all_goals (conv => whnf)
      refine Stk.loop (ι := Nat) (fun i => [(0, PV.tab m), (1, PV.int n), (5, PV.int (i : Nat))]) (fun _ => []) (fun i => i ≤ m.length ∧ ∀ r ∈ m.take i, (!marksB r n) = false) (fun i => m.length - i) 0 ⟨Nat.zero_le _, by simp⟩ (Weak.gc ⟨rfl, rfl, rfl, trivial⟩ trivial rfl rfl rfl) (fun i hi => ?_)
      obtain ⟨hi, hno⟩ := hi
      by_cases hlt : i < m.length
      · have jc := refcheck17_spec m[i] n
        cases hr : marksB m[i] n with
        | true =>
          rw [hr] at jc
          repeat' ((conv => whnf); first | refine Q.E ?_ | (refine Stk.both (fun hb => ?_) (fun hb => ?_) <;> (try simp only [lE] at hb))); all_goals (conv => whnf)
          exact ⟨i + 1, ⟨by omega, take_no hlt hno (by rw [hr]; rfl)⟩, by omega, Weak.gc ⟨rfl, rfl, rfl, trivial⟩ trivial rfl rfl rfl⟩
        | false =>
          rw [hr] at jc
          rw [table_bad hlt hr]
          repeat' ((conv => whnf); first | refine Q.E ?_ | (refine Stk.both (fun hb => ?_) (fun hb => ?_) <;> (try simp only [lE] at hb))); all_goals (conv => whnf)
          (refine Q.r6 (h := ?_); repeat' (first | exact Q.r0 | refine Q.r1 ?_ ?_ | refine Q.r2 ?_ | exact Q.r7 | refine Q.r3 ?_ | refine Q.r4 ?_ | refine Q.r5 ?_))
      · rw [table_good hm hl2 (take_all (by omega) hno)]
        repeat' ((conv => whnf); first | refine Q.E ?_ | (refine Stk.both (fun hb => ?_) (fun hb => ?_) <;> (try simp only [lE] at hb))); all_goals (conv => whnf)
        (refine Q.r6 (h := ?_); repeat' (first | exact Q.r0 | refine Q.r1 ?_ ?_ | refine Q.r2 ?_ | exact Q.r7 | refine Q.r3 ?_ | refine Q.r4 ?_ | refine Q.r5 ?_))
    · rw [show tableB m n = false by unfold tableB; rw [decide_eq_false hl2, Bool.false_and, Bool.and_false]]
      refine ⟨Spec.bound 0 rfl fun hl => ?_⟩; rw [List.length_map] at hl; refine Spec.ofR (h := fun F w0 => ?_)
      repeat' ((conv => whnf); first | refine Q.E ?_ | (refine Stk.both (fun hb => ?_) (fun hb => ?_) <;> (try simp only [lE] at hb))); all_goals (conv => whnf)
      (refine Q.r6 (h := ?_); repeat' (first | exact Q.r0 | refine Q.r1 ?_ ?_ | refine Q.r2 ?_ | exact Q.r7 | refine Q.r3 ?_ | refine Q.r4 ?_ | refine Q.r5 ?_))
  · have hm : manyB n = false := by simpa [manyB] using hn
    rw [show tableB m n = false by unfold tableB; rw [hm]; rfl]
    by_cases h3 : n < 3
    · refine ⟨Spec.bound 0 rfl fun hl => ?_⟩; rw [List.length_map] at hl; refine Spec.ofR (h := fun F w0 => ?_)
      repeat' ((conv => whnf); first | refine Q.E ?_ | (refine Stk.both (fun hb => ?_) (fun hb => ?_) <;> (try simp only [lE] at hb))); all_goals (conv => whnf)
      (refine Q.r6 (h := ?_); repeat' (first | exact Q.r0 | refine Q.r1 ?_ ?_ | refine Q.r2 ?_ | exact Q.r7 | refine Q.r3 ?_ | refine Q.r4 ?_ | refine Q.r5 ?_))
    · refine ⟨Spec.bound 0 rfl fun hl => ?_⟩; rw [List.length_map] at hl; refine Spec.ofR (h := fun F w0 => ?_)
      repeat' ((conv => whnf); first | refine Q.E ?_ | (refine Stk.both (fun hb => ?_) (fun hb => ?_) <;> (try simp only [lE] at hb))); all_goals (conv => whnf)
      (refine Q.r6 (h := ?_); repeat' (first | exact Q.r0 | refine Q.r1 ?_ ?_ | refine Q.r2 ?_ | exact Q.r7 | refine Q.r3 ?_ | refine Q.r4 ?_ | refine Q.r5 ?_))
def fewT (m : List (List Int)) : Bool := decide (m.length ≤ 20) && m.all fun r => decide (r.length ≤ 20)
instance few18_spec (m : List (List Int)) : HasSpec Tryz.prog 44 [PV.tab m] (.v (.bool (fewT m))) := by
  by_cases h20 : m.length ≤ 20
  · refine ⟨Spec.bound 0 rfl fun hl => ?_⟩; rw [List.length_map] at hl; refine Spec.ofR (h := fun F w0 => ?_)
    repeat' ((conv => whnf); first | refine Q.E ?_ | (refine Stk.both (fun hb => ?_) (fun hb => ?_) <;> (try simp only [lE] at hb))); all_goals (conv => whnf)
    refine Stk.loop (ι := Nat) (fun i => [(0, PV.tab m), (3, PV.int (i : Nat))]) (fun _ => []) (fun i => i ≤ m.length ∧ ∀ r ∈ m.take i, (!decide (r.length ≤ 20)) = false) (fun i => m.length - i) 0 ⟨Nat.zero_le _, by simp⟩ (Weak.gc ⟨rfl, rfl, trivial⟩ trivial rfl rfl rfl) (fun i hi => ?_)
    obtain ⟨hi, hno⟩ := hi
    by_cases hlt : i < m.length
    · by_cases hr : m[i].length ≤ 20
      · repeat' ((conv => whnf); first | refine Q.E ?_ | (refine Stk.both (fun hb => ?_) (fun hb => ?_) <;> (try simp only [lE] at hb))); all_goals (conv => whnf)
        exact ⟨i + 1, ⟨by omega, take_no hlt hno (by rw [decide_eq_true hr]; rfl)⟩, by omega, Weak.gc ⟨rfl, rfl, trivial⟩ trivial rfl rfl rfl⟩
      · rw [show fewT m = false by unfold fewT; rw [show (m.all fun r => decide (r.length ≤ 20)) = false from List.all_eq_false.2 ⟨m[i], List.getElem_mem hlt, by rw [decide_eq_false hr]; simp⟩, Bool.and_false]]
        repeat' ((conv => whnf); first | refine Q.E ?_ | (refine Stk.both (fun hb => ?_) (fun hb => ?_) <;> (try simp only [lE] at hb))); all_goals (conv => whnf)
        (refine Q.r6 (h := ?_); repeat' (first | exact Q.r0 | refine Q.r1 ?_ ?_ | refine Q.r2 ?_ | exact Q.r7 | refine Q.r3 ?_ | refine Q.r4 ?_ | refine Q.r5 ?_))
    · rw [show fewT m = true by
        unfold fewT
        rw [decide_eq_true h20, show (m.all fun r => decide (r.length ≤ 20)) = true from List.all_eq_true.2 fun r hr => by simpa using take_all (by omega) hno r hr]
        rfl]
      repeat' ((conv => whnf); first | refine Q.E ?_ | (refine Stk.both (fun hb => ?_) (fun hb => ?_) <;> (try simp only [lE] at hb))); all_goals (conv => whnf)
      (refine Q.r6 (h := ?_); repeat' (first | exact Q.r0 | refine Q.r1 ?_ ?_ | refine Q.r2 ?_ | exact Q.r7 | refine Q.r3 ?_ | refine Q.r4 ?_ | refine Q.r5 ?_))
  · rw [show fewT m = false by unfold fewT; rw [decide_eq_false h20]; rfl]
    refine ⟨Spec.bound 0 rfl fun hl => ?_⟩; rw [List.length_map] at hl; refine Spec.ofR (h := fun F w0 => ?_)
    repeat' ((conv => whnf); first | refine Q.E ?_ | (refine Stk.both (fun hb => ?_) (fun hb => ?_) <;> (try simp only [lE] at hb))); all_goals (conv => whnf)
    (refine Q.r6 (h := ?_); repeat' (first | exact Q.r0 | refine Q.r1 ?_ ?_ | refine Q.r2 ?_ | exact Q.r7 | refine Q.r3 ?_ | refine Q.r4 ?_ | refine Q.r5 ?_))
end Go.Proofs.YtbjepdfnmbdplaaGreat
end
section
namespace Go.Proofs.YtbjepdfnmbdplaaGreat
open Go.RowKit
set_option linter.unusedSimpArgs false
set_option linter.unusedVariables false
set_option maxRecDepth 100000
set_option maxHeartbeats 1000000
section
variable {r : Rpl}
theorem rep_no1 (h : ¬ numsP r) : repB r = false := by unfold repB; rw [nums_no h]; rfl
theorem rep_no2 (h : clkB r.clock r.floor r.own = false) : repB r = false := by unfold repB numsB; rw [h]; simp
theorem rep_no3 (h : entsB r.entries = false) : repB r = false := by unfold repB cmdB; rw [h]; simp
theorem rep_no4 {i : Nat} (hi : i < r.entries.length) (h : r.n < selfI r.entries[i].id) : repB r = false := by unfold repB cmdB; rw [any_at (p := farB r.n) hi (decide_eq_true h)]; simp
theorem rep_no5 (h : ¬ (r.known.length : Int) = r.n) : repB r = false := by unfold repB hrsB; rw [decide_eq_false h]; simp
theorem rep_no6 {i : Nat} (hi : i < r.known.length) (h : knoB r.known[i] = false) : repB r = false := by unfold repB hrsB; rw [any_at (p := fun k => !knoB k) hi (by show (!knoB r.known[i]) = true; rw [h]; rfl)]; simp
theorem rep_no7 (h : tableB r.marks r.n = false) : repB r = false := by unfold repB hrsB; rw [h]; simp
theorem rep_no8 (h : marksB r.fronts r.n = false) : repB r = false := by unfold repB hrsB; rw [h]; simp
theorem rep_no9 (h : ¬ (r.done.length : Int) = r.n) : repB r = false := by unfold repB finB; rw [decide_eq_false h]; simp
theorem rep_no10 {i : Nat} (hi : i < r.done.length) (h : donB r.done[i] = false) : repB r = false := by unfold repB finB; rw [any_at (p := fun k => !donB k) hi (by show (!donB r.done[i]) = true; rw [h]; rfl)]; simp
theorem rep_no11 (h : attOk r.last = false) : repB r = false := by unfold repB finB; rw [h]; simp
theorem any_all {α : Type} {p : α → Bool} {l : List α} (h : ∀ x ∈ l, p x = false) : l.any p = false := List.any_eq_false.2 fun x hx => by rw [h x hx]; simp
theorem rep_of (h1 : numsP r) (h2 : clkB r.clock r.floor r.own = true) (h3 : entsB r.entries = true) (h4 : ∀ e ∈ r.entries, farB r.n e = false) (h5 : (r.known.length : Int) = r.n) (h6 : ∀ k ∈ r.known, (!knoB k) = false) (h7 : tableB r.marks r.n = true) (h8 : marksB r.fronts r.n = true) (h9 : (r.done.length : Int) = r.n) (h10 : ∀ l ∈ r.done, (!donB l) = false) (h11 : attOk r.last = true) : repB r = true := by
  unfold repB cmdB hrsB finB
  rw [nums_yes h1, h2, h3, any_all h4, decide_eq_true h5, any_all (p := fun k => !knoB k) h6, h7, h8, decide_eq_true h9, any_all (p := fun k => !donB k) h10, h11]
  rfl
end
theorem don_all {l : List Rng} (h : rngB l = true) (h2 : ∀ x ∈ l, decide (99999 < x.hi) = false) : donB l = true := by
  unfold donB
  rw [h, decide_eq_true (show lastHi l ≤ 99999 by
    unfold lastHi lastI
    split
    · rename_i a ha
      have := of_decide_eq_false (h2 a (List.mem_of_getLast? ha))
      omega
    · decide)]
  rfl
theorem rng_rise {l : List Rng} (h : rngB l = true) : ∀ (j : Nat) (hj : j < l.length) (i : Nat) (hi : i ≤ j), (l[i]'(by omega)).hi ≤ l[j].hi
  | 0, hj, i, hi => by
    obtain rfl : i = 0 := by omega
    exact Int.le_refl _
  | j + 1, hj, i, hi => by
    by_cases e : i = j + 1
    · subst e; exact Int.le_refl _
    · have h1 := rng_rise h j (by omega) i (by omega)
      unfold rngB at h
      rw [Bool.and_eq_true] at h
      have h2 := rngP_iff.1 (pref_at h.2 hj)
      rw [lastI_succ Rng.hi (-1) (by omega)] at h2
      omega
theorem don_bad {l : List Rng} (h : rngB l = true) {i : Nat} (hi : i < l.length) (h2 : 99999 < l[i].hi) : donB l = false := by
  have h1 := rng_rise h (l.length - 1) (by omega) i (by omega)
  unfold donB
  rw [h, lastHi_pos (by omega) (show l.length - 1 < l.length by omega) rfl, decide_eq_false (by omega)]
  rfl
theorem don_bad2 {l : List Rng} (h : rngB l = false) : donB l = false := by unfold donB; rw [h]; rfl
theorem rclkok {n f : Int} {own : List Att} (h : clkB n f own = true) : HasSpec Tryz.prog 158 [PV.int n, PV.int f, PV.atts own] (PV.int 0) := by have := refclk_spec n f own; rw [h] at this; exact this
theorem rclkbad {n f : Int} {own : List Att} (h : clkB n f own = false) : HasSpec Tryz.prog 158 [PV.int n, PV.int f, PV.atts own] (PV.int 2) := by have := refclk_spec n f own; rw [h] at this; exact this
theorem rtabok {l : List Ent} (h : entsB l = true) : HasSpec Tryz.prog 159 [PV.ents l] (PV.int 0) := by have := reftabcheck_spec l; rw [h] at this; exact this
theorem rtabbad {l : List Ent} (h : entsB l = false) : HasSpec Tryz.prog 159 [PV.ents l] (PV.int 2) := by have := reftabcheck_spec l; rw [h] at this; exact this
theorem rswok {m : List (List Int)} {n : Int} (h : tableB m n = true) : HasSpec Tryz.prog 160 [PV.tab m, PV.int n] (PV.int 0) := by have := refcheck18_spec m n; rw [h] at this; exact this
theorem rswbad {m : List (List Int)} {n : Int} (h : tableB m n = false) : HasSpec Tryz.prog 160 [PV.tab m, PV.int n] (PV.int 2) := by have := refcheck18_spec m n; rw [h] at this; exact this
theorem rstok {m : List Int} {n : Int} (h : marksB m n = true) : HasSpec Tryz.prog 161 [PV.ints m, PV.int n] (PV.int 0) := by have := refcheck17_spec m n; rw [h] at this; exact this
theorem rstbad {m : List Int} {n : Int} (h : marksB m n = false) : HasSpec Tryz.prog 161 [PV.ints m, PV.int n] (PV.int 2) := by have := refcheck17_spec m n; rw [h] at this; exact this
theorem rkck_yes {k : Kno} (h : knoB k = true) : HasSpec Tryz.prog 162 [.agg k.cs] (PV.int 0) := by have := refknocheck_spec k; rw [h] at this; exact this
theorem rkck_no {k : Kno} (h : knoB k = false) : HasSpec Tryz.prog 162 [.agg k.cs] (PV.int 2) := by have := refknocheck_spec k; rw [h] at this; exact this
theorem rsizeok {n f : Int} (h : sizeB n f = true) : HasSpec Tryz.prog 119 [PV.int n, PV.int f] (.tup [PV.int (n / 2 + f), PV.int (f + 1), PV.int (n - f)]) := by have := refsizes_spec n f; rw [h] at this; exact this
theorem rsizebad {n f : Int} (h : sizeB n f = false) : HasSpec Tryz.prog 119 [PV.int n, PV.int f] (.tup [PV.int 0, PV.int 0, PV.int 0]) := by have := refsizes_spec n f; rw [h] at this; exact this
instance refstatecheck_spec (r : Rpl) : HasSpec Tryz.prog 85 [.agg r.cs] (PV.int (errI (repB r) 2)) := by
  by_cases h : numsP r
  · have js := rsizeok (sizeB_p.2 ⟨h.1, h.2.1, h.2.2.1, h.2.2.2.1⟩)
    have hnp := h
    unfold numsP at h
    cases hk : clkB r.clock r.floor r.own with
    | false =>
      have jc := rclkbad hk
      rw [rep_no2 hk]
      refine ⟨?_⟩; refine Spec.ofR (h := fun F w0 => ?_)
      repeat' ((conv => whnf); first | refine Q.E ?_ | (refine Stk.both (fun hb => ?_) (fun hb => ?_) <;> (try simp only [lE] at hb))); all_goals (conv => whnf)
      (refine Q.r6 (h := ?_); repeat' (first | exact Q.r0 | refine Q.r1 ?_ ?_ | refine Q.r2 ?_ | exact Q.r7 | refine Q.r3 ?_ | refine Q.r4 ?_ | refine Q.r5 ?_))
    | true =>
      have jc := rclkok hk
      cases he : entsB r.entries with
      | false =>
        have je := rtabbad he
        rw [rep_no3 he]
        refine ⟨?_⟩; refine Spec.ofR (h := fun F w0 => ?_)
        repeat' ((conv => whnf); first | refine Q.E ?_ | (refine Stk.both (fun hb => ?_) (fun hb => ?_) <;> (try simp only [lE] at hb))); all_goals (conv => whnf)
        (refine Q.r6 (h := ?_); repeat' (first | exact Q.r0 | refine Q.r1 ?_ ?_ | refine Q.r2 ?_ | exact Q.r7 | refine Q.r3 ?_ | refine Q.r4 ?_ | refine Q.r5 ?_))
      | true =>
        have je := rtabok he
        have hl40 := (entsB_iff.1 he).1
        by_cases hkn : (r.known.length : Int) = r.n
        · cases ht : tableB r.marks r.n with
          | false =>
            have jt := rswbad ht
            rw [rep_no7 ht]
            refine ⟨?_⟩; refine Spec.ofR (h := fun F w0 => ?_)
            repeat' ((conv => whnf); first | refine Q.E ?_ | (refine Stk.both (fun hb => ?_) (fun hb => ?_) <;> (try simp only [lE] at hb))); all_goals (conv => whnf)
            (refine Q.r6 (h := ?_); repeat' (first | exact Q.r0 | refine Q.r1 ?_ ?_ | refine Q.r2 ?_ | exact Q.r7 | refine Q.r3 ?_ | refine Q.r4 ?_ | refine Q.r5 ?_))
          | true =>
            have jt := rswok ht
            cases hm : marksB r.fronts r.n with
            | false =>
              have jm := rstbad hm
              rw [rep_no8 hm]
              refine ⟨?_⟩; refine Spec.ofR (h := fun F w0 => ?_)
              repeat' ((conv => whnf); first | refine Q.E ?_ | (refine Stk.both (fun hb => ?_) (fun hb => ?_) <;> (try simp only [lE] at hb))); all_goals (conv => whnf)
              (refine Q.r6 (h := ?_); repeat' (first | exact Q.r0 | refine Q.r1 ?_ ?_ | refine Q.r2 ?_ | exact Q.r7 | refine Q.r3 ?_ | refine Q.r4 ?_ | refine Q.r5 ?_))
            | true =>
              have jm := rstok hm
              by_cases hdn : (r.done.length : Int) = r.n
              · refine ⟨?_⟩; refine Spec.ofR (h := fun F w0 => ?_)
                repeat' ((conv => whnf); first | refine Q.E ?_ | (refine Stk.both (fun hb => ?_) (fun hb => ?_) <;> (try simp only [lE] at hb))); all_goals (conv => whnf)
                refine Stk.loop (ι := Nat) (fun i => [(1, .lp 1 0), (6, PV.int (i : Nat))]) (fun i => [(1, .box r.cs)]) (fun i => i ≤ r.entries.length ∧ ∀ x ∈ r.entries.take i, farB r.n x = false) (fun i => r.entries.length - i) 0 ⟨Nat.zero_le _, by simp⟩ (Weak.gc ⟨rfl, rfl, trivial⟩ ⟨rfl, trivial⟩ rfl rfl rfl) (fun i hi => ?_)
                obtain ⟨hi, hno⟩ := hi
                by_cases hlt : i < r.entries.length
                · by_cases hq : r.n < selfI r.entries[i].id
                  · rw [rep_no4 hlt hq]
                    repeat' ((conv => whnf); first | refine Q.E ?_ | (refine Stk.both (fun hb => ?_) (fun hb => ?_) <;> (try simp only [lE] at hb))); all_goals (conv => whnf)
                    (refine Q.r6 (h := ?_); repeat' (first | exact Q.r0 | refine Q.r1 ?_ ?_ | refine Q.r2 ?_ | exact Q.r7 | refine Q.r3 ?_ | refine Q.r4 ?_ | refine Q.r5 ?_))
                  · repeat' ((conv => whnf); first | refine Q.E ?_ | (refine Stk.both (fun hb => ?_) (fun hb => ?_) <;> (try simp only [lE] at hb))); all_goals (conv => whnf)
                    exact ⟨i + 1, ⟨by omega, take_no hlt hno (decide_eq_false hq)⟩, by omega, Weak.gc ⟨rfl, rfl, trivial⟩ ⟨rfl, trivial⟩ rfl rfl rfl⟩
                · have hfar := take_all (by omega) hno
                  repeat' ((conv => whnf); first | refine Q.E ?_ | (refine Stk.both (fun hb => ?_) (fun hb => ?_) <;> (try simp only [lE] at hb))); all_goals (conv => whnf)
                  refine Stk.loop (ι := Nat) (fun i => [(1, .lp 1 0), (9, PV.int (i : Nat))]) (fun i => [(1, .box r.cs)]) (fun i => (i : Int) ≤ r.n ∧ (∀ x ∈ r.known.take i, (!knoB x) = false) ∧ ∀ x ∈ r.done.take i, (!donB x) = false) (fun i => r.n.toNat - i) 0 ⟨by simp; omega, by simp, by simp⟩ (Weak.gc ⟨rfl, rfl, trivial⟩ ⟨rfl, trivial⟩ rfl rfl rfl) (fun i hi => ?_)
                  obtain ⟨hi, hno1, hno2⟩ := hi
                  by_cases hlt : (i : Int) < r.n
                  · have hlk : i < r.known.length := by omega
                    have hld : i < r.done.length := by omega
                    cases hq : knoB r.known[i] with
                    | false =>
                      have jk := rkck_no hq
                      rw [rep_no6 hlk hq]
                      repeat' ((conv => whnf); first | refine Q.E ?_ | (refine Stk.both (fun hb => ?_) (fun hb => ?_) <;> (try simp only [lE] at hb))); all_goals (conv => whnf)
                      (refine Q.r6 (h := ?_); repeat' (first | exact Q.r0 | refine Q.r1 ?_ ?_ | refine Q.r2 ?_ | exact Q.r7 | refine Q.r3 ?_ | refine Q.r4 ?_ | refine Q.r5 ?_))
                    | true =>
                      have jk := rkck_yes hq
                      cases hr : rngB r.done[i] with
                      | false =>
                        have jr := rrck_no hr
                        rw [rep_no10 hld (don_bad2 hr)]
                        repeat' ((conv => whnf); first | refine Q.E ?_ | (refine Stk.both (fun hb => ?_) (fun hb => ?_) <;> (try simp only [lE] at hb))); all_goals (conv => whnf)
                        (refine Q.r6 (h := ?_); repeat' (first | exact Q.r0 | refine Q.r1 ?_ ?_ | refine Q.r2 ?_ | exact Q.r7 | refine Q.r3 ?_ | refine Q.r4 ?_ | refine Q.r5 ?_))
                      | true =>
                        have jr := rrck_yes hr
                        have hr1000 : r.done[i].length ≤ 1000 := by
                          have h2 := hr
                          unfold rngB at h2
                          rw [Bool.and_eq_true, decide_eq_true_iff] at h2
                          exact h2.1
                        repeat' ((conv => whnf); first | refine Q.E ?_ | (refine Stk.both (fun hb => ?_) (fun hb => ?_) <;> (try simp only [lE] at hb))); all_goals (conv => whnf)
                        refine Stk.loop (ι := Nat) (fun k => [(1, .lp 1 0), (9, PV.int (i : Nat)), (10, PV.int (k : Nat))]) (fun _ => [(1, .box r.cs)]) (fun k => k ≤ r.done[i].length ∧ ∀ x ∈ r.done[i].take k, decide (99999 < x.hi) = false) (fun k => r.done[i].length - k) 0 ⟨Nat.zero_le _, by simp⟩ (Weak.gc ⟨rfl, rfl, rfl, trivial⟩ ⟨rfl, trivial⟩ rfl rfl rfl) (fun k hk => ?_)
                        obtain ⟨hk, hno3⟩ := hk
                        by_cases hki : k < r.done[i].length
                        · by_cases hx : 99999 < (r.done[i][k]).hi
                          · rw [rep_no10 hld (don_bad hr hki hx)]
                            repeat' ((conv => whnf); first | refine Q.E ?_ | (refine Stk.both (fun hb => ?_) (fun hb => ?_) <;> (try simp only [lE] at hb))); all_goals (conv => whnf)
                            (refine Q.r6 (h := ?_); repeat' (first | exact Q.r0 | refine Q.r1 ?_ ?_ | refine Q.r2 ?_ | exact Q.r7 | refine Q.r3 ?_ | refine Q.r4 ?_ | refine Q.r5 ?_))
                          · repeat' ((conv => whnf); first | refine Q.E ?_ | (refine Stk.both (fun hb => ?_) (fun hb => ?_) <;> (try simp only [lE] at hb))); all_goals (conv => whnf)
                            exact ⟨k + 1, ⟨by omega, take_no hki hno3 (decide_eq_false hx)⟩, by omega, Weak.gc ⟨rfl, rfl, rfl, trivial⟩ ⟨rfl, trivial⟩ rfl rfl rfl⟩
                        · have hd := don_all hr (take_all (by omega) hno3)
                          repeat' ((conv => whnf); first | refine Q.E ?_ | (refine Stk.both (fun hb => ?_) (fun hb => ?_) <;> (try simp only [lE] at hb))); all_goals (conv => whnf)
                          exact ⟨i + 1, ⟨by omega, take_no (p := fun k => !knoB k) hlk hno1 (by show (!knoB r.known[i]) = false; rw [hq]; rfl), take_no (p := fun k => !donB k) hld hno2 (by show (!donB r.done[i]) = false; rw [hd]; rfl)⟩, by omega, Weak.gc ⟨rfl, rfl, trivial⟩ ⟨rfl, trivial⟩ rfl rfl rfl⟩
                  · have hk2 := take_all (p := fun k => !knoB k) (by omega) hno1
                    have hd2 := take_all (p := fun k => !donB k) (by omega) hno2
                    cases ha : attOk r.last with
                    | true =>
                      rw [rep_of hnp hk he hfar hkn hk2 ht hm hdn hd2 ha]
                      unfold attOk at ha
                      rw [Bool.or_eq_true, decide_eq_true_iff, Bool.and_eq_true, decide_eq_true_iff] at ha
                      have hs2 : r.last.t = 0 ∧ r.last.id = 0 ∨ 1 ≤ selfI r.last.id ∧ 1 ≤ r.last.t ∧ r.last.t ≤ 1000000 := ha.imp id fun h => ⟨(self_pos h.1).1, h.2⟩
                      repeat' ((conv => whnf); first | refine Q.E ?_ | (refine Stk.both (fun hb => ?_) (fun hb => ?_) <;> (try simp only [lE] at hb))); all_goals (conv => whnf)
                      all_goals first | (exfalso; omega) | (refine Q.r6 (h := ?_); repeat' (first | exact Q.r0 | refine Q.r1 ?_ ?_ | refine Q.r2 ?_ | exact Q.r7 | refine Q.r3 ?_ | refine Q.r4 ?_ | refine Q.r5 ?_))
                    | false =>
                      rw [rep_no11 ha]
                      unfold attOk at ha
                      rw [Bool.or_eq_false_iff, decide_eq_false_iff_not, Bool.and_eq_false_iff, decide_eq_false_iff_not] at ha
                      have hs2 : ¬ (r.last.t = 0 ∧ r.last.id = 0) ∧ (selfI r.last.id = 0 ∨ ¬ (1 ≤ r.last.t ∧ r.last.t ≤ 1000000)) := ⟨ha.1, ha.2.imp (fun h => self_none h) id⟩
                      repeat' ((conv => whnf); first | refine Q.E ?_ | (refine Stk.both (fun hb => ?_) (fun hb => ?_) <;> (try simp only [lE] at hb))); all_goals (conv => whnf)
                      all_goals first | (exfalso; omega) | (refine Q.r6 (h := ?_); repeat' (first | exact Q.r0 | refine Q.r1 ?_ ?_ | refine Q.r2 ?_ | exact Q.r7 | refine Q.r3 ?_ | refine Q.r4 ?_ | refine Q.r5 ?_))
              · rw [rep_no9 hdn]
                refine ⟨?_⟩; refine Spec.ofR (h := fun F w0 => ?_)
                repeat' ((conv => whnf); first | refine Q.E ?_ | (refine Stk.both (fun hb => ?_) (fun hb => ?_) <;> (try simp only [lE] at hb))); all_goals (conv => whnf)
                (refine Q.r6 (h := ?_); repeat' (first | exact Q.r0 | refine Q.r1 ?_ ?_ | refine Q.r2 ?_ | exact Q.r7 | refine Q.r3 ?_ | refine Q.r4 ?_ | refine Q.r5 ?_))
        · rw [rep_no5 hkn]
          refine ⟨?_⟩; refine Spec.ofR (h := fun F w0 => ?_)
          repeat' ((conv => whnf); first | refine Q.E ?_ | (refine Stk.both (fun hb => ?_) (fun hb => ?_) <;> (try simp only [lE] at hb))); all_goals (conv => whnf)
          (refine Q.r6 (h := ?_); repeat' (first | exact Q.r0 | refine Q.r1 ?_ ?_ | refine Q.r2 ?_ | exact Q.r7 | refine Q.r3 ?_ | refine Q.r4 ?_ | refine Q.r5 ?_))
  · rw [rep_no1 h]
    unfold numsP at h
    cases hs : sizeB r.n r.f with
    | false =>
      have js := rsizebad hs
      refine ⟨?_⟩; refine Spec.ofR (h := fun F w0 => ?_)
      repeat' ((conv => whnf); first | refine Q.E ?_ | (refine Stk.both (fun hb => ?_) (fun hb => ?_) <;> (try simp only [lE] at hb))); all_goals (conv => whnf)
      all_goals (refine Q.r6 (h := ?_); repeat' (first | exact Q.r0 | refine Q.r1 ?_ ?_ | refine Q.r2 ?_ | exact Q.r7 | refine Q.r3 ?_ | refine Q.r4 ?_ | refine Q.r5 ?_))
    | true =>
      have js := rsizeok hs
      have hs2 := sizeB_p.1 hs
      cases hk : clkB r.clock r.floor r.own with
      | false =>
        have jc := rclkbad hk
        refine ⟨?_⟩; refine Spec.ofR (h := fun F w0 => ?_)
        repeat' ((conv => whnf); first | refine Q.E ?_ | (refine Stk.both (fun hb => ?_) (fun hb => ?_) <;> (try simp only [lE] at hb))); all_goals (conv => whnf)
        all_goals first | (exfalso; omega) | (refine Q.r6 (h := ?_); repeat' (first | exact Q.r0 | refine Q.r1 ?_ ?_ | refine Q.r2 ?_ | exact Q.r7 | refine Q.r3 ?_ | refine Q.r4 ?_ | refine Q.r5 ?_))
      | true =>
        have jc := rclkok hk
        refine ⟨?_⟩; refine Spec.ofR (h := fun F w0 => ?_)
        repeat' ((conv => whnf); first | refine Q.E ?_ | (refine Stk.both (fun hb => ?_) (fun hb => ?_) <;> (try simp only [lE] at hb))); all_goals (conv => whnf)
        all_goals first | (exfalso; omega) | (refine Q.r6 (h := ?_); repeat' (first | exact Q.r0 | refine Q.r1 ?_ ?_ | refine Q.r2 ?_ | exact Q.r7 | refine Q.r3 ?_ | refine Q.r4 ?_ | refine Q.r5 ?_))
end Go.Proofs.YtbjepdfnmbdplaaGreat
end
section
namespace Go.Proofs.YtbjepdfnmbdplaaGreat
open Go.RowKit
set_option linter.unusedSimpArgs false
set_option linter.unusedVariables false
set_option maxRecDepth 100000
set_option maxHeartbeats 1000000
instance identseq_spec (id : Int) : HasSpec Tryz.prog 204 [PV.int id] (PV.int (seqI id)) := by
  cases e : idB id with
  | true =>
    have h := idB_iff.1 e
    have hc := idchk_yes e
    rw [show seqI id = id / 10 from if_pos e]
    refine ⟨?_⟩; refine Spec.ofR (h := fun F w0 => ?_)
    repeat' ((conv => whnf); first | refine Q.E ?_ | (refine Stk.both (fun hb => ?_) (fun hb => ?_) <;> (try simp only [lE] at hb))); all_goals (conv => whnf)
    (refine Q.r6 (h := ?_); repeat' (first | exact Q.r0 | refine Q.r1 ?_ ?_ | refine Q.r2 ?_ | exact Q.r7 | refine Q.r3 ?_ | refine Q.r4 ?_ | refine Q.r5 ?_))
  | false =>
    have hc := idchk_no e
    rw [show seqI id = 0 from if_neg (by rw [e]; simp)]
    refine ⟨?_⟩; refine Spec.ofR (h := fun F w0 => ?_)
    repeat' ((conv => whnf); first | refine Q.E ?_ | (refine Stk.both (fun hb => ?_) (fun hb => ?_) <;> (try simp only [lE] at hb))); all_goals (conv => whnf)
    (refine Q.r6 (h := ?_); repeat' (first | exact Q.r0 | refine Q.r1 ?_ ?_ | refine Q.r2 ?_ | exact Q.r7 | refine Q.r3 ?_ | refine Q.r4 ?_ | refine Q.r5 ?_))
theorem stok' {r : Rpl} (h : repB r = true) : HasSpec Tryz.prog 26 [.agg r.cs] (PV.int 0) := by have := statecheck_spec r; rw [h] at this; exact this
theorem stbad' {r : Rpl} (h : repB r = false) : HasSpec Tryz.prog 26 [.agg r.cs] (PV.int 2) := by have := statecheck_spec r; rw [h] at this; exact this
theorem rstok' {r : Rpl} (h : repB r = true) : HasSpec Tryz.prog 85 [.agg r.cs] (PV.int 0) := by have := refstatecheck_spec r; rw [h] at this; exact this
theorem rstbad' {r : Rpl} (h : repB r = false) : HasSpec Tryz.prog 85 [.agg r.cs] (PV.int 2) := by have := refstatecheck_spec r; rw [h] at this; exact this
theorem rep_nums {r : Rpl} (h : repB r = true) : numsP r := (nums_p (rep_parts h).1).1
theorem rep_done {r : Rpl} (h : repB r = true) : (r.done.length : Int) = r.n := by
  have := (rep_parts h).2.2.2
  unfold finB at this
  simp only [Bool.and_eq_true, decide_eq_true_eq] at this
  exact this.1.1
theorem doneAt_in {r : Rpl} {id : Int} (h : 1 ≤ selfI id ∧ selfI id ≤ r.n) {k : Nat} (hk : k < r.done.length) (e : k = (selfI id - 1).toNat) : doneAt r id = rhasB r.done[k] (seqI id) := by
  subst e
  unfold doneAt
  rw [decide_eq_true h, Bool.true_and, List.getD_eq_getElem?_getD, List.getElem?_eq_getElem hk]
  rfl
theorem doneAt_no {r : Rpl} {id : Int} (h : ¬ (1 ≤ selfI id ∧ selfI id ≤ r.n)) : doneAt r id = false := by unfold doneAt; rw [decide_eq_false h]; rfl
theorem self_ge (id : Int) : 0 ≤ selfI id ∧ selfI id ≤ 9 := by
  cases h : idB id with
  | true => have := self_pos h; omega
  | false => rw [self_none h]; omega
theorem donespec (r : Rpl) (id : Int) (hr : repB r = true) : HasSpec Tryz.prog 132 [.agg r.cs, PV.int id] (.v (.bool (doneAt r id))) := by
  have hl := rep_done hr
  have hs := self_ge id
  by_cases h : 1 ≤ selfI id ∧ selfI id ≤ r.n
  · have hk : (selfI id - 1).toNat < r.done.length := by omega
    rw [doneAt_in h hk rfl]
    refine ⟨?_⟩; refine Spec.ofR (h := fun F w0 => ?_)
    repeat' ((conv => whnf); first | refine Q.E ?_ | (refine Stk.both (fun hb => ?_) (fun hb => ?_) <;> (try simp only [lE] at hb))); all_goals (conv => whnf)
    (refine Q.r6 (h := ?_); repeat' (first | exact Q.r0 | refine Q.r1 ?_ ?_ | refine Q.r2 ?_ | exact Q.r7 | refine Q.r3 ?_ | refine Q.r4 ?_ | refine Q.r5 ?_))
  · rw [doneAt_no h]
    refine ⟨?_⟩; refine Spec.ofR (h := fun F w0 => ?_)
    repeat' ((conv => whnf); first | refine Q.E ?_ | (refine Stk.both (fun hb => ?_) (fun hb => ?_) <;> (try simp only [lE] at hb))); all_goals (conv => whnf)
    all_goals first | (exfalso; omega) | (refine Q.r6 (h := ?_); repeat' (first | exact Q.r0 | refine Q.r1 ?_ ?_ | refine Q.r2 ?_ | exact Q.r7 | refine Q.r3 ?_ | refine Q.r4 ?_ | refine Q.r5 ?_))
instance done_spec (r : Rpl) (id : Int) : HasSpec Tryz.prog 186 [.agg r.cs, PV.int id] (.v (.bool (doneB r id))) := by
  cases hr : repB r with
  | true =>
    have j1 := stok' hr
    have j2 := donespec r id hr
    rw [show doneB r id = doneAt r id by unfold doneB; rw [hr]; rfl]
    refine ⟨?_⟩; refine Spec.ofR (h := fun F w0 => ?_)
    repeat' ((conv => whnf); first | refine Q.E ?_ | (refine Stk.both (fun hb => ?_) (fun hb => ?_) <;> (try simp only [lE] at hb))); all_goals (conv => whnf)
    (refine Q.r6 (h := ?_); repeat' (first | exact Q.r0 | refine Q.r1 ?_ ?_ | refine Q.r2 ?_ | exact Q.r7 | refine Q.r3 ?_ | refine Q.r4 ?_ | refine Q.r5 ?_))
  | false =>
    have j1 := stbad' hr
    rw [show doneB r id = false by unfold doneB; rw [hr]; rfl]
    refine ⟨?_⟩; refine Spec.ofR (h := fun F w0 => ?_)
    repeat' ((conv => whnf); first | refine Q.E ?_ | (refine Stk.both (fun hb => ?_) (fun hb => ?_) <;> (try simp only [lE] at hb))); all_goals (conv => whnf)
    (refine Q.r6 (h := ?_); repeat' (first | exact Q.r0 | refine Q.r1 ?_ ?_ | refine Q.r2 ?_ | exact Q.r7 | refine Q.r3 ?_ | refine Q.r4 ?_ | refine Q.r5 ?_))
instance refdone_spec (r : Rpl) (id : Int) : HasSpec Tryz.prog 137 [.agg r.cs, PV.int id] (.v (.bool (doneB r id))) := by
  have hs := self_ge id
  cases hr : repB r with
  | true =>
    have j1 := rstok' hr
    have hl := rep_done hr
    rw [show doneB r id = doneAt r id by unfold doneB; rw [hr]; rfl]
    by_cases h : 1 ≤ selfI id ∧ selfI id ≤ r.n
    · have hk : (selfI id - 1).toNat < r.done.length := by omega
      rw [doneAt_in h hk rfl]
      refine ⟨?_⟩; refine Spec.ofR (h := fun F w0 => ?_)
      repeat' ((conv => whnf); first | refine Q.E ?_ | (refine Stk.both (fun hb => ?_) (fun hb => ?_) <;> (try simp only [lE] at hb))); all_goals (conv => whnf)
      (refine Q.r6 (h := ?_); repeat' (first | exact Q.r0 | refine Q.r1 ?_ ?_ | refine Q.r2 ?_ | exact Q.r7 | refine Q.r3 ?_ | refine Q.r4 ?_ | refine Q.r5 ?_))
    · rw [doneAt_no h]
      refine ⟨?_⟩; refine Spec.ofR (h := fun F w0 => ?_)
      repeat' ((conv => whnf); first | refine Q.E ?_ | (refine Stk.both (fun hb => ?_) (fun hb => ?_) <;> (try simp only [lE] at hb))); all_goals (conv => whnf)
      all_goals first | (exfalso; omega) | (refine Q.r6 (h := ?_); repeat' (first | exact Q.r0 | refine Q.r1 ?_ ?_ | refine Q.r2 ?_ | exact Q.r7 | refine Q.r3 ?_ | refine Q.r4 ?_ | refine Q.r5 ?_))
  | false =>
    have j1 := rstbad' hr
    rw [show doneB r id = false by unfold doneB; rw [hr]; rfl]
    refine ⟨?_⟩; refine Spec.ofR (h := fun F w0 => ?_)
    repeat' ((conv => whnf); first | refine Q.E ?_ | (refine Stk.both (fun hb => ?_) (fun hb => ?_) <;> (try simp only [lE] at hb))); all_goals (conv => whnf)
    (refine Q.r6 (h := ?_); repeat' (first | exact Q.r0 | refine Q.r1 ?_ ?_ | refine Q.r2 ?_ | exact Q.r7 | refine Q.r3 ?_ | refine Q.r4 ?_ | refine Q.r5 ?_))
theorem rputX_no {r : Rpl} {e : Ent} (h : ¬ (repB r = true ∧ 1 ≤ selfI e.id ∧ selfI e.id ≤ r.n)) : rputX r e = 2 := if_pos h
theorem rputX_done {r : Rpl} {e : Ent} (h : repB r = true ∧ 1 ≤ selfI e.id ∧ selfI e.id ≤ r.n) (h2 : doneAt r e.id = true ∧ e.phase ≠ 6) : rputX r e = 33 := (if_neg (not_not_intro h)).trans (if_pos h2)
theorem rputX_put {r : Rpl} {e : Ent} (h : repB r = true ∧ 1 ≤ selfI e.id ∧ selfI e.id ≤ r.n) (h2 : ¬ (doneAt r e.id = true ∧ e.phase ≠ 6)) : rputX r e = putX r.entries e := (if_neg (not_not_intro h)).trans (if_neg h2)
theorem rputR_no {r : Rpl} {e : Ent} (h : rputX r e ≠ 0) : rputR r e = r := if_neg h
theorem rputR_yes {r : Rpl} {e : Ent} (h : rputX r e = 0) : rputR r e = { r with entries := putE r.entries e } := if_pos h
instance put_spec (r : Rpl) (e : Ent) : HasSpec Tryz.prog 54 [.agg r.cs, .agg e.cs] (.tup [.agg (rputR r e).cs, PV.int (rputX r e)]) := by
  have hs := self_ge e.id
  cases hr : repB r with
  | false =>
    have j1 := stbad' hr
    have hx : rputX r e = 2 := rputX_no (by rw [hr]; simp)
    rw [rputR_no (by rw [hx]; decide), hx]
    refine ⟨?_⟩; refine Spec.ofR (h := fun F w0 => ?_)
    repeat' ((conv => whnf); first | refine Q.E ?_ | (refine Stk.both (fun hb => ?_) (fun hb => ?_) <;> (try simp only [lE] at hb))); all_goals (conv => whnf)
    (refine Q.r6 (h := ?_); repeat' (first | exact Q.r0 | refine Q.r1 ?_ ?_ | refine Q.r2 ?_ | exact Q.r7 | refine Q.r3 ?_ | refine Q.r4 ?_ | refine Q.r5 ?_))
  | true =>
    have j1 := stok' hr
    have j2 := donespec r e.id hr
    by_cases h : 1 ≤ selfI e.id ∧ selfI e.id ≤ r.n
    · by_cases hd : doneAt r e.id = true ∧ e.phase ≠ 6
      · have hx := rputX_done ⟨hr, h⟩ hd
        rw [rputR_no (by rw [hx]; decide), hx]
        rw [hd.1] at j2
        have hp := hd.2
        refine ⟨?_⟩; refine Spec.ofR (h := fun F w0 => ?_)
        repeat' ((conv => whnf); first | refine Q.E ?_ | (refine Stk.both (fun hb => ?_) (fun hb => ?_) <;> (try simp only [lE] at hb))); all_goals (conv => whnf)
        (refine Q.r6 (h := ?_); repeat' (first | exact Q.r0 | refine Q.r1 ?_ ?_ | refine Q.r2 ?_ | exact Q.r7 | refine Q.r3 ?_ | refine Q.r4 ?_ | refine Q.r5 ?_))
      · have hx := rputX_put ⟨hr, h⟩ hd
        have jt := tableput_spec r.entries e
        by_cases h0 : putX r.entries e = 0
        · rw [rputR_yes (by rw [hx]; exact h0), hx, h0]
          rw [putL_yes h0, h0] at jt
          generalize putE r.entries e = L at *
          cases hda : doneAt r e.id with
          | false =>
            rw [hda] at j2
            refine ⟨?_⟩; refine Spec.ofR (h := fun F w0 => ?_)
            repeat' ((conv => whnf); first | refine Q.E ?_ | (refine Stk.both (fun hb => ?_) (fun hb => ?_) <;> (try simp only [lE] at hb))); all_goals (conv => whnf)
            (refine Q.r6 (h := ?_); repeat' (first | exact Q.r0 | refine Q.r1 ?_ ?_ | refine Q.r2 ?_ | exact Q.r7 | refine Q.r3 ?_ | refine Q.r4 ?_ | refine Q.r5 ?_))
          | true =>
            rw [hda] at j2
            have hp : e.phase = 6 := by
              rw [hda] at hd
              simpa using hd
            refine ⟨?_⟩; refine Spec.ofR (h := fun F w0 => ?_)
            repeat' ((conv => whnf); first | refine Q.E ?_ | (refine Stk.both (fun hb => ?_) (fun hb => ?_) <;> (try simp only [lE] at hb))); all_goals (conv => whnf)
            (refine Q.r6 (h := ?_); repeat' (first | exact Q.r0 | refine Q.r1 ?_ ?_ | refine Q.r2 ?_ | exact Q.r7 | refine Q.r3 ?_ | refine Q.r4 ?_ | refine Q.r5 ?_))
        · rw [rputR_no (by rw [hx]; exact h0), hx]
          generalize putX r.entries e = x at *
          generalize putL21 r.entries e = L at *
          cases hda : doneAt r e.id with
          | false =>
            rw [hda] at j2
            refine ⟨?_⟩; refine Spec.ofR (h := fun F w0 => ?_)
            repeat' ((conv => whnf); first | refine Q.E ?_ | (refine Stk.both (fun hb => ?_) (fun hb => ?_) <;> (try simp only [lE] at hb))); all_goals (conv => whnf)
            (refine Q.r6 (h := ?_); repeat' (first | exact Q.r0 | refine Q.r1 ?_ ?_ | refine Q.r2 ?_ | exact Q.r7 | refine Q.r3 ?_ | refine Q.r4 ?_ | refine Q.r5 ?_))
          | true =>
            rw [hda] at j2
            have hp : e.phase = 6 := by
              rw [hda] at hd
              simpa using hd
            refine ⟨?_⟩; refine Spec.ofR (h := fun F w0 => ?_)
            repeat' ((conv => whnf); first | refine Q.E ?_ | (refine Stk.both (fun hb => ?_) (fun hb => ?_) <;> (try simp only [lE] at hb))); all_goals (conv => whnf)
            (refine Q.r6 (h := ?_); repeat' (first | exact Q.r0 | refine Q.r1 ?_ ?_ | refine Q.r2 ?_ | exact Q.r7 | refine Q.r3 ?_ | refine Q.r4 ?_ | refine Q.r5 ?_))
    · have hx : rputX r e = 2 := rputX_no (fun h' => h h'.2)
      rw [rputR_no (by rw [hx]; decide), hx]
      refine ⟨?_⟩; refine Spec.ofR (h := fun F w0 => ?_)
      repeat' ((conv => whnf); first | refine Q.E ?_ | (refine Stk.both (fun hb => ?_) (fun hb => ?_) <;> (try simp only [lE] at hb))); all_goals (conv => whnf)
      all_goals first | (exfalso; omega) | (refine Q.r6 (h := ?_); repeat' (first | exact Q.r0 | refine Q.r1 ?_ ?_ | refine Q.r2 ?_ | exact Q.r7 | refine Q.r3 ?_ | refine Q.r4 ?_ | refine Q.r5 ?_))
instance refput_spec (r : Rpl) (e : Ent) : HasSpec Tryz.prog 61 [.agg r.cs, .agg e.cs] (.tup [.agg (rputR r e).cs, PV.int (rputX r e)]) := by
  have hs := self_ge e.id
  cases hr : repB r with
  | false =>
    have j1 := rstbad' hr
    have hx : rputX r e = 2 := rputX_no (by rw [hr]; simp)
    rw [rputR_no (by rw [hx]; decide), hx]
    refine ⟨?_⟩; refine Spec.ofR (h := fun F w0 => ?_)
    repeat' ((conv => whnf); first | refine Q.E ?_ | (refine Stk.both (fun hb => ?_) (fun hb => ?_) <;> (try simp only [lE] at hb))); all_goals (conv => whnf)
    (refine Q.r6 (h := ?_); repeat' (first | exact Q.r0 | refine Q.r1 ?_ ?_ | refine Q.r2 ?_ | exact Q.r7 | refine Q.r3 ?_ | refine Q.r4 ?_ | refine Q.r5 ?_))
  | true =>
    have j1 := rstok' hr
    have j2 := refdone_spec r e.id
    rw [show doneB r e.id = doneAt r e.id by unfold doneB; rw [hr]; rfl] at j2
    by_cases h : 1 ≤ selfI e.id ∧ selfI e.id ≤ r.n
    · by_cases hd : doneAt r e.id = true ∧ e.phase ≠ 6
      · have hx := rputX_done ⟨hr, h⟩ hd
        rw [rputR_no (by rw [hx]; decide), hx]
        rw [hd.1] at j2
        have hp := hd.2
        refine ⟨?_⟩; refine Spec.ofR (h := fun F w0 => ?_)
        repeat' ((conv => whnf); first | refine Q.E ?_ | (refine Stk.both (fun hb => ?_) (fun hb => ?_) <;> (try simp only [lE] at hb))); all_goals (conv => whnf)
        (refine Q.r6 (h := ?_); repeat' (first | exact Q.r0 | refine Q.r1 ?_ ?_ | refine Q.r2 ?_ | exact Q.r7 | refine Q.r3 ?_ | refine Q.r4 ?_ | refine Q.r5 ?_))
      · have hx := rputX_put ⟨hr, h⟩ hd
        have jt := reftabput_spec r.entries e
        by_cases h0 : putX r.entries e = 0
        · rw [rputR_yes (by rw [hx]; exact h0), hx, h0]
          rw [putL_yes h0, h0] at jt
          generalize putE r.entries e = L at *
          cases hda : doneAt r e.id with
          | false =>
            rw [hda] at j2
            refine ⟨?_⟩; refine Spec.ofR (h := fun F w0 => ?_)
            repeat' ((conv => whnf); first | refine Q.E ?_ | (refine Stk.both (fun hb => ?_) (fun hb => ?_) <;> (try simp only [lE] at hb))); all_goals (conv => whnf)
            (refine Q.r6 (h := ?_); repeat' (first | exact Q.r0 | refine Q.r1 ?_ ?_ | refine Q.r2 ?_ | exact Q.r7 | refine Q.r3 ?_ | refine Q.r4 ?_ | refine Q.r5 ?_))
          | true =>
            rw [hda] at j2
            have hp : e.phase = 6 := by
              rw [hda] at hd
              simpa using hd
            refine ⟨?_⟩; refine Spec.ofR (h := fun F w0 => ?_)
            repeat' ((conv => whnf); first | refine Q.E ?_ | (refine Stk.both (fun hb => ?_) (fun hb => ?_) <;> (try simp only [lE] at hb))); all_goals (conv => whnf)
            (refine Q.r6 (h := ?_); repeat' (first | exact Q.r0 | refine Q.r1 ?_ ?_ | refine Q.r2 ?_ | exact Q.r7 | refine Q.r3 ?_ | refine Q.r4 ?_ | refine Q.r5 ?_))
        · rw [rputR_no (by rw [hx]; exact h0), hx]
          generalize putX r.entries e = x at *
          generalize putL21 r.entries e = L at *
          cases hda : doneAt r e.id with
          | false =>
            rw [hda] at j2
            refine ⟨?_⟩; refine Spec.ofR (h := fun F w0 => ?_)
            repeat' ((conv => whnf); first | refine Q.E ?_ | (refine Stk.both (fun hb => ?_) (fun hb => ?_) <;> (try simp only [lE] at hb))); all_goals (conv => whnf)
            (refine Q.r6 (h := ?_); repeat' (first | exact Q.r0 | refine Q.r1 ?_ ?_ | refine Q.r2 ?_ | exact Q.r7 | refine Q.r3 ?_ | refine Q.r4 ?_ | refine Q.r5 ?_))
          | true =>
            rw [hda] at j2
            have hp : e.phase = 6 := by
              rw [hda] at hd
              simpa using hd
            refine ⟨?_⟩; refine Spec.ofR (h := fun F w0 => ?_)
            repeat' ((conv => whnf); first | refine Q.E ?_ | (refine Stk.both (fun hb => ?_) (fun hb => ?_) <;> (try simp only [lE] at hb))); all_goals (conv => whnf)
            (refine Q.r6 (h := ?_); repeat' (first | exact Q.r0 | refine Q.r1 ?_ ?_ | refine Q.r2 ?_ | exact Q.r7 | refine Q.r3 ?_ | refine Q.r4 ?_ | refine Q.r5 ?_))
    · have hx : rputX r e = 2 := rputX_no (fun h' => h h'.2)
      rw [rputR_no (by rw [hx]; decide), hx]
      refine ⟨?_⟩; refine Spec.ofR (h := fun F w0 => ?_)
      repeat' ((conv => whnf); first | refine Q.E ?_ | (refine Stk.both (fun hb => ?_) (fun hb => ?_) <;> (try simp only [lE] at hb))); all_goals (conv => whnf)
      all_goals first | (exfalso; omega) | (refine Q.r6 (h := ?_); repeat' (first | exact Q.r0 | refine Q.r1 ?_ ?_ | refine Q.r2 ?_ | exact Q.r7 | refine Q.r3 ?_ | refine Q.r4 ?_ | refine Q.r5 ?_))
end Go.Proofs.YtbjepdfnmbdplaaGreat
end
