/- Texts joined by wip/gen/kpack.py: U43 U44 U45 S07 S08 D03 S30 S31 S34 U46 U47 U48 D31 U49 U50 U51 D25 U52 U53 U54 U55 U56 U27 U28. -/
import Derived.Test.YtbjepdfnmbdplaaGreatKB6
section
namespace Go.Proofs.YtbjepdfnmbdplaaGreat
open Go.RowKit
set_option linter.unusedSimpArgs false
set_option linter.unusedVariables false
set_option maxRecDepth 100000
set_option maxHeartbeats 2000000
open Classical in
noncomputable def timX (r : Rpl) (id least : Int) : Int := if repB r = true then propsX r.clock r.own id least else 2
open Classical in
noncomputable def timR (r : Rpl) (id least : Int) : Rpl := if timX r id least = 0 then { r with clock := propsT r.clock r.own id least, own := propsL r.clock r.own id least } else r
open Classical in
noncomputable def timT (r : Rpl) (id least : Int) : Int := if timX r id least = 0 then propsT r.clock r.own id least else 0
theorem tim_no {r : Rpl} {id least : Int} (h : timX r id least ≠ 0) : timR r id least = r ∧ timT r id least = 0 := ⟨if_neg h, if_neg h⟩
theorem tim_yes {r : Rpl} {id least : Int} (h : timX r id least = 0) : timR r id least = { r with clock := propsT r.clock r.own id least, own := propsL r.clock r.own id least } ∧ timT r id least = propsT r.clock r.own id least := ⟨if_pos h, if_pos h⟩
theorem stk_yes {r : Rpl} (h : repB r = true) : HasSpec Tryz.prog 26 [.agg r.cs] (PV.int 0) := by have := statecheck_spec r; rw [h] at this; exact this
theorem stk_no {r : Rpl} (h : repB r = false) : HasSpec Tryz.prog 26 [.agg r.cs] (PV.int 2) := by have := statecheck_spec r; rw [h] at this; exact this
theorem rstk_yes {r : Rpl} (h : repB r = true) : HasSpec Tryz.prog 85 [.agg r.cs] (PV.int 0) := by have := refstatecheck_spec r; rw [h] at this; exact this
theorem rstk_no {r : Rpl} (h : repB r = false) : HasSpec Tryz.prog 85 [.agg r.cs] (PV.int 2) := by have := refstatecheck_spec r; rw [h] at this; exact this
instance timed_spec (r : Rpl) (id least : Int) : HasSpec Tryz.prog 197 [.agg r.cs, PV.int id, PV.int least] (.tup [.agg (timR r id least).cs, PV.int (timT r id least), PV.int (timX r id least)]) := by
  cases h : repB r with
  | false =>
    have hX : timX r id least = 2 := if_neg (by rw [h]; simp)
    rw [hX, (tim_no (by rw [hX]; omega)).1, (tim_no (by rw [hX]; omega)).2]
    have j0 := stk_no h
    refine ⟨?_⟩; refine Spec.ofR (h := fun F w0 => ?_)
    repeat' ((conv => whnf); first | refine Q.E ?_ | (refine Stk.both (fun hb => ?_) (fun hb => ?_) <;> (try simp only [lE] at hb))); all_goals (conv => whnf)
    (refine Q.r6 (h := ?_); repeat' (first | exact Q.r0 | refine Q.r1 ?_ ?_ | refine Q.r2 ?_ | exact Q.r7 | refine Q.r3 ?_ | refine Q.r4 ?_ | refine Q.r5 ?_))
  | true =>
    have hX : timX r id least = propsX r.clock r.own id least := if_pos h
    have j0 := stk_yes h
    have j1 := propose15_spec r.clock r.own id least
    by_cases h0 : timX r id least = 0
    · rw [h0, (tim_yes h0).1, (tim_yes h0).2]
      rw [← hX, h0] at j1
      generalize propsT r.clock r.own id least = t at *
      generalize propsL r.clock r.own id least = l at *
      refine ⟨?_⟩; refine Spec.ofR (h := fun F w0 => ?_)
      repeat' ((conv => whnf); first | refine Q.E ?_ | (refine Stk.both (fun hb => ?_) (fun hb => ?_) <;> (try simp only [lE] at hb))); all_goals (conv => whnf)
      (refine Q.r6 (h := ?_); repeat' (first | exact Q.r0 | refine Q.r1 ?_ ?_ | refine Q.r2 ?_ | exact Q.r7 | refine Q.r3 ?_ | refine Q.r4 ?_ | refine Q.r5 ?_))
    · rw [(tim_no h0).1, (tim_no h0).2]
      rw [← hX] at j1
      generalize timX r id least = x at *
      generalize propsT r.clock r.own id least = t at *
      generalize propsL r.clock r.own id least = l at *
      refine ⟨?_⟩; refine Spec.ofR (h := fun F w0 => ?_)
      repeat' ((conv => whnf); first | refine Q.E ?_ | (refine Stk.both (fun hb => ?_) (fun hb => ?_) <;> (try simp only [lE] at hb))); all_goals (conv => whnf)
      (refine Q.r6 (h := ?_); repeat' (first | exact Q.r0 | refine Q.r1 ?_ ?_ | refine Q.r2 ?_ | exact Q.r7 | refine Q.r3 ?_ | refine Q.r4 ?_ | refine Q.r5 ?_))
instance time26_spec (r : Rpl) (id least : Int) : HasSpec Tryz.prog 112 [.agg r.cs, PV.int id, PV.int least] (.tup [.agg (timR r id least).cs, PV.int (timT r id least), .v (.bool (tst (timX r id least = 0)))]) := by
  have j1 := timed_spec r id least
  generalize timR r id least = s at *
  generalize timT r id least = t at *
  generalize timX r id least = x at *
  refine ⟨?_⟩; refine Spec.ofR (h := fun F w0 => ?_)
  repeat' ((conv => whnf); first | refine Q.E ?_ | (refine Stk.both (fun hb => ?_) (fun hb => ?_) <;> (try simp only [lE] at hb))); all_goals (conv => whnf)
  (refine Q.r6 (h := ?_); repeat' (first | exact Q.r0 | refine Q.r1 ?_ ?_ | refine Q.r2 ?_ | exact Q.r7 | refine Q.r3 ?_ | refine Q.r4 ?_ | refine Q.r5 ?_))
instance reftimed_spec (r : Rpl) (id least : Int) : HasSpec Tryz.prog 116 [.agg r.cs, PV.int id, PV.int least] (.tup [.agg (timR r id least).cs, PV.int (timT r id least), PV.int (timX r id least)]) := by
  cases h : repB r with
  | false =>
    have hX : timX r id least = 2 := if_neg (by rw [h]; simp)
    rw [hX, (tim_no (by rw [hX]; omega)).1, (tim_no (by rw [hX]; omega)).2]
    have j0 := rstk_no h
    refine ⟨?_⟩; refine Spec.ofR (h := fun F w0 => ?_)
    repeat' ((conv => whnf); first | refine Q.E ?_ | (refine Stk.both (fun hb => ?_) (fun hb => ?_) <;> (try simp only [lE] at hb))); all_goals (conv => whnf)
    (refine Q.r6 (h := ?_); repeat' (first | exact Q.r0 | refine Q.r1 ?_ ?_ | refine Q.r2 ?_ | exact Q.r7 | refine Q.r3 ?_ | refine Q.r4 ?_ | refine Q.r5 ?_))
  | true =>
    have hX : timX r id least = propsX r.clock r.own id least := if_pos h
    have j0 := rstk_yes h
    have j1 := refpropose15_spec r.clock r.own id least
    by_cases h0 : timX r id least = 0
    · rw [h0, (tim_yes h0).1, (tim_yes h0).2]
      rw [← hX, h0] at j1
      generalize propsT r.clock r.own id least = t at *
      generalize propsL r.clock r.own id least = l at *
      refine ⟨?_⟩; refine Spec.ofR (h := fun F w0 => ?_)
      repeat' ((conv => whnf); first | refine Q.E ?_ | (refine Stk.both (fun hb => ?_) (fun hb => ?_) <;> (try simp only [lE] at hb))); all_goals (conv => whnf)
      (refine Q.r6 (h := ?_); repeat' (first | exact Q.r0 | refine Q.r1 ?_ ?_ | refine Q.r2 ?_ | exact Q.r7 | refine Q.r3 ?_ | refine Q.r4 ?_ | refine Q.r5 ?_))
    · rw [(tim_no h0).1, (tim_no h0).2]
      rw [← hX] at j1
      generalize timX r id least = x at *
      generalize propsT r.clock r.own id least = t at *
      generalize propsL r.clock r.own id least = l at *
      refine ⟨?_⟩; refine Spec.ofR (h := fun F w0 => ?_)
      repeat' ((conv => whnf); first | refine Q.E ?_ | (refine Stk.both (fun hb => ?_) (fun hb => ?_) <;> (try simp only [lE] at hb))); all_goals (conv => whnf)
      (refine Q.r6 (h := ?_); repeat' (first | exact Q.r0 | refine Q.r1 ?_ ?_ | refine Q.r2 ?_ | exact Q.r7 | refine Q.r3 ?_ | refine Q.r4 ?_ | refine Q.r5 ?_))
end Go.Proofs.YtbjepdfnmbdplaaGreat
end
section
namespace Go.Proofs.YtbjepdfnmbdplaaGreat
open Go.RowKit
set_option linter.unusedSimpArgs false
set_option linter.unusedVariables false
set_option maxRecDepth 100000
set_option maxHeartbeats 4000000
def edgeL : List (List PV) := [[PV.int 0, PV.int 1, PV.int 1], [PV.int 0, PV.int 2, PV.int 2], [PV.int 0, PV.int 3, PV.int 4], [PV.int 0, PV.int 4, PV.int 5], [PV.int 1, PV.int 2, PV.int 2], [PV.int 1, PV.int 3, PV.int 4], [PV.int 1, PV.int 4, PV.int 5], [PV.int 2, PV.int 3, PV.int 3], [PV.int 2, PV.int 4, PV.int 5], [PV.int 3, PV.int 3, PV.int 3], [PV.int 3, PV.int 4, PV.int 5], [PV.int 4, PV.int 3, PV.int 4], [PV.int 4, PV.int 4, PV.int 5], [PV.int 5, PV.int 5, PV.int 6]]
instance edges_spec : HasSpec Tryz.prog 251 [] (.sl 3 edgeL) := by
  unfold edgeL
  refine ⟨?_⟩; refine Spec.ofR (h := fun F w0 => ?_)
  repeat' ((conv => whnf); first | refine Q.a ?_ | refine Q.b ?_ | refine Q.c ?_ | refine Stk.is (by first | assumption | ((try simp only [lE]); first | done | assumption | omega)) ?_ | refine Stk.isnt (by first | assumption | ((try simp only [lE]); first | done | assumption | omega)) ?_ | (refine Stk.both (fun hb => ?_) (fun hb => ?_) <;> (try simp only [lE] at hb)) | refine Q.d ?_ | refine Q.e ?_ | refine Q.f ?_ | refine Q.g ?_ | refine Q.h ?_ | refine Q.i ?_ | refine Q.j ?_ | refine Q.k ?_ | refine Q.l ?_ | refine Q.m ?_ | refine Q.n ?_ | refine Q.o (h := ?_) | refine Q.p (h := ?_) | refine Q.q ?_ | refine Q.r ?_ | refine Q.s ?_ | refine Q.t ?_ | refine Q.u ?_ | refine Q.v ?_ | refine Q.w ?_ | refine Q.x ?_ | refine Q.y ?_ | refine Q.z ?_ | refine Stk.inl (h := fun tm => ?_) | refine Stk.inl0 (h := fun tm => ?_) | refine DefG.go (h := fun vs us => ?_) | intro (tm : Array Value) | refine Stk.op (ok_buildA rfl rfl rfl rfl) ?_ | refine Stk.scope ?_); all_goals (conv => whnf)
  (refine Q.r6 (h := ?_); repeat' (first | exact Q.r0 | refine Q.r1 ?_ ?_ | refine Q.r2 ?_ | exact Q.r7 | refine Q.r3 ?_ | refine Q.r4 ?_ | refine Q.r5 ?_))
theorem refnext3_at (p q : Int) (h : (p = 1 ∧ q = 4) ∨ (p = 2 ∧ q = 3) ∨ (p = 3 ∧ q = 3) ∨ (p = 4 ∧ q = 4)) : HasSpec Tryz.prog 200 [PV.int p, PV.int 3] (.tup [PV.int q, PV.int 0]) := by
  have j1 := edges_spec
  have hl : edgeL.length = 14 := rfl
  rcases h with ⟨rfl, rfl⟩ | ⟨rfl, rfl⟩ | ⟨rfl, rfl⟩ | ⟨rfl, rfl⟩
  all_goals (refine ⟨?_⟩; refine Spec.ofR (h := fun F w0 => ?_))
  all_goals (repeat' ((conv => whnf); first | refine Q.E ?_ | (refine Stk.both (fun hb => ?_) (fun hb => ?_) <;> (try simp only [lE] at hb))); all_goals (conv => whnf))
  all_goals refine Stk.unroll 15 ?_
  all_goals (repeat' ((conv => whnf); first | refine Q.E ?_ | (refine Stk.both (fun hb => ?_) (fun hb => ?_) <;> (try simp only [lE] at hb))); all_goals (conv => whnf))
  all_goals (refine Q.r6 (h := ?_); repeat' (first | exact Q.r0 | refine Q.r1 ?_ ?_ | refine Q.r2 ?_ | exact Q.r7 | refine Q.r3 ?_ | refine Q.r4 ?_ | refine Q.r5 ?_))
theorem promE_yes {e : Ent} {b t : Int} (h : promX e b t = 0) : promE e b t = e.up (if e.bal = 0 then n3P e.phase else e.phase) (if needsB e = true then t else e.t) b e.abal [] := if_pos h
instance refpromise_spec (e : Ent) (b t : Int) : HasSpec Tryz.prog 117 [.agg e.cs, PV.int b, PV.int t] (.tup [.agg (promE e b t).cs, PV.int (promX e b t)]) := by
  have j2 := needs23_spec e
  have j3 := in23_spec b
  have j4 := in23_spec t
  by_cases h : entB e = true ∧ timeB b = true ∧ (needsB e = true → timeB t = true)
  · have j0 := rchk_yes h.1
    have hx : promX e b t = if e.phase < 5 then (if e.bal < b then 0 else 45) else 33 := if_pos h
    have hf := ent_facts h.1
    rw [h.2.1] at j3
    have hn := needsB_iff (e := e)
    by_cases h5 : e.phase < 5
    · rw [if_pos h5] at hx
      by_cases hb : e.bal < b
      · rw [if_pos hb] at hx
        rw [promE_yes hx, hx]
        have j5 := refnext3_at e.phase (n3P e.phase) (by rw [show n3P e.phase = if e.phase = 2 ∨ e.phase = 3 then 3 else 4 from if_pos (by omega)]; split <;> omega)
        cases hN : needsB e with
        | true =>
          have hN2 := hn.1 hN
          have hz := hN2.2.2
          rw [hN] at j2
          rw [h.2.2 hN] at j4
          rw [if_pos hz, if_pos rfl]
          generalize n3P e.phase = q at *
          refine ⟨?_⟩; refine Spec.ofR (h := fun F w0 => ?_)
          repeat' ((conv => whnf); first | refine Q.E ?_ | (refine Stk.both (fun hb => ?_) (fun hb => ?_) <;> (try simp only [lE] at hb))); all_goals (conv => whnf)
          (refine Q.r6 (h := ?_); repeat' (first | exact Q.r0 | refine Q.r1 ?_ ?_ | refine Q.r2 ?_ | exact Q.r7 | refine Q.r3 ?_ | refine Q.r4 ?_ | refine Q.r5 ?_))
        | false =>
          rw [hN] at j2
          rw [show (if false = true then t else e.t) = e.t from if_neg (by simp)]
          by_cases hz : e.bal = 0
          · rw [if_pos hz]
            generalize n3P e.phase = q at *
            refine ⟨?_⟩; refine Spec.ofR (h := fun F w0 => ?_)
            repeat' ((conv => whnf); first | refine Q.E ?_ | (refine Stk.both (fun hb => ?_) (fun hb => ?_) <;> (try simp only [lE] at hb))); all_goals (conv => whnf)
            (refine Q.r6 (h := ?_); repeat' (first | exact Q.r0 | refine Q.r1 ?_ ?_ | refine Q.r2 ?_ | exact Q.r7 | refine Q.r3 ?_ | refine Q.r4 ?_ | refine Q.r5 ?_))
          · rw [if_neg hz]
            refine ⟨?_⟩; refine Spec.ofR (h := fun F w0 => ?_)
            repeat' ((conv => whnf); first | refine Q.E ?_ | (refine Stk.both (fun hb => ?_) (fun hb => ?_) <;> (try simp only [lE] at hb))); all_goals (conv => whnf)
            (refine Q.r6 (h := ?_); repeat' (first | exact Q.r0 | refine Q.r1 ?_ ?_ | refine Q.r2 ?_ | exact Q.r7 | refine Q.r3 ?_ | refine Q.r4 ?_ | refine Q.r5 ?_))
      · rw [if_neg hb] at hx
        rw [hx, promE_no (by rw [hx]; decide)]
        cases hN : needsB e with
        | true =>
          rw [hN] at j2
          rw [h.2.2 hN] at j4
          refine ⟨?_⟩; refine Spec.ofR (h := fun F w0 => ?_)
          repeat' ((conv => whnf); first | refine Q.E ?_ | (refine Stk.both (fun hb => ?_) (fun hb => ?_) <;> (try simp only [lE] at hb))); all_goals (conv => whnf)
          (refine Q.r6 (h := ?_); repeat' (first | exact Q.r0 | refine Q.r1 ?_ ?_ | refine Q.r2 ?_ | exact Q.r7 | refine Q.r3 ?_ | refine Q.r4 ?_ | refine Q.r5 ?_))
        | false =>
          rw [hN] at j2
          refine ⟨?_⟩; refine Spec.ofR (h := fun F w0 => ?_)
          repeat' ((conv => whnf); first | refine Q.E ?_ | (refine Stk.both (fun hb => ?_) (fun hb => ?_) <;> (try simp only [lE] at hb))); all_goals (conv => whnf)
          (refine Q.r6 (h := ?_); repeat' (first | exact Q.r0 | refine Q.r1 ?_ ?_ | refine Q.r2 ?_ | exact Q.r7 | refine Q.r3 ?_ | refine Q.r4 ?_ | refine Q.r5 ?_))
    · rw [if_neg h5] at hx
      rw [hx, promE_no (by rw [hx]; decide)]
      cases hN : needsB e with
      | true =>
        have hN2 := hn.1 hN
        exfalso
        omega
      | false =>
        rw [hN] at j2
        refine ⟨?_⟩; refine Spec.ofR (h := fun F w0 => ?_)
        repeat' ((conv => whnf); first | refine Q.E ?_ | (refine Stk.both (fun hb => ?_) (fun hb => ?_) <;> (try simp only [lE] at hb))); all_goals (conv => whnf)
        (refine Q.r6 (h := ?_); repeat' (first | exact Q.r0 | refine Q.r1 ?_ ?_ | refine Q.r2 ?_ | exact Q.r7 | refine Q.r3 ?_ | refine Q.r4 ?_ | refine Q.r5 ?_))
  · have hx : promX e b t = 2 := if_neg h
    rw [hx, promE_no (by rw [hx]; decide)]
    cases h0 : entB e with
    | false =>
      have j0 := rchk_no h0
      refine ⟨?_⟩; refine Spec.ofR (h := fun F w0 => ?_)
      repeat' ((conv => whnf); first | refine Q.E ?_ | (refine Stk.both (fun hb => ?_) (fun hb => ?_) <;> (try simp only [lE] at hb))); all_goals (conv => whnf)
      (refine Q.r6 (h := ?_); repeat' (first | exact Q.r0 | refine Q.r1 ?_ ?_ | refine Q.r2 ?_ | exact Q.r7 | refine Q.r3 ?_ | refine Q.r4 ?_ | refine Q.r5 ?_))
    | true =>
      have j0 := rchk_yes h0
      cases h1 : timeB b with
      | false =>
        rw [h1] at j3
        refine ⟨?_⟩; refine Spec.ofR (h := fun F w0 => ?_)
        repeat' ((conv => whnf); first | refine Q.E ?_ | (refine Stk.both (fun hb => ?_) (fun hb => ?_) <;> (try simp only [lE] at hb))); all_goals (conv => whnf)
        (refine Q.r6 (h := ?_); repeat' (first | exact Q.r0 | refine Q.r1 ?_ ?_ | refine Q.r2 ?_ | exact Q.r7 | refine Q.r3 ?_ | refine Q.r4 ?_ | refine Q.r5 ?_))
      | true =>
        rw [h1] at j3
        have h2 : needsB e = true ∧ timeB t = false := by
          cases hN : needsB e with
          | false => exact absurd ⟨h0, h1, fun h => by rw [hN] at h; cases h⟩ h
          | true =>
            cases ht : timeB t with
            | false => exact ⟨rfl, rfl⟩
            | true => exact absurd ⟨h0, h1, fun _ => ht⟩ h
        rw [h2.1] at j2
        rw [h2.2] at j4
        refine ⟨?_⟩; refine Spec.ofR (h := fun F w0 => ?_)
        repeat' ((conv => whnf); first | refine Q.E ?_ | (refine Stk.both (fun hb => ?_) (fun hb => ?_) <;> (try simp only [lE] at hb))); all_goals (conv => whnf)
        (refine Q.r6 (h := ?_); repeat' (first | exact Q.r0 | refine Q.r1 ?_ ?_ | refine Q.r2 ?_ | exact Q.r7 | refine Q.r3 ?_ | refine Q.r4 ?_ | refine Q.r5 ?_))
end Go.Proofs.YtbjepdfnmbdplaaGreat
end
section
namespace Go.Proofs.YtbjepdfnmbdplaaGreat
open Go.RowKit
set_option linter.unusedSimpArgs false
set_option linter.unusedVariables false
set_option maxRecDepth 100000
set_option maxHeartbeats 4000000
noncomputable def p28S (r : Rpl) (e : Ent) : Rpl := if needsB e = true then timR r e.id 0 else r
noncomputable def p28T (r : Rpl) (e : Ent) : Int := if needsB e = true then timT r e.id 0 else 0
noncomputable def p28X (r : Rpl) (e : Ent) : Int := if needsB e = true then timX r e.id 0 else 0
noncomputable def p28P (r : Rpl) (e : Ent) (b : Int) : Ent := promE e b (p28T r e)
open Classical in
noncomputable def p28B (r : Rpl) (e : Ent) (b : Int) : Bool := if repB r = true ∧ entB e = true ∧ p28X r e = 0 ∧ promX e b (p28T r e) = 0 ∧ rputX (p28S r e) (p28P r e b) = 0 then true else false
noncomputable def p28R (r : Rpl) (e : Ent) (b : Int) : Rpl := if p28B r e b = true then rputR (p28S r e) (p28P r e b) else r
noncomputable def p28E (r : Rpl) (e : Ent) (b : Int) : Ent := if p28B r e b = true then p28P r e b else e
theorem p28_no {r : Rpl} {e : Ent} {b : Int} (h : ¬ (repB r = true ∧ entB e = true ∧ p28X r e = 0 ∧ promX e b (p28T r e) = 0 ∧ rputX (p28S r e) (p28P r e b) = 0)) : p28B r e b = false ∧ p28R r e b = r ∧ p28E r e b = e := by
  have h1 : p28B r e b = false := if_neg h
  exact ⟨h1, if_neg (by rw [h1]; simp), if_neg (by rw [h1]; simp)⟩
theorem p28_yes {r : Rpl} {e : Ent} {b : Int} (h : repB r = true ∧ entB e = true ∧ p28X r e = 0 ∧ promX e b (p28T r e) = 0 ∧ rputX (p28S r e) (p28P r e b) = 0) : p28B r e b = true ∧ p28R r e b = rputR (p28S r e) (p28P r e b) ∧ p28E r e b = p28P r e b := by
  have h1 : p28B r e b = true := if_pos h
  exact ⟨h1, if_pos h1, if_pos h1⟩
theorem p28_ne {r : Rpl} {e : Ent} (h : needsB e = true) : p28S r e = timR r e.id 0 ∧ p28T r e = timT r e.id 0 ∧ p28X r e = timX r e.id 0 := ⟨if_pos h, if_pos h, if_pos h⟩
theorem p28_nn {r : Rpl} {e : Ent} (h : needsB e = false) : p28S r e = r ∧ p28T r e = 0 ∧ p28X r e = 0 := ⟨if_neg (by rw [h]; simp), if_neg (by rw [h]; simp), if_neg (by rw [h]; simp)⟩
instance promise28_spec (r : Rpl) (e : Ent) (b : Int) : HasSpec Tryz.prog 40 [.agg r.cs, .agg e.cs, PV.int b] (.tup [.agg (p28R r e b).cs, .agg (p28E r e b).cs, .v (.bool (p28B r e b))]) := by
  by_cases hr : repB r = true
  · have j0 := stk_yes hr
    by_cases he : entB e = true
    · have j1 := chk_yes he
      have j2 := needs_spec e
      have j3 := time26_spec r e.id 0
      have j4 := promise_spec e b (p28T r e)
      have j5 := put_spec (p28S r e) (p28P r e b)
      cases hn : needsB e with
      | true =>
        obtain ⟨e1, e2, e3⟩ := p28_ne (r := r) hn
        rw [hn] at j2
        rw [← e1, ← e2, ← e3] at j3
        by_cases hX : p28X r e = 0
        · by_cases hP : promX e b (p28T r e) = 0
          · by_cases hQ : rputX (p28S r e) (p28P r e b) = 0
            · obtain ⟨a1, a2, a3⟩ := p28_yes ⟨hr, he, hX, hP, hQ⟩
              rw [a1, a2, a3]
              refine ⟨?_⟩; refine Spec.ofR (h := fun F w0 => ?_)
              repeat' ((conv => whnf); first | refine Q.E ?_ | (refine Stk.both (fun hb => ?_) (fun hb => ?_) <;> (try simp only [lE] at hb))); all_goals (conv => whnf)
              (refine Q.r6 (h := ?_); repeat' (first | exact Q.r0 | refine Q.r1 ?_ ?_ | refine Q.r2 ?_ | exact Q.r7 | refine Q.r3 ?_ | refine Q.r4 ?_ | refine Q.r5 ?_))
            · obtain ⟨a1, a2, a3⟩ := p28_no (b := b) (fun h => hQ h.2.2.2.2)
              rw [a1, a2, a3]
              refine ⟨?_⟩; refine Spec.ofR (h := fun F w0 => ?_)
              repeat' ((conv => whnf); first | refine Q.E ?_ | (refine Stk.both (fun hb => ?_) (fun hb => ?_) <;> (try simp only [lE] at hb))); all_goals (conv => whnf)
              (refine Q.r6 (h := ?_); repeat' (first | exact Q.r0 | refine Q.r1 ?_ ?_ | refine Q.r2 ?_ | exact Q.r7 | refine Q.r3 ?_ | refine Q.r4 ?_ | refine Q.r5 ?_))
          · obtain ⟨a1, a2, a3⟩ := p28_no (b := b) (fun h => hP h.2.2.2.1)
            rw [a1, a2, a3]
            refine ⟨?_⟩; refine Spec.ofR (h := fun F w0 => ?_)
            repeat' ((conv => whnf); first | refine Q.E ?_ | (refine Stk.both (fun hb => ?_) (fun hb => ?_) <;> (try simp only [lE] at hb))); all_goals (conv => whnf)
            (refine Q.r6 (h := ?_); repeat' (first | exact Q.r0 | refine Q.r1 ?_ ?_ | refine Q.r2 ?_ | exact Q.r7 | refine Q.r3 ?_ | refine Q.r4 ?_ | refine Q.r5 ?_))
        · obtain ⟨a1, a2, a3⟩ := p28_no (b := b) (fun h => hX h.2.2.1)
          rw [a1, a2, a3]
          refine ⟨?_⟩; refine Spec.ofR (h := fun F w0 => ?_)
          repeat' ((conv => whnf); first | refine Q.E ?_ | (refine Stk.both (fun hb => ?_) (fun hb => ?_) <;> (try simp only [lE] at hb))); all_goals (conv => whnf)
          (refine Q.r6 (h := ?_); repeat' (first | exact Q.r0 | refine Q.r1 ?_ ?_ | refine Q.r2 ?_ | exact Q.r7 | refine Q.r3 ?_ | refine Q.r4 ?_ | refine Q.r5 ?_))
      | false =>
        obtain ⟨e1, e2, e3⟩ := p28_nn (r := r) hn
        have e4 : p28P r e b = promE e b 0 := by unfold p28P; rw [e2]
        rw [hn] at j2
        rw [e2] at j4
        rw [e1, e4] at j5
        by_cases hP : promX e b 0 = 0
        · by_cases hQ : rputX r (promE e b 0) = 0
          · obtain ⟨a1, a2, a3⟩ := p28_yes (r := r) (e := e) (b := b) ⟨hr, he, e3, by rw [e2]; exact hP, by rw [e1, e4]; exact hQ⟩
            rw [a1, a2, a3, e1, e4]
            refine ⟨?_⟩; refine Spec.ofR (h := fun F w0 => ?_)
            repeat' ((conv => whnf); first | refine Q.E ?_ | (refine Stk.both (fun hb => ?_) (fun hb => ?_) <;> (try simp only [lE] at hb))); all_goals (conv => whnf)
            (refine Q.r6 (h := ?_); repeat' (first | exact Q.r0 | refine Q.r1 ?_ ?_ | refine Q.r2 ?_ | exact Q.r7 | refine Q.r3 ?_ | refine Q.r4 ?_ | refine Q.r5 ?_))
          · obtain ⟨a1, a2, a3⟩ := p28_no (r := r) (e := e) (b := b) (fun h => hQ (by have := h.2.2.2.2; rw [e1, e4] at this; exact this))
            rw [a1, a2, a3]
            refine ⟨?_⟩; refine Spec.ofR (h := fun F w0 => ?_)
            repeat' ((conv => whnf); first | refine Q.E ?_ | (refine Stk.both (fun hb => ?_) (fun hb => ?_) <;> (try simp only [lE] at hb))); all_goals (conv => whnf)
            (refine Q.r6 (h := ?_); repeat' (first | exact Q.r0 | refine Q.r1 ?_ ?_ | refine Q.r2 ?_ | exact Q.r7 | refine Q.r3 ?_ | refine Q.r4 ?_ | refine Q.r5 ?_))
        · obtain ⟨a1, a2, a3⟩ := p28_no (r := r) (e := e) (b := b) (fun h => hP (by have := h.2.2.2.1; rw [e2] at this; exact this))
          rw [a1, a2, a3]
          refine ⟨?_⟩; refine Spec.ofR (h := fun F w0 => ?_)
          repeat' ((conv => whnf); first | refine Q.E ?_ | (refine Stk.both (fun hb => ?_) (fun hb => ?_) <;> (try simp only [lE] at hb))); all_goals (conv => whnf)
          (refine Q.r6 (h := ?_); repeat' (first | exact Q.r0 | refine Q.r1 ?_ ?_ | refine Q.r2 ?_ | exact Q.r7 | refine Q.r3 ?_ | refine Q.r4 ?_ | refine Q.r5 ?_))
    · have he' : entB e = false := by simpa using he
      have j1 := chk_no he'
      obtain ⟨a1, a2, a3⟩ := p28_no (b := b) (fun h => he h.2.1)
      rw [a1, a2, a3]
      refine ⟨?_⟩; refine Spec.ofR (h := fun F w0 => ?_)
      repeat' ((conv => whnf); first | refine Q.E ?_ | (refine Stk.both (fun hb => ?_) (fun hb => ?_) <;> (try simp only [lE] at hb))); all_goals (conv => whnf)
      (refine Q.r6 (h := ?_); repeat' (first | exact Q.r0 | refine Q.r1 ?_ ?_ | refine Q.r2 ?_ | exact Q.r7 | refine Q.r3 ?_ | refine Q.r4 ?_ | refine Q.r5 ?_))
  · have hr' : repB r = false := by simpa using hr
    have j0 := stk_no hr'
    obtain ⟨a1, a2, a3⟩ := p28_no (b := b) (e := e) (fun h => hr h.1)
    rw [a1, a2, a3]
    refine ⟨?_⟩; refine Spec.ofR (h := fun F w0 => ?_)
    repeat' ((conv => whnf); first | refine Q.E ?_ | (refine Stk.both (fun hb => ?_) (fun hb => ?_) <;> (try simp only [lE] at hb))); all_goals (conv => whnf)
    (refine Q.r6 (h := ?_); repeat' (first | exact Q.r0 | refine Q.r1 ?_ ?_ | refine Q.r2 ?_ | exact Q.r7 | refine Q.r3 ?_ | refine Q.r4 ?_ | refine Q.r5 ?_))
instance refpromise28_spec (r : Rpl) (e : Ent) (b : Int) : HasSpec Tryz.prog 41 [.agg r.cs, .agg e.cs, PV.int b] (.tup [.agg (p28R r e b).cs, .agg (p28E r e b).cs, .v (.bool (p28B r e b))]) := by
  by_cases hr : repB r = true
  · have j0 := rstk_yes hr
    by_cases he : entB e = true
    · have j1 := rchk_yes he
      have j2 := needs23_spec e
      have j3 := reftimed_spec r e.id 0
      have j4 := refpromise_spec e b (p28T r e)
      have j5 := refput_spec (p28S r e) (p28P r e b)
      cases hn : needsB e with
      | true =>
        obtain ⟨e1, e2, e3⟩ := p28_ne (r := r) hn
        rw [hn] at j2
        rw [← e1, ← e2, ← e3] at j3
        by_cases hX : p28X r e = 0
        · by_cases hP : promX e b (p28T r e) = 0
          · by_cases hQ : rputX (p28S r e) (p28P r e b) = 0
            · obtain ⟨a1, a2, a3⟩ := p28_yes ⟨hr, he, hX, hP, hQ⟩
              rw [a1, a2, a3]
              refine ⟨?_⟩; refine Spec.ofR (h := fun F w0 => ?_)
              repeat' ((conv => whnf); first | refine Q.E ?_ | (refine Stk.both (fun hb => ?_) (fun hb => ?_) <;> (try simp only [lE] at hb))); all_goals (conv => whnf)
              (refine Q.r6 (h := ?_); repeat' (first | exact Q.r0 | refine Q.r1 ?_ ?_ | refine Q.r2 ?_ | exact Q.r7 | refine Q.r3 ?_ | refine Q.r4 ?_ | refine Q.r5 ?_))
            · obtain ⟨a1, a2, a3⟩ := p28_no (b := b) (fun h => hQ h.2.2.2.2)
              rw [a1, a2, a3]
              refine ⟨?_⟩; refine Spec.ofR (h := fun F w0 => ?_)
              repeat' ((conv => whnf); first | refine Q.E ?_ | (refine Stk.both (fun hb => ?_) (fun hb => ?_) <;> (try simp only [lE] at hb))); all_goals (conv => whnf)
              (refine Q.r6 (h := ?_); repeat' (first | exact Q.r0 | refine Q.r1 ?_ ?_ | refine Q.r2 ?_ | exact Q.r7 | refine Q.r3 ?_ | refine Q.r4 ?_ | refine Q.r5 ?_))
          · obtain ⟨a1, a2, a3⟩ := p28_no (b := b) (fun h => hP h.2.2.2.1)
            rw [a1, a2, a3]
            refine ⟨?_⟩; refine Spec.ofR (h := fun F w0 => ?_)
            repeat' ((conv => whnf); first | refine Q.E ?_ | (refine Stk.both (fun hb => ?_) (fun hb => ?_) <;> (try simp only [lE] at hb))); all_goals (conv => whnf)
            (refine Q.r6 (h := ?_); repeat' (first | exact Q.r0 | refine Q.r1 ?_ ?_ | refine Q.r2 ?_ | exact Q.r7 | refine Q.r3 ?_ | refine Q.r4 ?_ | refine Q.r5 ?_))
        · obtain ⟨a1, a2, a3⟩ := p28_no (b := b) (fun h => hX h.2.2.1)
          rw [a1, a2, a3]
          refine ⟨?_⟩; refine Spec.ofR (h := fun F w0 => ?_)
          repeat' ((conv => whnf); first | refine Q.E ?_ | (refine Stk.both (fun hb => ?_) (fun hb => ?_) <;> (try simp only [lE] at hb))); all_goals (conv => whnf)
          (refine Q.r6 (h := ?_); repeat' (first | exact Q.r0 | refine Q.r1 ?_ ?_ | refine Q.r2 ?_ | exact Q.r7 | refine Q.r3 ?_ | refine Q.r4 ?_ | refine Q.r5 ?_))
      | false =>
        obtain ⟨e1, e2, e3⟩ := p28_nn (r := r) hn
        have e4 : p28P r e b = promE e b 0 := by unfold p28P; rw [e2]
        rw [hn] at j2
        rw [e2] at j4
        rw [e1, e4] at j5
        by_cases hP : promX e b 0 = 0
        · by_cases hQ : rputX r (promE e b 0) = 0
          · obtain ⟨a1, a2, a3⟩ := p28_yes (r := r) (e := e) (b := b) ⟨hr, he, e3, by rw [e2]; exact hP, by rw [e1, e4]; exact hQ⟩
            rw [a1, a2, a3, e1, e4]
            refine ⟨?_⟩; refine Spec.ofR (h := fun F w0 => ?_)
            repeat' ((conv => whnf); first | refine Q.E ?_ | (refine Stk.both (fun hb => ?_) (fun hb => ?_) <;> (try simp only [lE] at hb))); all_goals (conv => whnf)
            (refine Q.r6 (h := ?_); repeat' (first | exact Q.r0 | refine Q.r1 ?_ ?_ | refine Q.r2 ?_ | exact Q.r7 | refine Q.r3 ?_ | refine Q.r4 ?_ | refine Q.r5 ?_))
          · obtain ⟨a1, a2, a3⟩ := p28_no (r := r) (e := e) (b := b) (fun h => hQ (by have := h.2.2.2.2; rw [e1, e4] at this; exact this))
            rw [a1, a2, a3]
            refine ⟨?_⟩; refine Spec.ofR (h := fun F w0 => ?_)
            repeat' ((conv => whnf); first | refine Q.E ?_ | (refine Stk.both (fun hb => ?_) (fun hb => ?_) <;> (try simp only [lE] at hb))); all_goals (conv => whnf)
            (refine Q.r6 (h := ?_); repeat' (first | exact Q.r0 | refine Q.r1 ?_ ?_ | refine Q.r2 ?_ | exact Q.r7 | refine Q.r3 ?_ | refine Q.r4 ?_ | refine Q.r5 ?_))
        · obtain ⟨a1, a2, a3⟩ := p28_no (r := r) (e := e) (b := b) (fun h => hP (by have := h.2.2.2.1; rw [e2] at this; exact this))
          rw [a1, a2, a3]
          refine ⟨?_⟩; refine Spec.ofR (h := fun F w0 => ?_)
          repeat' ((conv => whnf); first | refine Q.E ?_ | (refine Stk.both (fun hb => ?_) (fun hb => ?_) <;> (try simp only [lE] at hb))); all_goals (conv => whnf)
          (refine Q.r6 (h := ?_); repeat' (first | exact Q.r0 | refine Q.r1 ?_ ?_ | refine Q.r2 ?_ | exact Q.r7 | refine Q.r3 ?_ | refine Q.r4 ?_ | refine Q.r5 ?_))
    · have he' : entB e = false := by simpa using he
      have j1 := rchk_no he'
      obtain ⟨a1, a2, a3⟩ := p28_no (b := b) (fun h => he h.2.1)
      rw [a1, a2, a3]
      refine ⟨?_⟩; refine Spec.ofR (h := fun F w0 => ?_)
      repeat' ((conv => whnf); first | refine Q.E ?_ | (refine Stk.both (fun hb => ?_) (fun hb => ?_) <;> (try simp only [lE] at hb))); all_goals (conv => whnf)
      (refine Q.r6 (h := ?_); repeat' (first | exact Q.r0 | refine Q.r1 ?_ ?_ | refine Q.r2 ?_ | exact Q.r7 | refine Q.r3 ?_ | refine Q.r4 ?_ | refine Q.r5 ?_))
  · have hr' : repB r = false := by simpa using hr
    have j0 := rstk_no hr'
    obtain ⟨a1, a2, a3⟩ := p28_no (b := b) (e := e) (fun h => hr h.1)
    rw [a1, a2, a3]
    refine ⟨?_⟩; refine Spec.ofR (h := fun F w0 => ?_)
    repeat' ((conv => whnf); first | refine Q.E ?_ | (refine Stk.both (fun hb => ?_) (fun hb => ?_) <;> (try simp only [lE] at hb))); all_goals (conv => whnf)
    (refine Q.r6 (h := ?_); repeat' (first | exact Q.r0 | refine Q.r1 ?_ ?_ | refine Q.r2 ?_ | exact Q.r7 | refine Q.r3 ?_ | refine Q.r4 ?_ | refine Q.r5 ?_))
end Go.Proofs.YtbjepdfnmbdplaaGreat
end
section
namespace Go.Proofs.YtbjepdfnmbdplaaGreat
set_option linter.unusedSimpArgs false
set_option linter.unusedVariables false
set_option linter.unusedSectionVars false
open Go.RowKit
set_option maxRecDepth 100000
set_option maxHeartbeats 1000000
end Go.Proofs.YtbjepdfnmbdplaaGreat
end
section
namespace Go.Proofs.YtbjepdfnmbdplaaGreat
set_option linter.unusedSimpArgs false
set_option linter.unusedVariables false
set_option linter.unusedSectionVars false
open Go.RowKit
set_option maxRecDepth 100000
set_option maxHeartbeats 1000000
theorem hasB_nat {s r : Nat} (hs : s < 512) : hasB s ((r : Int) + 1) = (decide (r < 9) && s.testBit r) := by
  unfold hasB
  rw [show mayB (s : Int) = true from mayB_iff.2 (by omega), Bool.true_and]
  by_cases h : r < 9
  · rw [replB_iff.2 (by omega), decide_eq_true h, Bool.true_and, Bool.true_and]
    unfold bitB
    rw [Nat.testBit_eq_decide_div_mod_eq, decide_eq_decide, show ((r : Int) + 1 - 1).toNat = r from by omega]
    have : (s : Int) / 2 ^ r = ((s / 2 ^ r : Nat) : Int) := by rw [Int.natCast_ediv, Int.natCast_pow]; rfl
    rw [this]
    omega
  · rw [decide_eq_false h, show replB ((r : Int) + 1) = false from by
      cases e : replB ((r : Int) + 1) with
      | false => rfl
      | true => have := replB_iff.1 e; omega]
    rfl
end Go.Proofs.YtbjepdfnmbdplaaGreat
end
section
namespace Go.Proofs.YtbjepdfnmbdplaaGreat
open Go.RowKit
set_option linter.unusedSimpArgs false
set_option linter.unusedVariables false
def mayA (n : Int) (a : Ack) : Bool := decide (a.kind = 3 ∧ 1 ≤ a.fr ∧ a.fr ≤ n ∧ 1 ≤ a.t)
theorem mayA_iff {n : Int} {a : Ack} : mayA n a = true ↔ a.kind = 3 ∧ 1 ≤ a.fr ∧ a.fr ≤ n ∧ 1 ≤ a.t := by unfold mayA; exact decide_eq_true_iff
theorem hasB_orN (l : List Int) (r : Int) : hasB (orN l : Nat) r = (replB r && decide (r ∈ l)) := by
  cases hr : replB r with
  | false => unfold hasB; rw [hr]; simp
  | true =>
    have h := replB_iff.1 hr
    have := hasB_nat (s := orN l) (r := (r - 1).toNat) (orN_lt l)
    rw [show (((r - 1).toNat : Nat) : Int) + 1 = r from by omega] at this
    rw [this, orN_bit _ _ (by omega), show (((r - 1).toNat : Nat) : Int) + 1 = r from by omega, decide_eq_true (by omega : (r - 1).toNat < 9)]
def okTo (n : Int) (l : List Ack) (i : Nat) : Prop := ∀ j, ∀ h : j < l.length, j < i → mayA n l[j] = true ∧ l[j].fr ∉ (l.take j).map Ack.fr
def readyP (n f : Int) (l : List Ack) : Prop := sizeB n f = true ∧ okTo n l l.length ∧ n - f ≤ (l.length : Int)
open Classical in
noncomputable def readyB (n f : Int) (l : List Ack) : Bool := decide (readyP n f l)
open Classical in
theorem readyB_iff {n f : Int} {l : List Ack} : readyB n f l = true ↔ readyP n f l := by unfold readyB; exact decide_eq_true_iff
open Classical in
theorem readyB_not {n f : Int} {l : List Ack} (h : ¬ readyP n f l) : readyB n f l = false := by unfold readyB; exact decide_eq_false h
theorem okTo_succ {n : Int} {l : List Ack} {i : Nat} (hi : i < l.length) (h : okTo n l i) (h1 : mayA n l[i] = true) (h2 : l[i].fr ∉ (l.take i).map Ack.fr) : okTo n l (i + 1) := fun j hj hlt => by
  rcases Nat.lt_or_ge j i with h3 | h3
  · exact h j hj h3
  · obtain rfl : j = i := by omega
    exact ⟨h1, h2⟩
theorem rev_ind {α : Type} {p : List α → Prop} (h0 : p []) (h1 : ∀ l a, p l → p (l ++ [a])) (l : List α) : p l := by
  have h : ∀ m : List α, p m.reverse := by
    intro m
    induction m with
    | nil => exact h0
    | cons a m ih => rw [List.reverse_cons]; exact h1 _ _ ih
  have := h l.reverse
  rwa [List.reverse_reverse] at this
def toldStep (p : Int × Int) (a : Ack) : Int × Int := if p.1 < a.abal then (a.abal, a.t) else p
def toldF (l : List Ack) : Int × Int := l.foldl toldStep (0, 0)
theorem toldF_snoc (l : List Ack) (a : Ack) : toldF (l ++ [a]) = toldStep (toldF l) a := by unfold toldF; rw [List.foldl_append]; rfl
theorem toldF_succ (l : List Ack) (i : Nat) (h : i < l.length) : toldF (l.take (i + 1)) = toldStep (toldF (l.take i)) l[i] := by rw [take_snoc' l i h, toldF_snoc]
def lostOf (q c : Int) (a : Ack) : Bool := hasB q a.fr && decide (a.fr = c ∨ a.phase = 4)
def lostB (q c : Int) (l : List Ack) : Bool := l.any (lostOf q c)
def greatI (l : List Ack) : Int := l.foldl (fun t a => max t a.t) (-1)
theorem greatI_snoc (l : List Ack) (a : Ack) : greatI (l ++ [a]) = max (greatI l) a.t := by unfold greatI; rw [List.foldl_append]; rfl
theorem greatI_succ (l : List Ack) (i : Nat) (h : i < l.length) : greatI (l.take (i + 1)) = max (greatI (l.take i)) l[i].t := by rw [take_snoc' l i h, greatI_snoc]
def inQ (q : Int) (l : List Ack) : List Ack := l.filter fun a => hasB q a.fr
noncomputable def chooseR (n f q id : Int) (l : List Ack) : Int × Int :=
  if readyB n f l = true ∧ (listS q 9).length ≠ 0 ∧ 1 ≤ selfI id ∧ selfI id ≤ n then
    if 0 < (toldF l).1 then ((toldF l).2, 0)
    else if lostB q (selfI id) l = true then (greatI l, 0)
    else if inQ q l = [] then (0, 33) else (greatI (inQ q l), 0)
  else (0, 2)
theorem greatI_mem : ∀ {l : List Ack}, l ≠ [] → (∀ a ∈ l, 1 ≤ a.t) → ∃ a ∈ l, a.t = greatI l := by
  have gen : ∀ (l : List Ack), (l = [] ∧ greatI l = -1) ∨ ((∀ a ∈ l, 1 ≤ a.t) → ∃ a ∈ l, a.t = greatI l) := by
    intro l
    refine rev_ind (p := fun l => (l = [] ∧ greatI l = -1) ∨ ((∀ a ∈ l, 1 ≤ a.t) → ∃ a ∈ l, a.t = greatI l)) (.inl ⟨rfl, rfl⟩) (fun l a ih => ?_) l
    · refine .inr fun h => ?_
      rw [greatI_snoc]
      have ha := h a (by simp)
      rcases ih with ⟨rfl, h2⟩ | h2
      · exact ⟨a, by simp, by rw [h2]; omega⟩
      · obtain ⟨b, hb, he⟩ := h2 fun x hx => h x (by simp [hx])
        by_cases hlt : greatI l ≤ a.t
        · exact ⟨a, by simp, by omega⟩
        · exact ⟨b, by simp [hb], by omega⟩
  intro l hne hl
  rcases gen l with ⟨h, _⟩ | h
  · exact absurd h hne
  · exact h hl
theorem toldF_spec : ∀ (l : List Ack), (∀ a ∈ l, a.abal ≤ (toldF l).1) ∧ 0 ≤ (toldF l).1 ∧ (0 < (toldF l).1 → ∃ a ∈ l, a.abal = (toldF l).1 ∧ a.t = (toldF l).2) := by
  intro l
  refine rev_ind (p := fun l => (∀ a ∈ l, a.abal ≤ (toldF l).1) ∧ 0 ≤ (toldF l).1 ∧ (0 < (toldF l).1 → ∃ a ∈ l, a.abal = (toldF l).1 ∧ a.t = (toldF l).2)) ⟨fun _ h => (by cases h), Int.le_refl _, fun h => absurd h (by decide)⟩ (fun l b ih => ?_) l
  · obtain ⟨h1, h2, h3⟩ := ih
    rw [toldF_snoc]
    unfold toldStep
    split
    · rename_i hlt
      refine ⟨fun a ha => ?_, by show 0 ≤ b.abal; omega, fun _ => ⟨b, by simp, rfl, rfl⟩⟩
      rcases List.mem_append.1 ha with ha | ha
      · have := h1 a ha; show a.abal ≤ b.abal; omega
      · rw [List.mem_singleton] at ha; subst ha; exact Int.le_refl _
    · rename_i hlt
      refine ⟨fun a ha => ?_, h2, fun h => ?_⟩
      · rcases List.mem_append.1 ha with ha | ha
        · exact h1 a ha
        · rw [List.mem_singleton] at ha; subst ha; omega
      · obtain ⟨a, ha, e⟩ := h3 h
        exact ⟨a, by simp [ha], e⟩
end Go.Proofs.YtbjepdfnmbdplaaGreat
end
section
namespace Go.Proofs.YtbjepdfnmbdplaaGreat
open Go.RowKit
set_option linter.unusedSimpArgs false
set_option linter.unusedVariables false
set_option maxRecDepth 100000
set_option maxHeartbeats 1000000
instance mayA_spec (a : Ack) (n : Int) : HasSpec Tryz.prog 238 [.agg a.cs, PV.int n] (.v (.bool (mayA n a))) := by
  refine ⟨?_⟩; refine Spec.ofR (h := fun F w0 => ?_)
  repeat' ((conv => whnf); first | refine Q.E ?_ | (refine Stk.both (fun hb => ?_) (fun hb => ?_) <;> (try simp only [lE] at hb))); all_goals (conv => whnf)
  all_goals (refine Q.r6 (h := ?_); repeat' (first | exact Q.r0 | refine Q.r1 ?_ ?_ | refine Q.r2 ?_ | exact Q.r7 | refine Q.r3 ?_ | refine Q.r4 ?_ | refine Q.r5 ?_))
  all_goals unfold mayA
  all_goals ((first | rfl | (rw [Bool.eq_iff_iff]; simp only [tst_true, tst_false, lE, decide_eq_true_eq, decide_eq_false_iff_not, Bool.and_eq_true, Bool.or_eq_true, Bool.not_eq_true', Bool.not_eq_false', Bool.false_eq_true, Bool.true_eq_false, true_iff, iff_true, false_iff, iff_false, true_and, and_true, false_and, and_false, not_false_eq_true, not_true_eq_false]; try omega)))
instance inA_spec (a : Ack) (q : Int) : HasSpec Tryz.prog 246 [.agg a.cs, PV.int q] (.v (.bool (hasB q a.fr))) := by
  refine ⟨?_⟩; refine Spec.ofR (h := fun F w0 => ?_)
  repeat' ((conv => whnf); first | refine Q.E ?_ | (refine Stk.both (fun hb => ?_) (fun hb => ?_) <;> (try simp only [lE] at hb))); all_goals (conv => whnf)
  all_goals (refine Q.r6 (h := ?_); repeat' (first | exact Q.r0 | refine Q.r1 ?_ ?_ | refine Q.r2 ?_ | exact Q.r7 | refine Q.r3 ?_ | refine Q.r4 ?_ | refine Q.r5 ?_))
instance told24_spec (l : List Ack) : HasSpec Tryz.prog 241 [.sl 6 (l.map Ack.cs)] (.tup [PV.int (toldF l).2, .v (.bool (tst (0 < (toldF l).1)))]) := by
  refine ⟨Spec.bound 0 rfl fun hl => ?_⟩; rw [List.length_map] at hl; refine Spec.ofR (h := fun F w0 => ?_)
  repeat' ((conv => whnf); first | refine Q.E ?_ | (refine Stk.both (fun hb => ?_) (fun hb => ?_) <;> (try simp only [lE] at hb))); all_goals (conv => whnf)
  refine Stk.loop (ι := Nat) (fun i => [(4, PV.int (toldF (l.take i)).1), (2, PV.int (toldF (l.take i)).2), (7, .sl 6 (l.map Ack.cs)), (8, PV.int (l.length : Nat)), (9, PV.int (i : Nat))]) (fun _ => []) (fun i => i ≤ l.length) (fun i => l.length - i) 0 (Nat.zero_le _) (Weak.gc ⟨rfl, rfl, rfl, rfl, rfl, trivial⟩ trivial rfl rfl rfl) (fun i hi => ?_)
  repeat' ((conv => whnf); first | refine Q.E ?_ | (refine Stk.both (fun hb => ?_) (fun hb => ?_) <;> (try simp only [lE] at hb))); all_goals (conv => whnf)
  · refine ⟨i + 1, by show i + 1 ≤ _; omega, by omega, ?_⟩
    have e := toldF_succ l i (by omega)
    unfold toldStep at e
    rw [if_pos ‹_›] at e
    rw [e]
    exact Weak.gc ⟨rfl, rfl, rfl, rfl, rfl, trivial⟩ trivial rfl rfl rfl
  · refine ⟨i + 1, by show i + 1 ≤ _; omega, by omega, ?_⟩
    have e := toldF_succ l i (by omega)
    unfold toldStep at e
    rw [if_neg (by omega)] at e
    rw [e]
    exact Weak.gc ⟨rfl, rfl, rfl, rfl, rfl, trivial⟩ trivial rfl rfl rfl
  · have e : l.take i = l := List.take_of_length_le (by omega)
    rw [e]
    (refine Q.r6 (h := ?_); repeat' (first | exact Q.r0 | refine Q.r1 ?_ ?_ | refine Q.r2 ?_ | exact Q.r7 | refine Q.r3 ?_ | refine Q.r4 ?_ | refine Q.r5 ?_))
instance great_spec (l : List Ack) : HasSpec Tryz.prog 243 [.sl 6 (l.map Ack.cs)] (PV.int (greatI l)) := by
  refine ⟨Spec.bound 0 rfl fun hl => ?_⟩; rw [List.length_map] at hl; refine Spec.ofR (h := fun F w0 => ?_)
  repeat' ((conv => whnf); first | refine Q.E ?_ | (refine Stk.both (fun hb => ?_) (fun hb => ?_) <;> (try simp only [lE] at hb))); all_goals (conv => whnf)
  refine Stk.loop (ι := Nat) (fun i => [(3, PV.int (greatI (l.take i))), (6, .sl 6 (l.map Ack.cs)), (7, PV.int (l.length : Nat)), (8, PV.int (i : Nat))]) (fun _ => []) (fun i => i ≤ l.length) (fun i => l.length - i) 0 (Nat.zero_le _) (Weak.gc ⟨rfl, rfl, rfl, rfl, trivial⟩ trivial rfl rfl rfl) (fun i hi => ?_)
  repeat' ((conv => whnf); first | refine Q.E ?_ | (refine Stk.both (fun hb => ?_) (fun hb => ?_) <;> (try simp only [lE] at hb))); all_goals (conv => whnf)
  · refine ⟨i + 1, by show i + 1 ≤ _; omega, by omega, ?_⟩
    rw [greatI_succ l i (by omega)]
    exact Weak.gc ⟨rfl, rfl, rfl, rfl, trivial⟩ trivial rfl rfl rfl
  · have e : l.take i = l := List.take_of_length_le (by omega)
    rw [e]
    (refine Q.r6 (h := ?_); repeat' (first | exact Q.r0 | refine Q.r1 ?_ ?_ | refine Q.r2 ?_ | exact Q.r7 | refine Q.r3 ?_ | refine Q.r4 ?_ | refine Q.r5 ?_))
theorem lost_at {q c : Int} {l : List Ack} {i : Nat} (hi : i < l.length) (h : lostOf q c l[i] = true) : lostB q c l = true := List.any_eq_true.2 ⟨_, List.getElem_mem hi, h⟩
theorem lost_no {q c : Int} {l : List Ack} (h : ∀ a ∈ l, lostOf q c a = false) : lostB q c l = false := by
  unfold lostB
  rw [List.any_eq_false]
  intro a ha
  rw [h a ha]
  simp
instance lost_spec (q c : Int) (l : List Ack) : HasSpec Tryz.prog 242 [PV.int q, PV.int c, .sl 6 (l.map Ack.cs)] (.v (.bool (lostB q c l))) := by
  refine ⟨Spec.bound 2 rfl fun hl => ?_⟩; rw [List.length_map] at hl; refine Spec.ofR (h := fun F w0 => ?_)
  repeat' ((conv => whnf); first | refine Q.a ?_ | refine Q.b ?_ | refine Q.c ?_ | refine Stk.is (by first | assumption | ((try simp only [lE]); first | done | assumption | omega)) ?_ | refine Stk.isnt (by first | assumption | ((try simp only [lE]); first | done | assumption | omega)) ?_ | (refine Stk.both (fun hb => ?_) (fun hb => ?_) <;> (try simp only [lE] at hb)) | refine Q.d ?_ | refine Q.e ?_ | refine Q.f ?_ | refine Q.g ?_ | refine Q.h ?_ | refine Q.i ?_ | refine Q.j ?_ | refine Q.k ?_ | refine Q.l ?_ | refine Q.m ?_ | refine Q.n ?_ | refine Q.o (h := ?_) | refine Q.p (h := ?_) | refine Q.q ?_ | refine Q.r ?_ | refine Q.s ?_ | refine Q.t ?_ | refine Q.u ?_ | refine Q.v ?_ | refine Q.w ?_ | refine Q.x ?_ | refine Q.y ?_ | refine Q.z ?_ | refine Stk.inl (h := fun tm => ?_) | refine Stk.inl0 (h := fun tm => ?_) | refine DefG.go (h := fun vs us => ?_) | intro (tm : Array Value) | refine Stk.op (ok_buildA rfl rfl rfl rfl) ?_ | refine Stk.scope ?_); all_goals (conv => whnf)
  refine Stk.loop (ι := Nat) (fun i => [(0, PV.int q), (1, PV.int c), (7, .fn (.func 246) [] []), (10, .sl 6 (l.map Ack.cs)), (11, PV.int (l.length : Nat)), (12, PV.int (i : Nat))]) (fun _ => []) (fun i => i ≤ l.length ∧ ∀ a ∈ l.take i, lostOf q c a = false) (fun i => l.length - i) 0 ⟨Nat.zero_le _, by simp⟩ (Weak.gc ⟨rfl, rfl, rfl, rfl, rfl, rfl, trivial⟩ trivial rfl rfl rfl) (fun i hi => ?_)
  obtain ⟨hi, hno⟩ := hi
  repeat' ((conv => whnf); first | refine Q.a ?_ | refine Q.b ?_ | refine Q.c ?_ | refine Stk.is (by first | assumption | ((try simp only [lE]); first | done | assumption | omega)) ?_ | refine Stk.isnt (by first | assumption | ((try simp only [lE]); first | done | assumption | omega)) ?_ | (refine Stk.both (fun hb => ?_) (fun hb => ?_) <;> (try simp only [lE] at hb)) | refine Q.d ?_ | refine Q.e ?_ | refine Q.f ?_ | refine Q.g ?_ | refine Q.h ?_ | refine Q.i ?_ | refine Q.j ?_ | refine Q.k ?_ | refine Q.l ?_ | refine Q.m ?_ | refine Q.n ?_ | refine Q.o (h := ?_) | refine Q.p (h := ?_) | refine Q.q ?_ | refine Q.r ?_ | refine Q.s ?_ | refine Q.t ?_ | refine Q.u ?_ | refine Q.v ?_ | refine Q.w ?_ | refine Q.x ?_ | refine Q.y ?_ | refine Q.z ?_ | refine Stk.inl (h := fun tm => ?_) | refine Stk.inl0 (h := fun tm => ?_) | refine DefG.go (h := fun vs us => ?_) | intro (tm : Array Value) | refine Stk.op (ok_buildA rfl rfl rfl rfl) ?_ | refine Stk.scope ?_); all_goals (conv => whnf)
  all_goals first | (rw [lost_at (i := i) (by omega) (by unfold lostOf; rw [‹hasB q l[i].fr = true›, Bool.true_and]; exact decide_eq_true (by omega))]; (refine Q.r6 (h := ?_); repeat' (first | exact Q.r0 | refine Q.r1 ?_ ?_ | refine Q.r2 ?_ | exact Q.r7 | refine Q.r3 ?_ | refine Q.r4 ?_ | refine Q.r5 ?_)); done) | (rw [lost_no (take_all (k := i) (by omega) hno)]; (refine Q.r6 (h := ?_); repeat' (first | exact Q.r0 | refine Q.r1 ?_ ?_ | refine Q.r2 ?_ | exact Q.r7 | refine Q.r3 ?_ | refine Q.r4 ?_ | refine Q.r5 ?_)); done) | (refine ⟨i + 1, ⟨by omega, take_no (by omega) hno ?_⟩, by omega, Weak.gc ⟨rfl, rfl, rfl, rfl, rfl, rfl, trivial⟩ trivial rfl rfl rfl⟩; unfold lostOf; first | (rw [‹hasB q l[i].fr = false›]; rfl) | (rw [‹hasB q l[i].fr = true›, Bool.true_and]; exact decide_eq_false (by omega)))
theorem ready_bad {n f : Int} {l : List Ack} {i : Nat} (hi : i < l.length) (h : mayA n l[i] = false ∨ l[i].fr ∈ (l.take i).map Ack.fr) : readyB n f l = false := readyB_not fun hr => by
  obtain ⟨h1, h2⟩ := hr.2.1 i hi hi
  rcases h with h | h
  · rw [h] at h1; cases h1
  · exact h2 h
instance ready_spec (n f : Int) (l : List Ack) : HasSpec Tryz.prog 188 [PV.int n, PV.int f, .sl 6 (l.map Ack.cs)] (.v (.bool (readyB n f l))) := by
  cases hS : sizeB n f with
  | false =>
    have j0 := sizecheck_spec n f
    rw [hS] at j0
    rw [readyB_not (fun h => by have := h.1; rw [hS] at this; cases this)]
    refine ⟨?_⟩; refine Spec.ofR (h := fun F w0 => ?_)
    repeat' ((conv => whnf); first | refine Q.a ?_ | refine Q.b ?_ | refine Q.c ?_ | refine Stk.is (by first | assumption | ((try simp only [lE]); first | done | assumption | omega)) ?_ | refine Stk.isnt (by first | assumption | ((try simp only [lE]); first | done | assumption | omega)) ?_ | (refine Stk.both (fun hb => ?_) (fun hb => ?_) <;> (try simp only [lE] at hb)) | refine Q.d ?_ | refine Q.e ?_ | refine Q.f ?_ | refine Q.g ?_ | refine Q.h ?_ | refine Q.i ?_ | refine Q.j ?_ | refine Q.k ?_ | refine Q.l ?_ | refine Q.m ?_ | refine Q.n ?_ | refine Q.o (h := ?_) | refine Q.p (h := ?_) | refine Q.q ?_ | refine Q.r ?_ | refine Q.s ?_ | refine Q.t ?_ | refine Q.u ?_ | refine Q.v ?_ | refine Q.w ?_ | refine Q.x ?_ | refine Q.y ?_ | refine Q.z ?_ | refine Stk.inl (h := fun tm => ?_) | refine Stk.inl0 (h := fun tm => ?_) | refine DefG.go (h := fun vs us => ?_) | intro (tm : Array Value) | refine Stk.op (ok_buildA rfl rfl rfl rfl) ?_ | refine Stk.scope ?_); all_goals (conv => whnf)
    (refine Q.r6 (h := ?_); repeat' (first | exact Q.r0 | refine Q.r1 ?_ ?_ | refine Q.r2 ?_ | exact Q.r7 | refine Q.r3 ?_ | refine Q.r4 ?_ | refine Q.r5 ?_))
  | true =>
    have j0 := sizecheck_spec n f
    have hn := sizeB_iff.1 hS
    have j1 := back_spec n f
    rw [hS] at j0 j1
    refine ⟨Spec.bound 2 rfl fun hl => ?_⟩; rw [List.length_map] at hl; refine Spec.ofR (h := fun F w0 => ?_)
    repeat' ((conv => whnf); first | refine Q.a ?_ | refine Q.b ?_ | refine Q.c ?_ | refine Stk.is (by first | assumption | ((try simp only [lE]); first | done | assumption | omega)) ?_ | refine Stk.isnt (by first | assumption | ((try simp only [lE]); first | done | assumption | omega)) ?_ | (refine Stk.both (fun hb => ?_) (fun hb => ?_) <;> (try simp only [lE] at hb)) | refine Q.d ?_ | refine Q.e ?_ | refine Q.f ?_ | refine Q.g ?_ | refine Q.h ?_ | refine Q.i ?_ | refine Q.j ?_ | refine Q.k ?_ | refine Q.l ?_ | refine Q.m ?_ | refine Q.n ?_ | refine Q.o (h := ?_) | refine Q.p (h := ?_) | refine Q.q ?_ | refine Q.r ?_ | refine Q.s ?_ | refine Q.t ?_ | refine Q.u ?_ | refine Q.v ?_ | refine Q.w ?_ | refine Q.x ?_ | refine Q.y ?_ | refine Q.z ?_ | refine Stk.inl (h := fun tm => ?_) | refine Stk.inl0 (h := fun tm => ?_) | refine DefG.go (h := fun vs us => ?_) | intro (tm : Array Value) | refine Stk.op (ok_buildA rfl rfl rfl rfl) ?_ | refine Stk.scope ?_); all_goals (conv => whnf)
    refine Stk.loop (ι := Nat) (fun i => [(0, PV.int n), (1, PV.int f), (2, .sl 6 (l.map Ack.cs)), (7, .fn (.func 238) [] []), (8, PV.int (orN ((l.take i).map Ack.fr) : Nat)), (15, .sl 6 (l.map Ack.cs)), (16, PV.int (l.length : Nat)), (17, PV.int (i : Nat))]) (fun _ => []) (fun i => i ≤ l.length ∧ okTo n l i) (fun i => l.length - i) 0 ⟨Nat.zero_le _, fun j _ hj => by omega⟩ (Weak.gc ⟨rfl, rfl, rfl, rfl, rfl, rfl, rfl, rfl, trivial⟩ trivial rfl rfl rfl) (fun i hi => ?_)
    obtain ⟨hi, hok⟩ := hi
    repeat' ((conv => whnf); first | refine Q.a ?_ | refine Q.b ?_ | refine Q.c ?_ | refine Stk.is (by first | assumption | ((try simp only [lE]); first | done | assumption | omega)) ?_ | refine Stk.isnt (by first | assumption | ((try simp only [lE]); first | done | assumption | omega)) ?_ | (refine Stk.both (fun hb => ?_) (fun hb => ?_) <;> (try simp only [lE] at hb)) | refine Q.d ?_ | refine Q.e ?_ | refine Q.f ?_ | refine Q.g ?_ | refine Q.h ?_ | refine Q.i ?_ | refine Q.j ?_ | refine Q.k ?_ | refine Q.l ?_ | refine Q.m ?_ | refine Q.n ?_ | refine Q.o (h := ?_) | refine Q.p (h := ?_) | refine Q.q ?_ | refine Q.r ?_ | refine Q.s ?_ | refine Q.t ?_ | refine Q.u ?_ | refine Q.v ?_ | refine Q.w ?_ | refine Q.x ?_ | refine Q.y ?_ | refine Q.z ?_ | refine Stk.inl (h := fun tm => ?_) | refine Stk.inl0 (h := fun tm => ?_) | refine DefG.go (h := fun vs us => ?_) | intro (tm : Array Value) | refine Stk.op (ok_buildA rfl rfl rfl rfl) ?_ | refine Stk.scope ?_); all_goals (conv => whnf)
    · rw [ready_bad (i := i) (by omega) (.inl ‹_›)]
      (refine Q.r6 (h := ?_); repeat' (first | exact Q.r0 | refine Q.r1 ?_ ?_ | refine Q.r2 ?_ | exact Q.r7 | refine Q.r3 ?_ | refine Q.r4 ?_ | refine Q.r5 ?_))
    · rw [ready_bad (i := i) (by omega) (.inr (by
        have h := ‹hasB _ _ = true›
        rw [hasB_orN, Bool.and_eq_true, decide_eq_true_iff] at h
        exact h.2))]
      (refine Q.r6 (h := ?_); repeat' (first | exact Q.r0 | refine Q.r1 ?_ ?_ | refine Q.r2 ?_ | exact Q.r7 | refine Q.r3 ?_ | refine Q.r4 ?_ | refine Q.r5 ?_))
    · have h := ‹hasB _ _ = false›
      have hm := mayA_iff.1 ‹mayA n l[i] = true›
      rw [hasB_orN, replB_iff.2 (by omega), Bool.true_and, decide_eq_false_iff_not] at h
      refine ⟨i + 1, ⟨by omega, okTo_succ (by omega) hok ‹_› h⟩, by omega, ?_⟩
      have e : ((l.take (i + 1)).map Ack.fr) = (l.take i).map Ack.fr ++ [l[i].fr] := by rw [take_snoc' l i (by omega), List.map_append]; rfl
      rw [e, ← or_any]
      exact Weak.gc ⟨rfl, rfl, rfl, rfl, rfl, rfl, rfl, rfl, trivial⟩ trivial rfl rfl rfl
    · have e : tst (n - f ≤ (l.length : Int)) = readyB n f l := by
        rw [Bool.eq_iff_iff, tst_true, readyB_iff]
        exact ⟨fun h => ⟨hS, fun j hj _ => hok j hj (by omega), h⟩, fun h => h.2.2⟩
      rw [← e]
      (refine Q.r6 (h := ?_); repeat' (first | exact Q.r0 | refine Q.r1 ?_ ?_ | refine Q.r2 ?_ | exact Q.r7 | refine Q.r3 ?_ | refine Q.r4 ?_ | refine Q.r5 ?_))
end Go.Proofs.YtbjepdfnmbdplaaGreat
end
section
namespace Go.Proofs.YtbjepdfnmbdplaaGreat
open Go.RowKit
set_option linter.unusedSimpArgs false
set_option linter.unusedVariables false
set_option maxRecDepth 100000
set_option maxHeartbeats 1000000
instance notin_spec (a : Ack) (q : Int) : HasSpec Tryz.prog 245 [.agg a.cs, .ptr [PV.int q]] (.v (.bool (!hasB q a.fr))) := by
  refine ⟨?_⟩; refine Spec.ofR (h := fun F w0 => ?_)
  repeat' ((conv => whnf); first | refine Q.E ?_ | (refine Stk.both (fun hb => ?_) (fun hb => ?_) <;> (try simp only [lE] at hb))); all_goals (conv => whnf)
  all_goals (refine Q.r6 (h := ?_); repeat' (first | exact Q.r0 | refine Q.r1 ?_ ?_ | refine Q.r2 ?_ | exact Q.r7 | refine Q.r3 ?_ | refine Q.r4 ?_ | refine Q.r5 ?_))
theorem idxack_spec (l : List Ack) (q : Int) : HasSpec Tryz.prog 218 [.sl 6 (l.map Ack.cs), .fn (.func 245) [] [.ptr [PV.int q]]] (PV.int (idxF (fun a => !hasB q a.fr) l)) := by
  refine ⟨Spec.bound 0 rfl fun hl => ?_⟩; rw [List.length_map] at hl; refine Spec.ofR (h := fun F w0 => ?_)
  repeat' ((conv => whnf); first | refine Q.E ?_ | (refine Stk.both (fun hb => ?_) (fun hb => ?_) <;> (try simp only [lE] at hb))); all_goals (conv => whnf)
  refine Stk.loop (ι := Nat) (fun i => [(0, .sl 6 (l.map Ack.cs)), (1, .fn (.func 245) [] [.ptr [PV.int q]]), (7, PV.int (l.length : Nat)), (8, PV.int (i : Nat))]) (fun _ => []) (fun i => i ≤ l.length ∧ ∀ x ∈ l.take i, (!hasB q x.fr) = false) (fun i => l.length - i) 0 ⟨Nat.zero_le _, by simp⟩ (Weak.gc ⟨rfl, rfl, rfl, rfl, trivial⟩ trivial rfl rfl rfl) (fun i hi => ?_)
  obtain ⟨hi, hno⟩ := hi
  by_cases hlt : i < l.length
  · cases hq : hasB q l[i].fr with
    | false =>
      repeat' ((conv => whnf); first | refine Q.E ?_ | (refine Stk.both (fun hb => ?_) (fun hb => ?_) <;> (try simp only [lE] at hb))); all_goals (conv => whnf)
      rw [idxF_at (k := i) hlt hno (by simp [hq])]
      (refine Q.r6 (h := ?_); repeat' (first | exact Q.r0 | refine Q.r1 ?_ ?_ | refine Q.r2 ?_ | exact Q.r7 | refine Q.r3 ?_ | refine Q.r4 ?_ | refine Q.r5 ?_))
    | true =>
      repeat' ((conv => whnf); first | refine Q.E ?_ | (refine Stk.both (fun hb => ?_) (fun hb => ?_) <;> (try simp only [lE] at hb))); all_goals (conv => whnf)
      exact ⟨i + 1, ⟨by omega, take_no hlt hno (by simp [hq])⟩, by omega, Weak.gc ⟨rfl, rfl, rfl, rfl, trivial⟩ trivial rfl rfl rfl⟩
  · repeat' ((conv => whnf); first | refine Q.E ?_ | (refine Stk.both (fun hb => ?_) (fun hb => ?_) <;> (try simp only [lE] at hb))); all_goals (conv => whnf)
    rw [idxF_no (take_all (by omega) hno)]
    (refine Q.r6 (h := ?_); repeat' (first | exact Q.r0 | refine Q.r1 ?_ ?_ | refine Q.r2 ?_ | exact Q.r7 | refine Q.r3 ?_ | refine Q.r4 ?_ | refine Q.r5 ?_))
theorem inQ_all {q : Int} {l : List Ack} (h : ∀ a ∈ l, hasB q a.fr = true) : inQ q l = l := List.filter_eq_self.2 h
theorem filter_take_s (p : Ack → Bool) (l : List Ack) (b : Nat) (h : b < l.length) : (l.take (b + 1)).filter p = (l.take b).filter p ++ (if p l[b] = true then [l[b]] else []) := by
  rw [take_snoc' l b h, List.filter_append, List.filter_cons, List.filter_nil]
theorem choose_c (n f q id : Int) (l : List Ack) (hl : l.length ≤ 1000000) (hr : readyB n f l = true) (hq : 1 ≤ q ∧ q ≤ 511) (hs : 1 ≤ selfI id ∧ selfI id ≤ n) (ht : ¬ 0 < (toldF l).1) (hlost : lostB q (selfI id) l = false) (hne : l ≠ []) (k0 : Nat) (hk : k0 < l.length) (hb : ∀ a ∈ l.take k0, hasB q a.fr = true) (hkq : hasB q l[k0].fr = false) :
    HasSpec Tryz.prog 189 [PV.int n, PV.int f, PV.int q, PV.int id, .sl 6 (l.map Ack.cs)] (.tup [PV.int (if inQ q l = [] then 0 else greatI (inQ q l)), PV.int (if inQ q l = [] then 33 else 0)]) := by
  have jx := idxack_spec l q
  rw [idxF_at (k := k0) hk (fun a ha => by rw [hb a ha]; rfl) (by rw [hkq]; rfl)] at jx
  refine ⟨?_⟩; refine Spec.ofR (h := fun F w0 => ?_)
  repeat' ((conv => whnf); first | refine Q.E ?_ | (refine Stk.both (fun hb => ?_) (fun hb => ?_) <;> (try simp only [lE] at hb))); all_goals (conv => whnf)
  refine Stk.weakC (Weak.frzBox (id := 7) (cells := [PV.int q]) (env' := [(50, .sl 6 (l.map Ack.cs)), (7, .ptr [PV.int q])]) (lh' := []) rfl rfl ⟨.inl ⟨rfl, rfl⟩, .inr ⟨rfl, rfl⟩, trivial⟩ trivial rfl) ?_
  conv => whnf
  refine Stk.byO (cloneack_spec l hl) (h := ?_)
  repeat' ((conv => whnf); first | refine Q.E ?_ | (refine Stk.both (fun hb => ?_) (fun hb => ?_) <;> (try simp only [lE] at hb))); all_goals (conv => whnf)
  refine Stk.inl (h := fun tm => ?_)
  repeat' ((conv => whnf); first | refine Q.E ?_ | (refine Stk.both (fun hb => ?_) (fun hb => ?_) <;> (try simp only [lE] at hb))); all_goals (conv => whnf)
  refine Stk.callB jx (hb := by exact .cons (.row rfl (all_map_closed (fun _ => rfl) _)) (.cons (.sub rfl (.refl _)) .nil)) (k := ?_)
  repeat' ((conv => whnf); first | refine Q.E ?_ | (refine Stk.both (fun hb => ?_) (fun hb => ?_) <;> (try simp only [lE] at hb))); all_goals (conv => whnf)
  refine Stk.loop (ι := Nat × Nat × List Ack) (fun p => [(0, .row 51 0), (1, .fn (.func 245) [] [.ptr [PV.int q]]), (5, PV.int (p.1 : Nat)), (6, PV.int (p.2.1 : Nat))]) (fun p => [(51, .row 86 6 0 (p.2.2.map Ack.cs))]) (fun p => p.1 < p.2.1 ∧ p.2.1 ≤ l.length ∧ p.2.2.length = l.length ∧ p.2.2.take p.1 = (l.take p.2.1).filter (fun a => hasB q a.fr) ∧ p.2.2.drop p.2.1 = l.drop p.2.1) (fun p => l.length - p.2.1) (k0, k0 + 1, l) ⟨by show k0 < k0 + 1; omega, by show k0 + 1 ≤ _; omega, rfl, by
      show l.take k0 = (l.take (k0 + 1)).filter _
      rw [filter_take_s _ _ _ hk, if_neg (by rw [hkq]; simp), List.append_nil]
      exact (List.filter_eq_self.2 hb).symm, rfl⟩ (Weak.gc ⟨rfl, rfl, rfl, rfl, trivial⟩ ⟨rfl, trivial⟩ rfl (onlyH_row (fun _ => rfl) rfl) rfl) (fun p hp => ?_)
  obtain ⟨a, b, zs⟩ := p
  obtain ⟨hab, hbl, hzl, htk, hdr⟩ := hp
  dsimp only at hab hbl hzl htk hdr ⊢
  by_cases hlt : b < l.length
  · have hzb : zs[b] = l[b] := by
      have h1 : (zs.drop b)[0]? = (l.drop b)[0]? := by rw [hdr]
      rw [List.getElem?_drop, List.getElem?_drop, Nat.add_zero, List.getElem?_eq_getElem (by omega), List.getElem?_eq_getElem hlt] at h1
      injection h1
    have hd2 : zs.drop (b + 1) = l.drop (b + 1) := by
      have := congrArg (List.drop 1) hdr
      rwa [List.drop_drop, List.drop_drop] at this
    cases hq2 : hasB q l[b].fr with
    | true =>
      repeat' ((conv => whnf); first | refine Q.E ?_ | (refine Stk.both (fun hb => ?_) (fun hb => ?_) <;> (try simp only [lE] at hb))); all_goals (conv => whnf)
      refine Stk.op (ok_ix_row (i := b) rfl rfl rfl (by omega) rfl) ?_
      repeat' ((conv => whnf); first | refine Q.E ?_ | (refine Stk.both (fun hb => ?_) (fun hb => ?_) <;> (try simp only [lE] at hb))); all_goals (conv => whnf)
      refine Stk.op (ok_ld_row (f := Ack.cs) (fun _ => rfl) rfl rfl (by omega) rfl) ?_
      rw [hzb]
      repeat' ((conv => whnf); first | refine Q.E ?_ | (refine Stk.both (fun hb => ?_) (fun hb => ?_) <;> (try simp only [lE] at hb))); all_goals (conv => whnf)
      refine Stk.op (ok_ix_row (i := a) rfl rfl rfl (by omega) rfl) ?_
      repeat' ((conv => whnf); first | refine Q.E ?_ | (refine Stk.both (fun hb => ?_) (fun hb => ?_) <;> (try simp only [lE] at hb))); all_goals (conv => whnf)
      refine Stk.eff (h := eff_st_row (f := Ack.cs) (a := l[b]) (fun _ => rfl) rfl rfl (by omega) rfl) (k := ?_)
      repeat' ((conv => whnf); first | refine Q.E ?_ | (refine Stk.both (fun hb => ?_) (fun hb => ?_) <;> (try simp only [lE] at hb))); all_goals (conv => whnf)
      refine ⟨(a + 1, b + 1, zs.set a l[b]), ⟨by show a + 1 < b + 1; omega, by show b + 1 ≤ _; omega, by show (zs.set a l[b]).length = _; rw [List.length_set]; exact hzl, ?_, ?_⟩, by show l.length - (b + 1) < l.length - b; omega, Weak.gc ⟨rfl, rfl, rfl, rfl, trivial⟩ ⟨rfl, trivial⟩ rfl (onlyH_row (fun _ => rfl) rfl) rfl⟩
      · show (zs.set a l[b]).take (a + 1) = (l.take (b + 1)).filter _
        rw [take_set_at zs a l[b] (by omega), htk, filter_take_s _ _ _ hlt, if_pos hq2]
      · show (zs.set a l[b]).drop (b + 1) = l.drop (b + 1)
        rw [drop_set_lt zs a (b + 1) l[b] (by omega), hd2]
    | false =>
      repeat' ((conv => whnf); first | refine Q.E ?_ | (refine Stk.both (fun hb => ?_) (fun hb => ?_) <;> (try simp only [lE] at hb))); all_goals (conv => whnf)
      refine Stk.op (ok_ix_row (i := b) rfl rfl rfl (by omega) rfl) ?_
      repeat' ((conv => whnf); first | refine Q.E ?_ | (refine Stk.both (fun hb => ?_) (fun hb => ?_) <;> (try simp only [lE] at hb))); all_goals (conv => whnf)
      refine Stk.op (ok_ld_row (f := Ack.cs) (fun _ => rfl) rfl rfl (by omega) rfl) ?_
      rw [hzb]
      repeat' ((conv => whnf); first | refine Q.E ?_ | (refine Stk.both (fun hb => ?_) (fun hb => ?_) <;> (try simp only [lE] at hb))); all_goals (conv => whnf)
      refine ⟨(a, b + 1, zs), ⟨by show a < b + 1; omega, by show b + 1 ≤ _; omega, hzl, ?_, hd2⟩, by show l.length - (b + 1) < l.length - b; omega, Weak.gc ⟨rfl, rfl, rfl, rfl, trivial⟩ ⟨rfl, trivial⟩ rfl (onlyH_row (fun _ => rfl) rfl) rfl⟩
      show zs.take a = (l.take (b + 1)).filter _
      rw [htk, filter_take_s _ _ _ hlt, if_neg (by rw [hq2]; simp), List.append_nil]
  · have hb2 : b = l.length := by omega
    have hfin : zs.take a = inQ q l := by rw [htk, hb2, List.take_length]; rfl
    have hfl : (inQ q l).length = a := by rw [← hfin, List.length_take]; omega
    repeat' ((conv => whnf); first | refine Q.E ?_ | (refine Stk.both (fun hb => ?_) (fun hb => ?_) <;> (try simp only [lE] at hb))); all_goals (conv => whnf)
    refine Stk.op (ok_part_lo rfl rfl rfl (by omega) (by rw [List.length_map]; omega) rfl) ?_
    repeat' ((conv => whnf); first | refine Q.E ?_ | (refine Stk.both (fun hb => ?_) (fun hb => ?_) <;> (try simp only [lE] at hb))); all_goals (conv => whnf)
    refine Stk.eff (h := eff_clear_rs rfl rfl (by rw [List.length_map]; omega) (by rw [List.length_map]; omega) (by decide) rfl rfl) (k := ?_)
    repeat' ((conv => whnf); first | refine Q.E ?_ | (refine Stk.both (fun hb => ?_) (fun hb => ?_) <;> (try simp only [lE] at hb))); all_goals (conv => whnf)
    refine Stk.app rfl (eff_cut_map (l := zs) (f := Ack.cs) (i := a) rfl rfl rfl (by omega) (by intro h; have := congrArg List.length h; simp at this; omega) rfl) ?_
    rw [hfin]
    by_cases hz : inQ q l = []
    · rw [if_pos hz, if_pos hz]
      have hz2 : a = 0 := by rw [← hfl, hz]; rfl
      repeat' ((conv => whnf); first | refine Q.E ?_ | (refine Stk.both (fun hb => ?_) (fun hb => ?_) <;> (try simp only [lE] at hb))); all_goals (conv => whnf)
      all_goals (refine Q.r6 (h := ?_); repeat' (first | exact Q.r0 | refine Q.r1 ?_ ?_ | refine Q.r2 ?_ | exact Q.r7 | refine Q.r3 ?_ | refine Q.r4 ?_ | refine Q.r5 ?_))
    · rw [if_neg hz, if_neg hz]
      have hz2 : 0 < (inQ q l).length := Nat.pos_of_ne_zero fun h => hz (List.eq_nil_of_length_eq_zero h)
      repeat' ((conv => whnf); first | refine Q.E ?_ | (refine Stk.both (fun hb => ?_) (fun hb => ?_) <;> (try simp only [lE] at hb))); all_goals (conv => whnf)
      refine Stk.callB (great_spec (inQ q l)) (hb := by exact .cons (.row rfl (all_map_closed (fun _ => rfl) _)) .nil) (k := ?_)
      repeat' ((conv => whnf); first | refine Q.E ?_ | (refine Stk.both (fun hb => ?_) (fun hb => ?_) <;> (try simp only [lE] at hb))); all_goals (conv => whnf)
      (refine Q.r6 (h := ?_); repeat' (first | exact Q.r0 | refine Q.r1 ?_ ?_ | refine Q.r2 ?_ | exact Q.r7 | refine Q.r3 ?_ | refine Q.r4 ?_ | refine Q.r5 ?_))
end Go.Proofs.YtbjepdfnmbdplaaGreat
end
section
namespace Go.Proofs.YtbjepdfnmbdplaaGreat
open Go.RowKit
set_option linter.unusedSimpArgs false
set_option linter.unusedVariables false
set_option maxRecDepth 100000
set_option maxHeartbeats 1000000
theorem choose_spec (n f q id : Int) (l : List Ack) (hl : l.length ≤ 1000000) : HasSpec Tryz.prog 189 [PV.int n, PV.int f, PV.int q, PV.int id, .sl 6 (l.map Ack.cs)] (.tup [PV.int (chooseR n f q id l).1, PV.int (chooseR n f q id l).2]) := by
  by_cases hc : readyB n f l = true ∧ (listS q 9).length ≠ 0 ∧ 1 ≤ selfI id ∧ selfI id ≤ n
  · obtain ⟨hr, hq0, hs⟩ := hc
    have hq : 1 ≤ q ∧ q ≤ 511 := by
      have := cnt_zero q
      by_cases h : 1 ≤ q ∧ q ≤ 511
      · exact h
      · have h2 : ((listS q 9).length : Int) = 0 := this.mpr h
        omega
    have hne : l ≠ [] := fun e => by
      have hp := readyB_iff.1 hr
      have := hp.2.2
      have h3 := sizeB_iff.1 hp.1
      rw [e] at this; simp at this; omega
    by_cases ht : 0 < (toldF l).1
    · rw [show chooseR n f q id l = ((toldF l).2, 0) by unfold chooseR; rw [if_pos ⟨hr, hq0, hs⟩, if_pos ht]]
      refine ⟨?_⟩; refine Spec.ofR (h := fun F w0 => ?_)
      repeat' ((conv => whnf); first | refine Q.E ?_ | (refine Stk.both (fun hb => ?_) (fun hb => ?_) <;> (try simp only [lE] at hb))); all_goals (conv => whnf)
      all_goals (refine Q.r6 (h := ?_); repeat' (first | exact Q.r0 | refine Q.r1 ?_ ?_ | refine Q.r2 ?_ | exact Q.r7 | refine Q.r3 ?_ | refine Q.r4 ?_ | refine Q.r5 ?_))
    · cases hlost : lostB q (selfI id) l with
      | true =>
        rw [show chooseR n f q id l = (greatI l, 0) by unfold chooseR; rw [if_pos ⟨hr, hq0, hs⟩, if_neg ht, if_pos hlost]]
        refine ⟨?_⟩; refine Spec.ofR (h := fun F w0 => ?_)
        repeat' ((conv => whnf); first | refine Q.E ?_ | (refine Stk.both (fun hb => ?_) (fun hb => ?_) <;> (try simp only [lE] at hb))); all_goals (conv => whnf)
        all_goals (refine Q.r6 (h := ?_); repeat' (first | exact Q.r0 | refine Q.r1 ?_ ?_ | refine Q.r2 ?_ | exact Q.r7 | refine Q.r3 ?_ | refine Q.r4 ?_ | refine Q.r5 ?_))
      | false =>
        have e0 : chooseR n f q id l = (if inQ q l = [] then 0 else greatI (inQ q l), if inQ q l = [] then 33 else 0) := by
          unfold chooseR
          rw [if_pos ⟨hr, hq0, hs⟩, if_neg ht, if_neg (by rw [hlost]; simp)]
          split <;> rfl
        rw [e0]
        by_cases hall : ∀ a ∈ l, hasB q a.fr = true
        · have jx := idxack_spec l q
          rw [idxF_no (fun a ha => by rw [hall a ha]; rfl)] at jx
          have hz2 : 0 < l.length := Nat.pos_of_ne_zero fun h => hne (List.eq_nil_of_length_eq_zero h)
          rw [inQ_all hall, if_neg hne, if_neg hne]
          refine ⟨?_⟩; refine Spec.ofR (h := fun F w0 => ?_)
          repeat' ((conv => whnf); first | refine Q.E ?_ | (refine Stk.both (fun hb => ?_) (fun hb => ?_) <;> (try simp only [lE] at hb))); all_goals (conv => whnf)
          refine Stk.weakC (Weak.frzBox (id := 7) (cells := [PV.int q]) (env' := [(50, .sl 6 (l.map Ack.cs)), (7, .ptr [PV.int q])]) (lh' := []) rfl rfl ⟨.inl ⟨rfl, rfl⟩, .inr ⟨rfl, rfl⟩, trivial⟩ trivial rfl) ?_
          conv => whnf
          refine Stk.byO (cloneack_spec l hl) (h := ?_)
          repeat' ((conv => whnf); first | refine Q.E ?_ | (refine Stk.both (fun hb => ?_) (fun hb => ?_) <;> (try simp only [lE] at hb))); all_goals (conv => whnf)
          refine Stk.inl (h := fun tm => ?_)
          repeat' ((conv => whnf); first | refine Q.E ?_ | (refine Stk.both (fun hb => ?_) (fun hb => ?_) <;> (try simp only [lE] at hb))); all_goals (conv => whnf)
          refine Stk.callB jx (hb := by exact .cons (.row rfl (all_map_closed (fun _ => rfl) _)) (.cons (.sub rfl (.refl _)) .nil)) (k := ?_)
          repeat' ((conv => whnf); first | refine Q.E ?_ | (refine Stk.both (fun hb => ?_) (fun hb => ?_) <;> (try simp only [lE] at hb))); all_goals (conv => whnf)
          refine Stk.callB (great_spec l) (hb := by exact .cons (.row rfl (all_map_closed (fun _ => rfl) _)) .nil) (k := ?_)
          repeat' ((conv => whnf); first | refine Q.E ?_ | (refine Stk.both (fun hb => ?_) (fun hb => ?_) <;> (try simp only [lE] at hb))); all_goals (conv => whnf)
          (refine Q.r6 (h := ?_); repeat' (first | exact Q.r0 | refine Q.r1 ?_ ?_ | refine Q.r2 ?_ | exact Q.r7 | refine Q.r3 ?_ | refine Q.r4 ?_ | refine Q.r5 ?_))
        · have hex : (l.any fun a => !hasB q a.fr) = true := by
            rw [List.any_eq_true]
            by_cases h : ∃ x ∈ l, (!hasB q x.fr) = true
            · exact h
            · exact absurd (fun a ha => by
                cases e : hasB q a.fr with
                | true => rfl
                | false => exact absurd ⟨a, ha, by rw [e]; rfl⟩ h) hall
          have hk : l.findIdx (fun a => !hasB q a.fr) < l.length := List.findIdx_lt_length_of_exists (List.any_eq_true.1 hex)
          refine choose_c n f q id l hl hr hq hs ht hlost hne _ hk (fun a ha => ?_) ?_
          · obtain ⟨j, hj, rfl⟩ := List.mem_take_iff_getElem.1 ha
            have := List.not_of_lt_findIdx (p := fun a : Ack => !hasB q a.fr) (xs := l) (i := j) (by omega)
            simpa using this
          · have := List.findIdx_getElem (p := fun a : Ack => !hasB q a.fr) (xs := l) (w := hk)
            simpa using this
  · rw [show chooseR n f q id l = (0, 2) from if_neg hc]
    have hcz := cnt_zero q
    cases hr : readyB n f l with
    | false =>
      refine ⟨?_⟩; refine Spec.ofR (h := fun F w0 => ?_)
      repeat' ((conv => whnf); first | refine Q.E ?_ | (refine Stk.both (fun hb => ?_) (fun hb => ?_) <;> (try simp only [lE] at hb))); all_goals (conv => whnf)
      all_goals (refine Q.r6 (h := ?_); repeat' (first | exact Q.r0 | refine Q.r1 ?_ ?_ | refine Q.r2 ?_ | exact Q.r7 | refine Q.r3 ?_ | refine Q.r4 ?_ | refine Q.r5 ?_))
    | true =>
      by_cases hq : 1 ≤ q ∧ q ≤ 511
      · have hlen : ((listS q 9).length : Int) ≠ 0 := fun h => (hcz.mp h) hq
        have hno : ¬ (1 ≤ selfI id ∧ selfI id ≤ n) := fun hs => hc ⟨hr, by omega, hs⟩
        clear hcz
        by_cases h1 : selfI id < 1
        · refine ⟨?_⟩; refine Spec.ofR (h := fun F w0 => ?_)
          repeat' ((conv => whnf); first | refine Q.E ?_ | (refine Stk.both (fun hb => ?_) (fun hb => ?_) <;> (try simp only [lE] at hb))); all_goals (conv => whnf)
          all_goals (refine Q.r6 (h := ?_); repeat' (first | exact Q.r0 | refine Q.r1 ?_ ?_ | refine Q.r2 ?_ | exact Q.r7 | refine Q.r3 ?_ | refine Q.r4 ?_ | refine Q.r5 ?_))
        · have h2 : n < selfI id := by omega
          refine ⟨?_⟩; refine Spec.ofR (h := fun F w0 => ?_)
          repeat' ((conv => whnf); first | refine Q.E ?_ | (refine Stk.both (fun hb => ?_) (fun hb => ?_) <;> (try simp only [lE] at hb))); all_goals (conv => whnf)
          all_goals (refine Q.r6 (h := ?_); repeat' (first | exact Q.r0 | refine Q.r1 ?_ ?_ | refine Q.r2 ?_ | exact Q.r7 | refine Q.r3 ?_ | refine Q.r4 ?_ | refine Q.r5 ?_))
      · refine ⟨?_⟩; refine Spec.ofR (h := fun F w0 => ?_)
        repeat' ((conv => whnf); first | refine Q.E ?_ | (refine Stk.both (fun hb => ?_) (fun hb => ?_) <;> (try simp only [lE] at hb))); all_goals (conv => whnf)
        all_goals (refine Q.r6 (h := ?_); repeat' (first | exact Q.r0 | refine Q.r1 ?_ ?_ | refine Q.r2 ?_ | exact Q.r7 | refine Q.r3 ?_ | refine Q.r4 ?_ | refine Q.r5 ?_))
end Go.Proofs.YtbjepdfnmbdplaaGreat
end
section
namespace Go.Proofs.YtbjepdfnmbdplaaGreat
open Go.RowKit
set_option linter.unusedSimpArgs false
set_option linter.unusedVariables false
set_option maxRecDepth 100000
set_option maxHeartbeats 4000000
instance refready24_spec (n f : Int) (l : List Ack) : HasSpec Tryz.prog 107 [PV.int n, PV.int f, .sl 6 (l.map Ack.cs)] (.v (.bool (readyB n f l))) := by
  cases hS : sizeB n f with
  | false =>
    have j0 := rsizebad hS
    rw [readyB_not (fun h => by have := h.1; rw [hS] at this; cases this)]
    refine ⟨?_⟩; refine Spec.ofR (h := fun F w0 => ?_)
    repeat' ((conv => whnf); first | refine Q.E ?_ | (refine Stk.both (fun hb => ?_) (fun hb => ?_) <;> (try simp only [lE] at hb))); all_goals (conv => whnf)
    (refine Q.r6 (h := ?_); repeat' (first | exact Q.r0 | refine Q.r1 ?_ ?_ | refine Q.r2 ?_ | exact Q.r7 | refine Q.r3 ?_ | refine Q.r4 ?_ | refine Q.r5 ?_))
  | true =>
    have j0 := rsizeok hS
    have hn := sizeB_iff.1 hS
    by_cases hl : n - f ≤ (l.length : Int)
    · refine ⟨Spec.bound 2 rfl fun hl => ?_⟩; rw [List.length_map] at hl; refine Spec.ofR (h := fun F w0 => ?_)
      rename_i hl0
      repeat' ((conv => whnf); first | refine Q.E ?_ | (refine Stk.both (fun hb => ?_) (fun hb => ?_) <;> (try simp only [lE] at hb))); all_goals (conv => whnf)
      refine Stk.loop (ι := Nat) (fun i => [(0, PV.int n), (2, .sl 6 (l.map Ack.cs)), (10, PV.int (i : Nat))]) (fun _ => []) (fun i => i ≤ l.length ∧ okTo n l i) (fun i => l.length - i) 0 ⟨Nat.zero_le _, fun j hj h => by omega⟩ (Weak.gc ⟨rfl, rfl, rfl, trivial⟩ trivial rfl rfl rfl) (fun i hi => ?_)
      obtain ⟨hi, hok⟩ := hi
      by_cases hlt : i < l.length
      · by_cases hm : l[i].kind = 3 ∧ 1 ≤ l[i].fr ∧ l[i].fr ≤ n ∧ 1 ≤ l[i].t
        · have hmb := mayA_iff.2 hm
          repeat' ((conv => whnf); first | refine Q.E ?_ | (refine Stk.both (fun hb => ?_) (fun hb => ?_) <;> (try simp only [lE] at hb))); all_goals (conv => whnf)
          refine Stk.loop (ι := Nat) (fun k => [(0, PV.int n), (2, .sl 6 (l.map Ack.cs)), (10, PV.int (i : Nat)), (11, PV.int (k : Nat))]) (fun _ => []) (fun k => k ≤ i ∧ l[i].fr ∉ (l.take k).map Ack.fr) (fun k => i - k) 0 ⟨Nat.zero_le _, by simp⟩ (Weak.gc ⟨rfl, rfl, rfl, rfl, trivial⟩ trivial rfl rfl rfl) (fun k hk => ?_)
          obtain ⟨hk, hno⟩ := hk
          by_cases hlk : k < i
          · have hkl : k < l.length := by omega
            by_cases hq : l[k].fr = l[i].fr
            · rw [ready_bad (i := i) hlt (.inr (List.mem_map.2 ⟨l[k], List.mem_take_iff_getElem.2 ⟨k, by omega, rfl⟩, hq⟩))]
              repeat' ((conv => whnf); first | refine Q.E ?_ | (refine Stk.both (fun hb => ?_) (fun hb => ?_) <;> (try simp only [lE] at hb))); all_goals (conv => whnf)
              (refine Q.r6 (h := ?_); repeat' (first | exact Q.r0 | refine Q.r1 ?_ ?_ | refine Q.r2 ?_ | exact Q.r7 | refine Q.r3 ?_ | refine Q.r4 ?_ | refine Q.r5 ?_))
            · repeat' ((conv => whnf); first | refine Q.E ?_ | (refine Stk.both (fun hb => ?_) (fun hb => ?_) <;> (try simp only [lE] at hb))); all_goals (conv => whnf)
              exact ⟨k + 1, ⟨by omega, by rw [take_snoc' l k hkl, List.map_append, List.mem_append]; simp only [List.map_cons, List.map_nil, List.mem_singleton]; rintro (h | h); exact hno h; exact hq h.symm⟩, by omega, Weak.gc ⟨rfl, rfl, rfl, rfl, trivial⟩ trivial rfl rfl rfl⟩
          · obtain rfl : k = i := by omega
            repeat' ((conv => whnf); first | refine Q.E ?_ | (refine Stk.both (fun hb => ?_) (fun hb => ?_) <;> (try simp only [lE] at hb))); all_goals (conv => whnf)
            exact ⟨k + 1, ⟨by omega, okTo_succ hlt hok hmb hno⟩, by omega, Weak.gc ⟨rfl, rfl, rfl, trivial⟩ trivial rfl rfl rfl⟩
        · rw [ready_bad (i := i) hlt (.inl (by unfold mayA; exact decide_eq_false hm))]
          repeat' ((conv => whnf); first | refine Q.E ?_ | (refine Stk.both (fun hb => ?_) (fun hb => ?_) <;> (try simp only [lE] at hb))); all_goals (conv => whnf)
          all_goals first | (exfalso; omega) | (refine Q.r6 (h := ?_); repeat' (first | exact Q.r0 | refine Q.r1 ?_ ?_ | refine Q.r2 ?_ | exact Q.r7 | refine Q.r3 ?_ | refine Q.r4 ?_ | refine Q.r5 ?_))
      · rw [readyB_iff.2 ⟨hS, fun j hj _ => hok j hj (by omega), hl0⟩]
        repeat' ((conv => whnf); first | refine Q.E ?_ | (refine Stk.both (fun hb => ?_) (fun hb => ?_) <;> (try simp only [lE] at hb))); all_goals (conv => whnf)
        (refine Q.r6 (h := ?_); repeat' (first | exact Q.r0 | refine Q.r1 ?_ ?_ | refine Q.r2 ?_ | exact Q.r7 | refine Q.r3 ?_ | refine Q.r4 ?_ | refine Q.r5 ?_))
    · rw [readyB_not (fun h => hl h.2.2)]
      refine ⟨?_⟩; refine Spec.ofR (h := fun F w0 => ?_)
      repeat' ((conv => whnf); first | refine Q.E ?_ | (refine Stk.both (fun hb => ?_) (fun hb => ?_) <;> (try simp only [lE] at hb))); all_goals (conv => whnf)
      (refine Q.r6 (h := ?_); repeat' (first | exact Q.r0 | refine Q.r1 ?_ ?_ | refine Q.r2 ?_ | exact Q.r7 | refine Q.r3 ?_ | refine Q.r4 ?_ | refine Q.r5 ?_))
instance reflost24_spec (q c : Int) (l : List Ack) : HasSpec Tryz.prog 192 [PV.int q, PV.int c, .sl 6 (l.map Ack.cs)] (.v (.bool (lostB q c l))) := by
  refine ⟨Spec.bound 2 rfl fun hl => ?_⟩; rw [List.length_map] at hl; refine Spec.ofR (h := fun F w0 => ?_)
  repeat' ((conv => whnf); first | refine Q.E ?_ | (refine Stk.both (fun hb => ?_) (fun hb => ?_) <;> (try simp only [lE] at hb))); all_goals (conv => whnf)
  refine Stk.loop (ι := Nat) (fun i => [(0, PV.int q), (1, PV.int c), (2, .sl 6 (l.map Ack.cs)), (7, PV.int (i : Nat))]) (fun _ => []) (fun i => i ≤ l.length ∧ ∀ a ∈ l.take i, lostOf q c a = false) (fun i => l.length - i) 0 ⟨Nat.zero_le _, by simp⟩ (Weak.gc ⟨rfl, rfl, rfl, rfl, trivial⟩ trivial rfl rfl rfl) (fun i hi => ?_)
  obtain ⟨hi, hno⟩ := hi
  by_cases hlt : i < l.length
  · have j1 := refhas_spec q l[i].fr
    cases hb : hasB q l[i].fr with
    | false =>
      rw [hb] at j1
      repeat' ((conv => whnf); first | refine Q.E ?_ | (refine Stk.both (fun hb => ?_) (fun hb => ?_) <;> (try simp only [lE] at hb))); all_goals (conv => whnf)
      exact ⟨i + 1, ⟨by omega, take_no hlt hno (by unfold lostOf; rw [hb]; rfl)⟩, by omega, Weak.gc ⟨rfl, rfl, rfl, rfl, trivial⟩ trivial rfl rfl rfl⟩
    | true =>
      rw [hb] at j1
      by_cases hc : l[i].fr = c ∨ l[i].phase = 4
      · rw [lost_at hlt (by unfold lostOf; rw [hb, decide_eq_true hc]; rfl)]
        repeat' ((conv => whnf); first | refine Q.E ?_ | (refine Stk.both (fun hb => ?_) (fun hb => ?_) <;> (try simp only [lE] at hb))); all_goals (conv => whnf)
        all_goals first | (exfalso; omega) | (refine Q.r6 (h := ?_); repeat' (first | exact Q.r0 | refine Q.r1 ?_ ?_ | refine Q.r2 ?_ | exact Q.r7 | refine Q.r3 ?_ | refine Q.r4 ?_ | refine Q.r5 ?_))
      · repeat' ((conv => whnf); first | refine Q.E ?_ | (refine Stk.both (fun hb => ?_) (fun hb => ?_) <;> (try simp only [lE] at hb))); all_goals (conv => whnf)
        all_goals first | (exfalso; omega) | exact ⟨i + 1, ⟨by omega, take_no hlt hno (by unfold lostOf; rw [hb, decide_eq_false hc]; rfl)⟩, by omega, Weak.gc ⟨rfl, rfl, rfl, rfl, trivial⟩ trivial rfl rfl rfl⟩
  · rw [lost_no (take_all (by omega) hno)]
    repeat' ((conv => whnf); first | refine Q.E ?_ | (refine Stk.both (fun hb => ?_) (fun hb => ?_) <;> (try simp only [lE] at hb))); all_goals (conv => whnf)
    (refine Q.r6 (h := ?_); repeat' (first | exact Q.r0 | refine Q.r1 ?_ ?_ | refine Q.r2 ?_ | exact Q.r7 | refine Q.r3 ?_ | refine Q.r4 ?_ | refine Q.r5 ?_))
end Go.Proofs.YtbjepdfnmbdplaaGreat
end
section
namespace Go.Proofs.YtbjepdfnmbdplaaGreat
open Go.RowKit
set_option linter.unusedSimpArgs false
set_option linter.unusedVariables false
set_option maxRecDepth 100000
set_option maxHeartbeats 4000000
theorem toldF_first : ∀ l : List Ack, 0 < (toldF l).1 → ∃ i, ∃ h : i < l.length, l[i].abal = (toldF l).1 ∧ l[i].t = (toldF l).2 ∧ ∀ k (hk : k < l.length), k < i → l[k].abal < l[i].abal := by
  intro l
  refine rev_ind (p := fun l => 0 < (toldF l).1 → ∃ i, ∃ h : i < l.length, l[i].abal = (toldF l).1 ∧ l[i].t = (toldF l).2 ∧ ∀ k (hk : k < l.length), k < i → l[k].abal < l[i].abal) (fun h => absurd h (by decide)) (fun l b ih => ?_) l
  rw [toldF_snoc]
  unfold toldStep
  split
  · rename_i hlt
    intro _
    refine ⟨l.length, by simp, by simp, by simp, fun k hk hki => ?_⟩
    have := (toldF_spec l).1 l[k] (List.getElem_mem hki)
    rw [List.getElem_append_left hki]
    simp
    omega
  · rename_i hlt
    intro h
    obtain ⟨i, hi, h1, h2, h3⟩ := ih h
    refine ⟨i, by simp; omega, by rw [List.getElem_append_left hi]; exact h1, by rw [List.getElem_append_left hi]; exact h2, fun k hk hki => ?_⟩
    rw [List.getElem_append_left hi, List.getElem_append_left (by omega)]
    exact h3 k (by omega) hki
theorem toldF_none : ∀ l : List Ack, ¬ 0 < (toldF l).1 → (toldF l).2 = 0 := by
  intro l
  refine rev_ind (p := fun l => ¬ 0 < (toldF l).1 → (toldF l).2 = 0) (fun _ => rfl) (fun l b ih => ?_) l
  rw [toldF_snoc]
  unfold toldStep
  split
  · rename_i hlt
    intro h
    have := (toldF_spec l).2.1
    exact absurd (show 0 < b.abal by omega) h
  · exact ih
def firstP (l : List Ack) (i k : Nat) : Prop := ∀ (h : i < l.length), 0 < l[i].abal ∧ ∀ j (hj : j < l.length), j < k → (l[j].abal < l[i].abal ∨ (l[j].abal = l[i].abal ∧ i ≤ j))
theorem firstP_succ {l : List Ack} {i k : Nat} (hi : i < l.length) (hk : k < l.length) : firstP l i (k + 1) ↔ firstP l i k ∧ (l[k].abal < l[i].abal ∨ (l[k].abal = l[i].abal ∧ i ≤ k)) := by
  constructor
  · intro h
    exact ⟨fun hi => ⟨(h hi).1, fun j hj hjk => (h hi).2 j hj (by omega)⟩, (h hi).2 k hk (by omega)⟩
  · rintro ⟨h1, h2⟩ hi
    refine ⟨(h1 hi).1, fun j hj hjk => ?_⟩
    by_cases e : j = k
    · subst e; exact h2
    · exact (h1 hi).2 j hj (by omega)
theorem first_told {l : List Ack} {i : Nat} (hi : i < l.length) (h : firstP l i l.length) : (toldF l).2 = l[i].t ∧ 0 < (toldF l).1 := by
  obtain ⟨h1, h2⟩ := h hi
  have h3 := (toldF_spec l).1 l[i] (List.getElem_mem hi)
  obtain ⟨j, hj, a1, a2, a3⟩ := toldF_first l (by omega)
  have h4 := h2 j hj hj
  have : i = j := by
    rcases Nat.lt_trichotomy i j with e | e | e
    · have := a3 i hi e; omega
    · exact e
    · omega
  subst this
  exact ⟨a2.symm, by omega⟩
theorem first_none {l : List Ack} (h : ∀ i (hi : i < l.length), ¬ firstP l i l.length) : ¬ 0 < (toldF l).1 := fun h0 => by
  obtain ⟨j, hj, a1, a2, a3⟩ := toldF_first l h0
  refine h j hj fun hj => ⟨by omega, fun k hk _ => ?_⟩
  have := (toldF_spec l).1 l[k] (List.getElem_mem hk)
  by_cases e : l[k].abal < l[j].abal
  · exact .inl e
  · refine .inr ⟨by omega, ?_⟩
    rcases Nat.lt_or_ge k j with e2 | e2
    · exact absurd (a3 k hk e2) e
    · exact e2
instance reftold24_spec (l : List Ack) : HasSpec Tryz.prog 191 [.sl 6 (l.map Ack.cs)] (.tup [PV.int (toldF l).2, .v (.bool (tst (0 < (toldF l).1)))]) := by
  refine ⟨Spec.bound 0 rfl fun hl => ?_⟩; rw [List.length_map] at hl; refine Spec.ofR (h := fun F w0 => ?_)
  repeat' ((conv => whnf); first | refine Q.E ?_ | (refine Stk.both (fun hb => ?_) (fun hb => ?_) <;> (try simp only [lE] at hb))); all_goals (conv => whnf)
  refine Stk.loop (ι := Nat) (fun i => [(0, .sl 6 (l.map Ack.cs)), (4, PV.int (i : Nat))]) (fun _ => []) (fun i => i ≤ l.length ∧ ∀ j (hj : j < l.length), j < i → ¬ firstP l j l.length) (fun i => l.length - i) 0 ⟨Nat.zero_le _, fun j hj h => by omega⟩ (Weak.gc ⟨rfl, rfl, trivial⟩ trivial rfl rfl rfl) (fun i hi => ?_)
  obtain ⟨hi, hno⟩ := hi
  by_cases hlt : i < l.length
  · repeat' ((conv => whnf); first | refine Q.E ?_ | (refine Stk.both (fun hb => ?_) (fun hb => ?_) <;> (try simp only [lE] at hb))); all_goals (conv => whnf)
    refine Stk.loop (ι := Nat × Bool) (fun k => [(0, .sl 6 (l.map Ack.cs)), (4, PV.int (i : Nat)), (5, .v (.bool k.2)), (6, PV.int (k.1 : Nat))]) (fun _ => []) (fun k => k.1 ≤ l.length ∧ (k.2 = true ↔ firstP l i k.1)) (fun k => l.length - k.1) (0, tst (0 < l[i].abal)) ⟨Nat.zero_le _, by show tst _ = true ↔ _; rw [tst_true]; exact ⟨fun h _ => ⟨h, fun j hj hj0 => by omega⟩, fun h => (h hlt).1⟩⟩ (Weak.gc ⟨rfl, rfl, rfl, rfl, trivial⟩ trivial rfl rfl rfl) (fun k hk => ?_)
    obtain ⟨k, b⟩ := k
    simp only at hk
    obtain ⟨hk, hb⟩ := hk
    dsimp only
    by_cases hlk : k < l.length
    · have hs := firstP_succ hlt hlk
      cases b with
      | false =>
        have hb' : ¬ firstP l i k := fun h => by have := hb.2 h; cases this
        repeat' ((conv => whnf); first | refine Q.E ?_ | (refine Stk.both (fun hb => ?_) (fun hb => ?_) <;> (try simp only [lE] at hb))); all_goals (conv => whnf)
        exact ⟨(k + 1, false), ⟨by show k + 1 ≤ l.length; omega, by show false = true ↔ _; rw [hs]; simp [hb']⟩, by show l.length - (k + 1) < l.length - k; omega, Weak.gc ⟨rfl, rfl, rfl, rfl, trivial⟩ trivial rfl rfl rfl⟩
      | true =>
        have hb' : firstP l i k := hb.1 rfl
        by_cases c1 : l[k].abal < l[i].abal
        · repeat' ((conv => whnf); first | refine Q.E ?_ | (refine Stk.both (fun hb => ?_) (fun hb => ?_) <;> (try simp only [lE] at hb))); all_goals (conv => whnf)
          refine ⟨(k + 1, true), ⟨by show k + 1 ≤ l.length; omega, by show true = true ↔ _; rw [hs]; simp [hb', c1]⟩, by show l.length - (k + 1) < l.length - k; omega, Weak.gc ⟨rfl, rfl, rfl, rfl, trivial⟩ trivial rfl rfl rfl⟩
        · by_cases c2 : l[k].abal = l[i].abal
          · repeat' ((conv => whnf); first | refine Q.E ?_ | (refine Stk.both (fun hb => ?_) (fun hb => ?_) <;> (try simp only [lE] at hb))); all_goals (conv => whnf)
            all_goals refine ⟨(k + 1, tst ((i : Int) ≤ (k : Int))), ⟨by show k + 1 ≤ l.length; omega, by show tst _ = true ↔ _; rw [hs, tst_true]; simp [hb', c2]⟩, by show l.length - (k + 1) < l.length - k; omega, Weak.gc ⟨rfl, rfl, rfl, rfl, trivial⟩ trivial rfl rfl rfl⟩
          · repeat' ((conv => whnf); first | refine Q.E ?_ | (refine Stk.both (fun hb => ?_) (fun hb => ?_) <;> (try simp only [lE] at hb))); all_goals (conv => whnf)
            refine ⟨(k + 1, false), ⟨by show k + 1 ≤ l.length; omega, by show false = true ↔ _; rw [hs]; simp [hb', c1, c2]⟩, by show l.length - (k + 1) < l.length - k; omega, Weak.gc ⟨rfl, rfl, rfl, rfl, trivial⟩ trivial rfl rfl rfl⟩
    · obtain rfl : k = l.length := by omega
      cases b with
      | true =>
        obtain ⟨e1, e2⟩ := first_told hlt (hb.1 rfl)
        rw [e1, tst_true.2 e2]
        repeat' ((conv => whnf); first | refine Q.E ?_ | (refine Stk.both (fun hb => ?_) (fun hb => ?_) <;> (try simp only [lE] at hb))); all_goals (conv => whnf)
        (refine Q.r6 (h := ?_); repeat' (first | exact Q.r0 | refine Q.r1 ?_ ?_ | refine Q.r2 ?_ | exact Q.r7 | refine Q.r3 ?_ | refine Q.r4 ?_ | refine Q.r5 ?_))
      | false =>
        have hb' : ¬ firstP l i l.length := fun h => by have := hb.2 h; cases this
        repeat' ((conv => whnf); first | refine Q.E ?_ | (refine Stk.both (fun hb => ?_) (fun hb => ?_) <;> (try simp only [lE] at hb))); all_goals (conv => whnf)
        exact ⟨i + 1, ⟨by omega, fun j hj hji => by
          by_cases e : j = i
          · subst e; exact hb'
          · exact hno j hj (by omega)⟩, by omega, Weak.gc ⟨rfl, rfl, trivial⟩ trivial rfl rfl rfl⟩
  · have hn := first_none (l := l) (fun j hj => hno j hj (by omega))
    rw [toldF_none l hn, tst_false.2 hn]
    repeat' ((conv => whnf); first | refine Q.E ?_ | (refine Stk.both (fun hb => ?_) (fun hb => ?_) <;> (try simp only [lE] at hb))); all_goals (conv => whnf)
    (refine Q.r6 (h := ?_); repeat' (first | exact Q.r0 | refine Q.r1 ?_ ?_ | refine Q.r2 ?_ | exact Q.r7 | refine Q.r3 ?_ | refine Q.r4 ?_ | refine Q.r5 ?_))
end Go.Proofs.YtbjepdfnmbdplaaGreat
end
section
namespace Go.Proofs.YtbjepdfnmbdplaaGreat
open Go.RowKit
set_option linter.unusedSimpArgs false
set_option linter.unusedVariables false
set_option maxRecDepth 100000
set_option maxHeartbeats 4000000
def bestI (p : Ack → Bool) (l : List Ack) : Int := l.foldl (fun b a => if p a = true ∧ b < a.t then a.t else b) 0
theorem bestI_snoc (p : Ack → Bool) (l : List Ack) (a : Ack) : bestI p (l ++ [a]) = if p a = true ∧ bestI p l < a.t then a.t else bestI p l := by unfold bestI; rw [List.foldl_append]; rfl
theorem bestI_succ (p : Ack → Bool) (l : List Ack) (i : Nat) (h : i < l.length) : bestI p (l.take (i + 1)) = if p l[i] = true ∧ bestI p (l.take i) < l[i].t then l[i].t else bestI p (l.take i) := by rw [take_snoc' l i h, bestI_snoc]
theorem best_great (p : Ack → Bool) : ∀ l : List Ack, (∀ a ∈ l, 1 ≤ a.t) → (l.filter p = [] ∧ bestI p l = 0) ∨ (l.filter p ≠ [] ∧ bestI p l = greatI (l.filter p) ∧ 1 ≤ bestI p l) := by
  intro l
  refine rev_ind (p := fun l => (∀ a ∈ l, 1 ≤ a.t) → (l.filter p = [] ∧ bestI p l = 0) ∨ (l.filter p ≠ [] ∧ bestI p l = greatI (l.filter p) ∧ 1 ≤ bestI p l)) (fun _ => .inl ⟨rfl, rfl⟩) (fun l b ih => ?_) l
  intro h
  have ih := ih fun a ha => h a (by simp [ha])
  have hb := h b (by simp)
  rw [bestI_snoc, List.filter_append]
  cases hp : p b with
  | false =>
    rw [List.filter_cons_of_neg (by rw [hp]; simp), List.filter_nil, List.append_nil, if_neg (by simp)]
    exact ih
  | true =>
    rw [List.filter_cons_of_pos hp, List.filter_nil, greatI_snoc]
    refine .inr ⟨by simp, ?_⟩
    rcases ih with ⟨h1, h2⟩ | ⟨h1, h2, h3⟩
    · rw [h1, h2, show greatI [] = -1 from rfl, if_pos ⟨rfl, by omega⟩]
      omega
    · by_cases hc : bestI p l < b.t
      · rw [if_pos ⟨rfl, hc⟩]
        omega
      · rw [if_neg (fun h => hc h.2)]
        omega
def allQ (all : Bool) (q : Int) (a : Ack) : Bool := all || hasB q a.fr
instance refchoose24_spec (n f q id : Int) (l : List Ack) : HasSpec Tryz.prog 108 [PV.int n, PV.int f, PV.int q, PV.int id, .sl 6 (l.map Ack.cs)] (.tup [PV.int (chooseR n f q id l).1, PV.int (chooseR n f q id l).2]) := by
  have hq := cnt_zero q
  have j1 := refready24_spec n f l
  have j2 := reftold24_spec l
  have j3 := reflost24_spec q (selfI id) l
  by_cases hc : readyB n f l = true ∧ (listS q 9).length ≠ 0 ∧ 1 ≤ selfI id ∧ selfI id ≤ n
  · have hr := readyB_iff.1 hc.1
    have hn : 3 ≤ n ∧ n ≤ 9 ∧ 1 ≤ f ∧ 2 * f ≤ n - 1 := sizeB_iff.1 hr.1
    have hne : l ≠ [] := fun e => by have := hr.2.2; rw [e] at this; simp at this; omega
    have ht : ∀ a ∈ l, 1 ≤ a.t := fun a ha => by
      obtain ⟨i, hi, rfl⟩ := List.getElem_of_mem ha
      exact (mayA_iff.1 (hr.2.1 i hi hi).1).2.2.2
    rw [hc.1] at j1
    have hq2 : 1 ≤ q ∧ q ≤ 511 := by
      by_cases h : 1 ≤ q ∧ q ≤ 511
      · exact h
      · have h2 : ((listS q 9).length : Int) = 0 := hq.mpr h
        have := hc.2.1
        omega
    have hs := hc.2.2
    by_cases hp : 0 < (toldF l).1
    · rw [show chooseR n f q id l = ((toldF l).2, 0) by unfold chooseR; rw [if_pos hc, if_pos hp]]
      rw [tst_true.2 hp] at j2
      refine ⟨?_⟩; refine Spec.ofR (h := fun F w0 => ?_)
      repeat' ((conv => whnf); first | refine Q.E ?_ | (refine Stk.both (fun hb => ?_) (fun hb => ?_) <;> (try simp only [lE] at hb))); all_goals (conv => whnf)
      (refine Q.r6 (h := ?_); repeat' (first | exact Q.r0 | refine Q.r1 ?_ ?_ | refine Q.r2 ?_ | exact Q.r7 | refine Q.r3 ?_ | refine Q.r4 ?_ | refine Q.r5 ?_))
    · rw [tst_false.2 hp] at j2
      have hg := greatI_mem hne ht
      have hR : chooseR n f q id l = if bestI (allQ (lostB q (selfI id) l) q) l = 0 then (0, 33) else (bestI (allQ (lostB q (selfI id) l) q) l, 0) := by
        unfold chooseR
        rw [if_pos hc, if_neg hp]
        cases hlost : lostB q (selfI id) l with
        | true =>
          rw [if_pos rfl]
          have hf : l.filter (allQ true q) = l := List.filter_eq_self.2 fun a _ => rfl
          rcases best_great (allQ true q) l ht with ⟨h1, _⟩ | ⟨_, h2, h3⟩
          · rw [hf] at h1; exact absurd h1 hne
          · rw [hf] at h2
            rw [if_neg (by omega), h2]
        | false =>
          rw [if_neg (by simp)]
          have hf : l.filter (allQ false q) = inQ q l := by
            unfold inQ
            exact congrArg (fun p => l.filter p) (funext fun a => by unfold allQ; rw [Bool.false_or])
          rcases best_great (allQ false q) l ht with ⟨h1, h2⟩ | ⟨h1, h2, h3⟩
          · rw [hf] at h1
            rw [if_pos h1, if_pos h2]
          · rw [hf] at h1 h2
            rw [if_neg h1, if_neg (by omega), h2]
      rw [hR]
      generalize lostB q (selfI id) l = b at *
      clear hR
      refine ⟨Spec.bound 4 rfl fun hl => ?_⟩; rw [List.length_map] at hl; refine Spec.ofR (h := fun F w0 => ?_)
      repeat' ((conv => whnf); first | refine Q.E ?_ | (refine Stk.both (fun hb => ?_) (fun hb => ?_) <;> (try simp only [lE] at hb))); all_goals (conv => whnf)
      refine Stk.loop (ι := Nat) (fun i => [(2, PV.int q), (4, .sl 6 (l.map Ack.cs)), (16, .v (.bool b)), (17, PV.int (bestI (allQ b q) (l.take i))), (18, PV.int (i : Nat))]) (fun _ => []) (fun i => i ≤ l.length) (fun i => l.length - i) 0 (Nat.zero_le _) (Weak.gc ⟨rfl, rfl, rfl, rfl, rfl, trivial⟩ trivial rfl rfl rfl) (fun i hi => ?_)
      by_cases hlt : i < l.length
      · have hb := bestI_succ (allQ b q) l i hlt
        have j4 := refhas_spec q l[i].fr
        generalize bestI (allQ b q) (l.take i) = v at *
        have fin : ∀ w, w = bestI (allQ b q) (l.take (i + 1)) → PV.int w = PV.int (bestI (allQ b q) (l.take (i + 1))) := fun w h => by rw [h]
        by_cases hv : v < l[i].t
        · cases b with
          | true =>
            rw [if_pos ⟨rfl, hv⟩] at hb
            repeat' ((conv => whnf); first | refine Q.E ?_ | (refine Stk.both (fun hb => ?_) (fun hb => ?_) <;> (try simp only [lE] at hb))); all_goals (conv => whnf)
            refine ⟨i + 1, by omega, by omega, ?_⟩
            rw [hb]
            exact Weak.gc ⟨rfl, rfl, rfl, rfl, rfl, trivial⟩ trivial rfl rfl rfl
          | false =>
            cases hh : hasB q l[i].fr with
            | true =>
              rw [hh] at j4
              rw [if_pos ⟨by unfold allQ; rw [hh]; rfl, hv⟩] at hb
              repeat' ((conv => whnf); first | refine Q.E ?_ | (refine Stk.both (fun hb => ?_) (fun hb => ?_) <;> (try simp only [lE] at hb))); all_goals (conv => whnf)
              refine ⟨i + 1, by omega, by omega, ?_⟩
              rw [hb]
              exact Weak.gc ⟨rfl, rfl, rfl, rfl, rfl, trivial⟩ trivial rfl rfl rfl
            | false =>
              rw [hh] at j4
              rw [if_neg (fun h => by have := h.1; unfold allQ at this; rw [hh] at this; cases this)] at hb
              repeat' ((conv => whnf); first | refine Q.E ?_ | (refine Stk.both (fun hb => ?_) (fun hb => ?_) <;> (try simp only [lE] at hb))); all_goals (conv => whnf)
              refine ⟨i + 1, by omega, by omega, ?_⟩
              rw [hb]
              exact Weak.gc ⟨rfl, rfl, rfl, rfl, rfl, trivial⟩ trivial rfl rfl rfl
        · rw [if_neg (fun h => hv h.2)] at hb
          cases b with
          | true =>
            repeat' ((conv => whnf); first | refine Q.E ?_ | (refine Stk.both (fun hb => ?_) (fun hb => ?_) <;> (try simp only [lE] at hb))); all_goals (conv => whnf)
            refine ⟨i + 1, by omega, by omega, ?_⟩
            rw [hb]
            exact Weak.gc ⟨rfl, rfl, rfl, rfl, rfl, trivial⟩ trivial rfl rfl rfl
          | false =>
            cases hh : hasB q l[i].fr with
            | true =>
              rw [hh] at j4
              repeat' ((conv => whnf); first | refine Q.E ?_ | (refine Stk.both (fun hb => ?_) (fun hb => ?_) <;> (try simp only [lE] at hb))); all_goals (conv => whnf)
              refine ⟨i + 1, by omega, by omega, ?_⟩
              rw [hb]
              exact Weak.gc ⟨rfl, rfl, rfl, rfl, rfl, trivial⟩ trivial rfl rfl rfl
            | false =>
              rw [hh] at j4
              repeat' ((conv => whnf); first | refine Q.E ?_ | (refine Stk.both (fun hb => ?_) (fun hb => ?_) <;> (try simp only [lE] at hb))); all_goals (conv => whnf)
              refine ⟨i + 1, by omega, by omega, ?_⟩
              rw [hb]
              exact Weak.gc ⟨rfl, rfl, rfl, rfl, rfl, trivial⟩ trivial rfl rfl rfl
      · obtain rfl : i = l.length := by omega
        rw [List.take_length]
        by_cases hz : bestI (allQ b q) l = 0
        · rw [if_pos hz]
          generalize bestI (allQ b q) l = v at *
          repeat' ((conv => whnf); first | refine Q.E ?_ | (refine Stk.both (fun hb => ?_) (fun hb => ?_) <;> (try simp only [lE] at hb))); all_goals (conv => whnf)
          (refine Q.r6 (h := ?_); repeat' (first | exact Q.r0 | refine Q.r1 ?_ ?_ | refine Q.r2 ?_ | exact Q.r7 | refine Q.r3 ?_ | refine Q.r4 ?_ | refine Q.r5 ?_))
        · rw [if_neg hz]
          generalize bestI (allQ b q) l = v at *
          repeat' ((conv => whnf); first | refine Q.E ?_ | (refine Stk.both (fun hb => ?_) (fun hb => ?_) <;> (try simp only [lE] at hb))); all_goals (conv => whnf)
          (refine Q.r6 (h := ?_); repeat' (first | exact Q.r0 | refine Q.r1 ?_ ?_ | refine Q.r2 ?_ | exact Q.r7 | refine Q.r3 ?_ | refine Q.r4 ?_ | refine Q.r5 ?_))
  · rw [show chooseR n f q id l = (0, 2) from if_neg hc]
    cases hr : readyB n f l with
    | false =>
      rw [hr] at j1
      refine ⟨?_⟩; refine Spec.ofR (h := fun F w0 => ?_)
      repeat' ((conv => whnf); first | refine Q.E ?_ | (refine Stk.both (fun hb => ?_) (fun hb => ?_) <;> (try simp only [lE] at hb))); all_goals (conv => whnf)
      (refine Q.r6 (h := ?_); repeat' (first | exact Q.r0 | refine Q.r1 ?_ ?_ | refine Q.r2 ?_ | exact Q.r7 | refine Q.r3 ?_ | refine Q.r4 ?_ | refine Q.r5 ?_))
    | true =>
      rw [hr] at j1
      have h2 : ¬ (1 ≤ q ∧ q ≤ 511 ∧ 1 ≤ selfI id ∧ selfI id ≤ n) := fun h => hc ⟨hr, fun e => by
        have := hq.mp (by rw [e]; rfl)
        exact this ⟨h.1, h.2.1⟩, h.2.2⟩
      refine ⟨?_⟩; refine Spec.ofR (h := fun F w0 => ?_)
      repeat' ((conv => whnf); first | refine Q.E ?_ | (refine Stk.both (fun hb => ?_) (fun hb => ?_) <;> (try simp only [lE] at hb))); all_goals (conv => whnf)
      all_goals first | (exfalso; omega) | (refine Q.r6 (h := ?_); repeat' (first | exact Q.r0 | refine Q.r1 ?_ ?_ | refine Q.r2 ?_ | exact Q.r7 | refine Q.r3 ?_ | refine Q.r4 ?_ | refine Q.r5 ?_))
end Go.Proofs.YtbjepdfnmbdplaaGreat
end
section
namespace Go.Proofs.YtbjepdfnmbdplaaGreat
open Go.RowKit
set_option linter.unusedSimpArgs false
set_option linter.unusedVariables false
def rscA (s : Int) (e : Ent) : Ack := ⟨3, s, e.bal, e.t, e.abal, e.phase⟩
def rsdA (m : Msg) : Ack := ⟨3, m.fr, m.bal, m.t, m.abal, m.phase⟩
def rscM (s id b : Int) (e : Ent) : Msg := ⟨6, s, id, 0, b, 0, 0, e.quorum, e.payload, 0, 0, [], [], 0⟩
def rsdM (s : Int) (m : Msg) (e : Ent) : Msg := ⟨7, s, m.id, e.t, e.bal, e.abal, e.phase, 0, noByte, 0, 0, [], [], 0⟩
def takM (s t b : Int) (e : Ent) : Msg := ⟨3, s, e.id, t, b, 0, 0, e.quorum, e.payload, 0, 0, [], [], 0⟩
def rscI (r : Rpl) (e : Ent) : Int := nextI (max e.bal e.seen) r.self r.n
def rscX (r : Rpl) (e : Ent) : Int := nextX (max e.bal e.seen) r.self r.n
noncomputable def staE (r : Rpl) (e : Ent) : Ent := ackR (p28E r e (rscI r e)) (rscA r.self (p28E r e (rscI r e)))
noncomputable def staR (r : Rpl) (e : Ent) : Rpl := rputR (p28R r e (rscI r e)) (staE r e)
open Classical in
noncomputable def onSta (r : Rpl) (id : Int) : Rpl × List Out :=
  if repB r = true ∧ findB r.entries id = true ∧ openB (findT r.entries id).phase = true ∧ rscX r (findT r.entries id) = 0 ∧ p28B r (findT r.entries id) (rscI r (findT r.entries id)) = true
    ∧ ackB (p28E r (findT r.entries id) (rscI r (findT r.entries id))) (rscA r.self (p28E r (findT r.entries id) (rscI r (findT r.entries id)))) = true ∧ rputX (p28R r (findT r.entries id) (rscI r (findT r.entries id))) (staE r (findT r.entries id)) = 0 then
    (staR r (findT r.entries id), allO (staR r (findT r.entries id)) (rscM r.self id (rscI r (findT r.entries id)) (staE r (findT r.entries id))))
  else (r, [])
open Classical in
noncomputable def onRsc (r : Rpl) (m : Msg) : Rpl × List Out :=
  if m.kind = 6 ∧ hearsB r m = true ∧ r.n < m.bal ∧ ownI m.bal r.n = m.fr ∧ lrnB r m.id m.quorum m.payload = true then
    (let s := lrnR r m.id m.quorum m.payload; let e := lrnE r m.id m.quorum m.payload
    if settB e.phase = true then (s, helpO s e m.fr)
    else if m.bal < e.bal then (s, ansO r m 8 e.bal)
    else if m.bal = e.bal then (r, [])
    else if p28B s e m.bal = true then (p28R s e m.bal, [⟨m.fr, rsdM r.self m (p28E s e m.bal)⟩])
    else (r, []))
  else (r, [])
open Classical in
noncomputable def onRsd (r : Rpl) (m : Msg) : Rpl × List Out :=
  if m.kind = 7 ∧ hearsB r m = true ∧ r.n < m.bal ∧ ownI m.bal r.n = r.self ∧ findB r.entries m.id = true then
    (let e := findT r.entries m.id
    if openB e.phase = true ∧ e.bal = m.bal ∧ e.abal ≠ m.bal ∧ ackB e (rsdA m) = true ∧ rputX r (ackR e (rsdA m)) = 0 then
      (let e := ackR e (rsdA m); let s := rputR r e; let l := ofL e.acks 3 m.bal; let c := chooseR r.n r.f e.quorum e.id l
      if readyB r.n r.f l = true then (if c.2 = 0 ∧ tkB s e c.1 m.bal = true then (tkR s e c.1 m.bal, allO (tkR s e c.1 m.bal) (takM r.self c.1 m.bal e)) else (r, []))
      else (s, []))
    else (r, []))
  else (r, [])
end Go.Proofs.YtbjepdfnmbdplaaGreat
end
section
namespace Go.Proofs.YtbjepdfnmbdplaaGreat
open Go.RowKit
set_option linter.unusedSimpArgs false
set_option linter.unusedVariables false
set_option maxRecDepth 100000
set_option maxHeartbeats 4000000
instance answer28_spec (s : Int) (e : Ent) : HasSpec Tryz.prog 100 [PV.int s, .agg e.cs] (.agg (rscA s e).cs) := by
  refine ⟨?_⟩; refine Spec.ofR (h := fun F w0 => ?_)
  repeat' ((conv => whnf); first | refine Q.E ?_ | (refine Stk.both (fun hb => ?_) (fun hb => ?_) <;> (try simp only [lE] at hb))); all_goals (conv => whnf)
  (refine Q.r6 (h := ?_); repeat' (first | exact Q.r0 | refine Q.r1 ?_ ?_ | refine Q.r2 ?_ | exact Q.r7 | refine Q.r3 ?_ | refine Q.r4 ?_ | refine Q.r5 ?_))
theorem p28S_self (r : Rpl) (e : Ent) : (p28S r e).self = r.self ∧ (p28S r e).n = r.n ∧ (p28S r e).f = r.f ∧ (p28S r e).seq = r.seq := by
  unfold p28S timR
  split
  · split
    · exact ⟨rfl, rfl, rfl, rfl⟩
    · exact ⟨rfl, rfl, rfl, rfl⟩
  · exact ⟨rfl, rfl, rfl, rfl⟩
theorem promise_bal {r : Rpl} {e : Ent} {b : Int} (h : p28B r e b = true) : (p28E r e b).bal = b ∧ repB (p28R r e b) = true ∧ (p28R r e b).self = r.self ∧ (p28R r e b).n = r.n := by
  by_cases hc : repB r = true ∧ entB e = true ∧ p28X r e = 0 ∧ promX e b (p28T r e) = 0 ∧ rputX (p28S r e) (p28P r e b) = 0
  · obtain ⟨_, h2, h3⟩ := p28_yes hc
    obtain ⟨_, _, _, c4, c5⟩ := hc
    obtain ⟨s1, s2, _, _⟩ := p28S_self r e
    rw [h2, h3]
    refine ⟨?_, rput_rep c5, ?_, ?_⟩
    · unfold p28P
      rw [promE_yes c4]
      rfl
    · rw [rputR_yes c5]; exact s1
    · rw [rputR_yes c5]; exact s2
  · rw [(p28_no hc).1] at h
    cases h
theorem sta_no {r : Rpl} {id : Int} (h : ¬ (repB r = true ∧ findB r.entries id = true ∧ openB (findT r.entries id).phase = true ∧ rscX r (findT r.entries id) = 0 ∧ p28B r (findT r.entries id) (rscI r (findT r.entries id)) = true
    ∧ ackB (p28E r (findT r.entries id) (rscI r (findT r.entries id))) (rscA r.self (p28E r (findT r.entries id) (rscI r (findT r.entries id)))) = true ∧ rputX (p28R r (findT r.entries id) (rscI r (findT r.entries id))) (staE r (findT r.entries id)) = 0)) : onSta r id = (r, []) := if_neg h
theorem sta_yes {r : Rpl} {id : Int} (h : repB r = true ∧ findB r.entries id = true ∧ openB (findT r.entries id).phase = true ∧ rscX r (findT r.entries id) = 0 ∧ p28B r (findT r.entries id) (rscI r (findT r.entries id)) = true
    ∧ ackB (p28E r (findT r.entries id) (rscI r (findT r.entries id))) (rscA r.self (p28E r (findT r.entries id) (rscI r (findT r.entries id)))) = true ∧ rputX (p28R r (findT r.entries id) (rscI r (findT r.entries id))) (staE r (findT r.entries id)) = 0) : onSta r id = (staR r (findT r.entries id), allO (staR r (findT r.entries id)) (rscM r.self id (rscI r (findT r.entries id)) (staE r (findT r.entries id)))) := if_pos h
instance refstart28_spec (r : Rpl) (id : Int) : HasSpec Tryz.prog 35 [.agg r.cs, PV.int id] (.tup [.agg (onSta r id).1.cs, PV.outs (onSta r id).2]) := by
  have j1 := reftabfind_spec r.entries id
  by_cases hr : repB r = true
  · have j2 := rstk_yes hr
    by_cases hf : findB r.entries id = true
    · rw [hf] at j1
      by_cases ho : openB (findT r.entries id).phase = true
      · have he := find_ent hr hf
        have hy := @sta_yes r id
        have hn := @sta_no r id
        generalize findT r.entries id = e at *
        have hp := openB_iff.1 ho
        have j3 := refnext_spec (max e.bal e.seen) r.self r.n
        have j4 := refpromise28_spec r e (rscI r e)
        have hb := @promise_bal r e (rscI r e)
        by_cases hX : rscX r e = 0
        · by_cases hB : p28B r e (rscI r e) = true
          · obtain ⟨b1, b2, b3, b4⟩ := hb hB
            rw [hB] at j4
            have j5 := refacked_spec (p28E r e (rscI r e)) (rscA r.self (p28E r e (rscI r e)))
            have j6 := refput_spec (p28R r e (rscI r e)) (staE r e)
            have ha : rscA r.self (p28E r e (rscI r e)) = ⟨3, r.self, rscI r e, (p28E r e (rscI r e)).t, (p28E r e (rscI r e)).abal, (p28E r e (rscI r e)).phase⟩ := by unfold rscA; rw [b1]
            have hX2 : nextX (max e.bal e.seen) r.self r.n = 0 := hX
            rw [hX2] at j3
            have hI : nextI (max e.bal e.seen) r.self r.n = rscI r e := rfl
            rw [hI] at j3
            have hq : ackR (p28E r e (rscI r e)) (rscA r.self (p28E r e (rscI r e))) = staE r e := rfl
            rw [hq, ha] at j5
            have j7 := refall_raw (rputR (p28R r e (rscI r e)) (staE r e)) (m := ⟨6, 0, id, 0, rscI r e, 0, 0, (staE r e).quorum, (staE r e).payload, 0, 0, [], [], 0⟩) rfl rfl
            rw [show allO (rputR (p28R r e (rscI r e)) (staE r e)) ⟨6, 0, id, 0, rscI r e, 0, 0, (staE r e).quorum, (staE r e).payload, 0, 0, [], [], 0⟩ = allO (rputR (p28R r e (rscI r e)) (staE r e)) (rscM r.self id (rscI r e) (staE r e)) from allO_from rfl] at j7
            have hS : staR r e = rputR (p28R r e (rscI r e)) (staE r e) := rfl
            rw [ha] at hy hn
            by_cases hA : ackB (p28E r e (rscI r e)) ⟨3, r.self, rscI r e, (p28E r e (rscI r e)).t, (p28E r e (rscI r e)).abal, (p28E r e (rscI r e)).phase⟩ = true
            · rw [hA] at j5
              by_cases hQ : rputX (p28R r e (rscI r e)) (staE r e) = 0
              · rw [hy ⟨hr, hf, ho, hX, hB, hA, hQ⟩, hS]
                rw [hQ] at j6
                clear hy hn hS hq ha hI
                generalize staE r e = q at *
                generalize rputR (p28R r e (rscI r e)) q = u at *
                generalize p28R r e (rscI r e) = s at *
                generalize p28E r e (rscI r e) = p at *
                generalize rscI r e = b at *
                by_cases hc : e.bal < e.seen
                · rw [show max e.bal e.seen = e.seen by omega] at j3
                  refine ⟨?_⟩; refine Spec.ofR (h := fun F w0 => ?_)
                  repeat' ((conv => whnf); first | refine Q.E ?_ | (refine Stk.both (fun hb => ?_) (fun hb => ?_) <;> (try simp only [lE] at hb))); all_goals (conv => whnf)
                  refine Stk.by j5 (h := ?_)
                  repeat' ((conv => whnf); first | refine Q.E ?_ | (refine Stk.both (fun hb => ?_) (fun hb => ?_) <;> (try simp only [lE] at hb))); all_goals (conv => whnf)
                  refine Stk.by j7 (h := ?_)
                  repeat' ((conv => whnf); first | refine Q.E ?_ | (refine Stk.both (fun hb => ?_) (fun hb => ?_) <;> (try simp only [lE] at hb))); all_goals (conv => whnf)
                  (refine Q.r6 (h := ?_); repeat' (first | exact Q.r0 | refine Q.r1 ?_ ?_ | refine Q.r2 ?_ | exact Q.r7 | refine Q.r3 ?_ | refine Q.r4 ?_ | refine Q.r5 ?_))
                · rw [show max e.bal e.seen = e.bal by omega] at j3
                  refine ⟨?_⟩; refine Spec.ofR (h := fun F w0 => ?_)
                  repeat' ((conv => whnf); first | refine Q.E ?_ | (refine Stk.both (fun hb => ?_) (fun hb => ?_) <;> (try simp only [lE] at hb))); all_goals (conv => whnf)
                  refine Stk.by j5 (h := ?_)
                  repeat' ((conv => whnf); first | refine Q.E ?_ | (refine Stk.both (fun hb => ?_) (fun hb => ?_) <;> (try simp only [lE] at hb))); all_goals (conv => whnf)
                  refine Stk.by j7 (h := ?_)
                  repeat' ((conv => whnf); first | refine Q.E ?_ | (refine Stk.both (fun hb => ?_) (fun hb => ?_) <;> (try simp only [lE] at hb))); all_goals (conv => whnf)
                  (refine Q.r6 (h := ?_); repeat' (first | exact Q.r0 | refine Q.r1 ?_ ?_ | refine Q.r2 ?_ | exact Q.r7 | refine Q.r3 ?_ | refine Q.r4 ?_ | refine Q.r5 ?_))
              · rw [hn (fun h => hQ h.2.2.2.2.2.2)]
                clear hy hn hS hq ha hI j7
                generalize staE r e = q at *
                generalize rputR (p28R r e (rscI r e)) q = u at *
                generalize p28R r e (rscI r e) = s at *
                generalize p28E r e (rscI r e) = p at *
                generalize rscI r e = b at *
                by_cases hc : e.bal < e.seen
                · rw [show max e.bal e.seen = e.seen by omega] at j3
                  refine ⟨?_⟩; refine Spec.ofR (h := fun F w0 => ?_)
                  repeat' ((conv => whnf); first | refine Q.E ?_ | (refine Stk.both (fun hb => ?_) (fun hb => ?_) <;> (try simp only [lE] at hb))); all_goals (conv => whnf)
                  refine Stk.by j5 (h := ?_)
                  repeat' ((conv => whnf); first | refine Q.E ?_ | (refine Stk.both (fun hb => ?_) (fun hb => ?_) <;> (try simp only [lE] at hb))); all_goals (conv => whnf)
                  (refine Q.r6 (h := ?_); repeat' (first | exact Q.r0 | refine Q.r1 ?_ ?_ | refine Q.r2 ?_ | exact Q.r7 | refine Q.r3 ?_ | refine Q.r4 ?_ | refine Q.r5 ?_))
                · rw [show max e.bal e.seen = e.bal by omega] at j3
                  refine ⟨?_⟩; refine Spec.ofR (h := fun F w0 => ?_)
                  repeat' ((conv => whnf); first | refine Q.E ?_ | (refine Stk.both (fun hb => ?_) (fun hb => ?_) <;> (try simp only [lE] at hb))); all_goals (conv => whnf)
                  refine Stk.by j5 (h := ?_)
                  repeat' ((conv => whnf); first | refine Q.E ?_ | (refine Stk.both (fun hb => ?_) (fun hb => ?_) <;> (try simp only [lE] at hb))); all_goals (conv => whnf)
                  (refine Q.r6 (h := ?_); repeat' (first | exact Q.r0 | refine Q.r1 ?_ ?_ | refine Q.r2 ?_ | exact Q.r7 | refine Q.r3 ?_ | refine Q.r4 ?_ | refine Q.r5 ?_))
            · have hA' : ackB (p28E r e (rscI r e)) ⟨3, r.self, rscI r e, (p28E r e (rscI r e)).t, (p28E r e (rscI r e)).abal, (p28E r e (rscI r e)).phase⟩ = false := by simpa using hA
              rw [hn (fun h => hA h.2.2.2.2.2.1)]
              rw [hA'] at j5
              clear hy hn hS hq ha hI j7 hA hA'
              generalize staE r e = q at *
              generalize rputR (p28R r e (rscI r e)) q = u at *
              generalize rputX (p28R r e (rscI r e)) q = y at *
              generalize p28R r e (rscI r e) = s at *
              generalize p28E r e (rscI r e) = p at *
              generalize rscI r e = b at *
              by_cases hc : e.bal < e.seen
              · rw [show max e.bal e.seen = e.seen by omega] at j3
                refine ⟨?_⟩; refine Spec.ofR (h := fun F w0 => ?_)
                repeat' ((conv => whnf); first | refine Q.E ?_ | (refine Stk.both (fun hb => ?_) (fun hb => ?_) <;> (try simp only [lE] at hb))); all_goals (conv => whnf)
                refine Stk.by j5 (h := ?_)
                repeat' ((conv => whnf); first | refine Q.E ?_ | (refine Stk.both (fun hb => ?_) (fun hb => ?_) <;> (try simp only [lE] at hb))); all_goals (conv => whnf)
                (refine Q.r6 (h := ?_); repeat' (first | exact Q.r0 | refine Q.r1 ?_ ?_ | refine Q.r2 ?_ | exact Q.r7 | refine Q.r3 ?_ | refine Q.r4 ?_ | refine Q.r5 ?_))
              · rw [show max e.bal e.seen = e.bal by omega] at j3
                refine ⟨?_⟩; refine Spec.ofR (h := fun F w0 => ?_)
                repeat' ((conv => whnf); first | refine Q.E ?_ | (refine Stk.both (fun hb => ?_) (fun hb => ?_) <;> (try simp only [lE] at hb))); all_goals (conv => whnf)
                refine Stk.by j5 (h := ?_)
                repeat' ((conv => whnf); first | refine Q.E ?_ | (refine Stk.both (fun hb => ?_) (fun hb => ?_) <;> (try simp only [lE] at hb))); all_goals (conv => whnf)
                (refine Q.r6 (h := ?_); repeat' (first | exact Q.r0 | refine Q.r1 ?_ ?_ | refine Q.r2 ?_ | exact Q.r7 | refine Q.r3 ?_ | refine Q.r4 ?_ | refine Q.r5 ?_))
          · have hB' : p28B r e (rscI r e) = false := by simpa using hB
            rw [hn (fun h => hB h.2.2.2.2.1)]
            rw [hB'] at j4
            have hX2 : nextX (max e.bal e.seen) r.self r.n = 0 := hX
            rw [hX2] at j3
            have hI : nextI (max e.bal e.seen) r.self r.n = rscI r e := rfl
            rw [hI] at j3
            generalize rscI r e = b at *
            by_cases hc : e.bal < e.seen
            · rw [show max e.bal e.seen = e.seen by omega] at j3
              refine ⟨?_⟩; refine Spec.ofR (h := fun F w0 => ?_)
              repeat' ((conv => whnf); first | refine Q.E ?_ | (refine Stk.both (fun hb => ?_) (fun hb => ?_) <;> (try simp only [lE] at hb))); all_goals (conv => whnf)
              (refine Q.r6 (h := ?_); repeat' (first | exact Q.r0 | refine Q.r1 ?_ ?_ | refine Q.r2 ?_ | exact Q.r7 | refine Q.r3 ?_ | refine Q.r4 ?_ | refine Q.r5 ?_))
            · rw [show max e.bal e.seen = e.bal by omega] at j3
              refine ⟨?_⟩; refine Spec.ofR (h := fun F w0 => ?_)
              repeat' ((conv => whnf); first | refine Q.E ?_ | (refine Stk.both (fun hb => ?_) (fun hb => ?_) <;> (try simp only [lE] at hb))); all_goals (conv => whnf)
              (refine Q.r6 (h := ?_); repeat' (first | exact Q.r0 | refine Q.r1 ?_ ?_ | refine Q.r2 ?_ | exact Q.r7 | refine Q.r3 ?_ | refine Q.r4 ?_ | refine Q.r5 ?_))
        · rw [hn (fun h => hX h.2.2.2.1)]
          have hX2 : nextX (max e.bal e.seen) r.self r.n ≠ 0 := hX
          have hI : nextI (max e.bal e.seen) r.self r.n = rscI r e := rfl
          rw [hI] at j3
          generalize nextX (max e.bal e.seen) r.self r.n = x at *
          generalize rscI r e = b at *
          by_cases hc : e.bal < e.seen
          · rw [show max e.bal e.seen = e.seen by omega] at j3
            refine ⟨?_⟩; refine Spec.ofR (h := fun F w0 => ?_)
            repeat' ((conv => whnf); first | refine Q.E ?_ | (refine Stk.both (fun hb => ?_) (fun hb => ?_) <;> (try simp only [lE] at hb))); all_goals (conv => whnf)
            (refine Q.r6 (h := ?_); repeat' (first | exact Q.r0 | refine Q.r1 ?_ ?_ | refine Q.r2 ?_ | exact Q.r7 | refine Q.r3 ?_ | refine Q.r4 ?_ | refine Q.r5 ?_))
          · rw [show max e.bal e.seen = e.bal by omega] at j3
            refine ⟨?_⟩; refine Spec.ofR (h := fun F w0 => ?_)
            repeat' ((conv => whnf); first | refine Q.E ?_ | (refine Stk.both (fun hb => ?_) (fun hb => ?_) <;> (try simp only [lE] at hb))); all_goals (conv => whnf)
            (refine Q.r6 (h := ?_); repeat' (first | exact Q.r0 | refine Q.r1 ?_ ?_ | refine Q.r2 ?_ | exact Q.r7 | refine Q.r3 ?_ | refine Q.r4 ?_ | refine Q.r5 ?_))
      · rw [sta_no (fun h => ho h.2.2.1)]
        have hp : ¬ (1 ≤ (findT r.entries id).phase ∧ (findT r.entries id).phase ≤ 4) := fun h => ho (openB_iff.2 h)
        have he := ent_facts (find_ent hr hf)
        refine ⟨?_⟩; refine Spec.ofR (h := fun F w0 => ?_)
        repeat' ((conv => whnf); first | refine Q.E ?_ | (refine Stk.both (fun hb => ?_) (fun hb => ?_) <;> (try simp only [lE] at hb))); all_goals (conv => whnf)
        (refine Q.r6 (h := ?_); repeat' (first | exact Q.r0 | refine Q.r1 ?_ ?_ | refine Q.r2 ?_ | exact Q.r7 | refine Q.r3 ?_ | refine Q.r4 ?_ | refine Q.r5 ?_))
    · have hf' : findB r.entries id = false := by simpa using hf
      rw [sta_no (fun h => hf h.2.1)]
      rw [hf'] at j1
      refine ⟨?_⟩; refine Spec.ofR (h := fun F w0 => ?_)
      repeat' ((conv => whnf); first | refine Q.E ?_ | (refine Stk.both (fun hb => ?_) (fun hb => ?_) <;> (try simp only [lE] at hb))); all_goals (conv => whnf)
      (refine Q.r6 (h := ?_); repeat' (first | exact Q.r0 | refine Q.r1 ?_ ?_ | refine Q.r2 ?_ | exact Q.r7 | refine Q.r3 ?_ | refine Q.r4 ?_ | refine Q.r5 ?_))
  · have hr' : repB r = false := by simpa using hr
    have j2 := rstk_no hr'
    rw [sta_no (fun h => hr h.1)]
    refine ⟨?_⟩; refine Spec.ofR (h := fun F w0 => ?_)
    repeat' ((conv => whnf); first | refine Q.E ?_ | (refine Stk.both (fun hb => ?_) (fun hb => ?_) <;> (try simp only [lE] at hb))); all_goals (conv => whnf)
    (refine Q.r6 (h := ?_); repeat' (first | exact Q.r0 | refine Q.r1 ?_ ?_ | refine Q.r2 ?_ | exact Q.r7 | refine Q.r3 ?_ | refine Q.r4 ?_ | refine Q.r5 ?_))
end Go.Proofs.YtbjepdfnmbdplaaGreat
end
section
namespace Go.Proofs.YtbjepdfnmbdplaaGreat
open Go.RowKit
set_option linter.unusedSimpArgs false
set_option linter.unusedVariables false
set_option maxRecDepth 100000
set_option maxHeartbeats 4000000
theorem allO_pos {r : Rpl} (m : Msg) (h : repB r = true) : 0 < (allO r m).length := by
  have hn := (nums_p (rep_parts h).1).1
  unfold numsP at hn
  unfold allO
  rw [if_pos h, List.length_map]
  have key : ∀ i : Nat, i < 3 → ((i : Int) + 1 ≠ r.self) → 0 < (othL r).length := fun i hi hs => by
    refine List.length_pos_of_mem (a := (i : Int) + 1) ?_
    unfold othL
    rw [List.mem_filter, List.mem_map]
    exact ⟨⟨i, List.mem_range.2 (by omega), rfl⟩, decide_eq_true hs⟩
  by_cases e : r.self = 1
  · exact key 1 (by omega) (by omega)
  · exact key 0 (by omega) (by omega)
theorem all_raw (r : Rpl) {m : Msg} (h1 : m.atts = []) (h2 : m.marks = []) : HasSpec Tryz.prog 75 [.agg r.cs, .agg m.raw] (PV.outs (allO r m)) := HasSpec.sub (.cons (.refl _) (.cons (msg_sub h1 h2) .nil)) (all_spec r m)
instance start28_spec (r : Rpl) (id : Int) : HasSpec Tryz.prog 34 [.agg r.cs, PV.int id] (.tup [.agg (onSta r id).1.cs, PV.outs (onSta r id).2]) := by
  have j1 := tablefind_spec r.entries id
  by_cases hr : repB r = true
  · have j2 := stk_yes hr
    by_cases hf : findB r.entries id = true
    · rw [hf] at j1
      by_cases ho : openB (findT r.entries id).phase = true
      · have he := find_ent hr hf
        have hy := @sta_yes r id
        have hn := @sta_no r id
        generalize findT r.entries id = e at *
        have hp := openB_iff.1 ho
        have j3 := next_spec (max e.bal e.seen) r.self r.n
        have j4 := promise28_spec r e (rscI r e)
        have hb := @promise_bal r e (rscI r e)
        by_cases hX : rscX r e = 0
        · by_cases hB : p28B r e (rscI r e) = true
          · obtain ⟨b1, b2, b3, b4⟩ := hb hB
            rw [hB] at j4
            have j5 := entryack_spec (p28E r e (rscI r e)) (rscA r.self (p28E r e (rscI r e)))
            have j6 := put_spec (p28R r e (rscI r e)) (staE r e)
            have hX2 : nextX (max e.bal e.seen) r.self r.n = 0 := hX
            rw [hX2] at j3
            have hI : nextI (max e.bal e.seen) r.self r.n = rscI r e := rfl
            rw [hI] at j3
            have hq : ackR (p28E r e (rscI r e)) (rscA r.self (p28E r e (rscI r e))) = staE r e := rfl
            rw [hq] at j5
            have j7 := all_raw (rputR (p28R r e (rscI r e)) (staE r e)) (m := ⟨6, 0, id, 0, rscI r e, 0, 0, (staE r e).quorum, (staE r e).payload, 0, 0, [], [], 0⟩) rfl rfl
            rw [show allO (rputR (p28R r e (rscI r e)) (staE r e)) ⟨6, 0, id, 0, rscI r e, 0, 0, (staE r e).quorum, (staE r e).payload, 0, 0, [], [], 0⟩ = allO (rputR (p28R r e (rscI r e)) (staE r e)) (rscM r.self id (rscI r e) (staE r e)) from allO_from rfl] at j7
            have hS : staR r e = rputR (p28R r e (rscI r e)) (staE r e) := rfl
            by_cases hA : ackB (p28E r e (rscI r e)) (rscA r.self (p28E r e (rscI r e))) = true
            · rw [hA] at j5
              by_cases hQ : rputX (p28R r e (rscI r e)) (staE r e) = 0
              · rw [hy ⟨hr, hf, ho, hX, hB, hA, hQ⟩, hS]
                rw [hQ] at j6
                have hu := allO_pos (rscM r.self id (rscI r e) (staE r e)) (rput_rep hQ)
                clear hy hn hS hq hI
                generalize staE r e = q at *
                generalize rputR (p28R r e (rscI r e)) q = u at *
                generalize allO u (rscM r.self id (rscI r e) q) = w at *
                generalize p28R r e (rscI r e) = s at *
                generalize p28E r e (rscI r e) = p at *
                generalize rscI r e = b at *
                refine ⟨?_⟩; refine Spec.ofD 8 (h := fun F w0 => ?_)
                repeat' ((conv => whnf); first | refine Q.a ?_ | refine Q.b ?_ | refine Q.c ?_ | refine Stk.is (by first | assumption | ((try simp only [lE]); first | done | assumption | omega)) ?_ | refine Stk.isnt (by first | assumption | ((try simp only [lE]); first | done | assumption | omega)) ?_ | (refine Stk.both (fun hb => ?_) (fun hb => ?_) <;> (try simp only [lE] at hb)) | refine Q.d ?_ | refine Q.e ?_ | refine Q.f ?_ | refine Q.g ?_ | refine Q.h ?_ | refine Q.i ?_ | refine Q.j ?_ | refine Q.k ?_ | refine Q.l ?_ | refine Q.m ?_ | refine Q.n ?_ | refine Q.o (h := ?_) | refine Q.p (h := ?_) | refine Q.q ?_ | refine Q.r ?_ | refine Q.s ?_ | refine Q.t ?_ | refine Q.u ?_ | refine Q.v ?_ | refine Q.w ?_ | refine Q.x ?_ | refine Q.y ?_ | refine Q.z ?_ | refine Stk.inl (h := fun tm => ?_) | refine Stk.inl0 (h := fun tm => ?_) | refine DefG.go (h := fun vs us => ?_) | intro (tm : Array Value) | refine Stk.op (ok_buildA rfl rfl rfl rfl) ?_ | refine Stk.scope ?_); all_goals (conv => whnf)
                refine Stk.by j7 (h := ?_)
                repeat' ((conv => whnf); first | refine Q.a ?_ | refine Q.b ?_ | refine Q.c ?_ | refine Stk.is (by first | assumption | ((try simp only [lE]); first | done | assumption | omega)) ?_ | refine Stk.isnt (by first | assumption | ((try simp only [lE]); first | done | assumption | omega)) ?_ | (refine Stk.both (fun hb => ?_) (fun hb => ?_) <;> (try simp only [lE] at hb)) | refine Q.d ?_ | refine Q.e ?_ | refine Q.f ?_ | refine Q.g ?_ | refine Q.h ?_ | refine Q.i ?_ | refine Q.j ?_ | refine Q.k ?_ | refine Q.l ?_ | refine Q.m ?_ | refine Q.n ?_ | refine Q.o (h := ?_) | refine Q.p (h := ?_) | refine Q.q ?_ | refine Q.r ?_ | refine Q.s ?_ | refine Q.t ?_ | refine Q.u ?_ | refine Q.v ?_ | refine Q.w ?_ | refine Q.x ?_ | refine Q.y ?_ | refine Q.z ?_ | refine Stk.inl (h := fun tm => ?_) | refine Stk.inl0 (h := fun tm => ?_) | refine DefG.go (h := fun vs us => ?_) | intro (tm : Array Value) | refine Stk.op (ok_buildA rfl rfl rfl rfl) ?_ | refine Stk.scope ?_); all_goals (conv => whnf)
                all_goals (refine Q.r6 (h := ?_); repeat' (first | exact Q.r0 | refine Q.r1 ?_ ?_ | refine Q.r2 ?_ | exact Q.r7 | refine Q.r3 ?_ | refine Q.r4 ?_ | refine Q.r5 ?_))
              · rw [hn (fun h => hQ h.2.2.2.2.2.2)]
                clear hy hn hS hq hI j7
                generalize staE r e = q at *
                generalize rputR (p28R r e (rscI r e)) q = u at *
                generalize p28R r e (rscI r e) = s at *
                generalize p28E r e (rscI r e) = p at *
                generalize rscI r e = b at *
                refine ⟨?_⟩; refine Spec.ofD 8 (h := fun F w0 => ?_)
                repeat' ((conv => whnf); first | refine Q.a ?_ | refine Q.b ?_ | refine Q.c ?_ | refine Stk.is (by first | assumption | ((try simp only [lE]); first | done | assumption | omega)) ?_ | refine Stk.isnt (by first | assumption | ((try simp only [lE]); first | done | assumption | omega)) ?_ | (refine Stk.both (fun hb => ?_) (fun hb => ?_) <;> (try simp only [lE] at hb)) | refine Q.d ?_ | refine Q.e ?_ | refine Q.f ?_ | refine Q.g ?_ | refine Q.h ?_ | refine Q.i ?_ | refine Q.j ?_ | refine Q.k ?_ | refine Q.l ?_ | refine Q.m ?_ | refine Q.n ?_ | refine Q.o (h := ?_) | refine Q.p (h := ?_) | refine Q.q ?_ | refine Q.r ?_ | refine Q.s ?_ | refine Q.t ?_ | refine Q.u ?_ | refine Q.v ?_ | refine Q.w ?_ | refine Q.x ?_ | refine Q.y ?_ | refine Q.z ?_ | refine Stk.inl (h := fun tm => ?_) | refine Stk.inl0 (h := fun tm => ?_) | refine DefG.go (h := fun vs us => ?_) | intro (tm : Array Value) | refine Stk.op (ok_buildA rfl rfl rfl rfl) ?_ | refine Stk.scope ?_); all_goals (conv => whnf)
                all_goals (refine Q.r6 (h := ?_); repeat' (first | exact Q.r0 | refine Q.r1 ?_ ?_ | refine Q.r2 ?_ | exact Q.r7 | refine Q.r3 ?_ | refine Q.r4 ?_ | refine Q.r5 ?_))
            · have hA' : ackB (p28E r e (rscI r e)) (rscA r.self (p28E r e (rscI r e))) = false := by simpa using hA
              rw [hn (fun h => hA h.2.2.2.2.2.1)]
              rw [hA'] at j5
              clear hy hn hS hq hI j7 hA hA'
              generalize staE r e = q at *
              generalize rputR (p28R r e (rscI r e)) q = u at *
              generalize rputX (p28R r e (rscI r e)) q = y at *
              generalize p28R r e (rscI r e) = s at *
              generalize p28E r e (rscI r e) = p at *
              generalize rscI r e = b at *
              refine ⟨?_⟩; refine Spec.ofD 8 (h := fun F w0 => ?_)
              repeat' ((conv => whnf); first | refine Q.a ?_ | refine Q.b ?_ | refine Q.c ?_ | refine Stk.is (by first | assumption | ((try simp only [lE]); first | done | assumption | omega)) ?_ | refine Stk.isnt (by first | assumption | ((try simp only [lE]); first | done | assumption | omega)) ?_ | (refine Stk.both (fun hb => ?_) (fun hb => ?_) <;> (try simp only [lE] at hb)) | refine Q.d ?_ | refine Q.e ?_ | refine Q.f ?_ | refine Q.g ?_ | refine Q.h ?_ | refine Q.i ?_ | refine Q.j ?_ | refine Q.k ?_ | refine Q.l ?_ | refine Q.m ?_ | refine Q.n ?_ | refine Q.o (h := ?_) | refine Q.p (h := ?_) | refine Q.q ?_ | refine Q.r ?_ | refine Q.s ?_ | refine Q.t ?_ | refine Q.u ?_ | refine Q.v ?_ | refine Q.w ?_ | refine Q.x ?_ | refine Q.y ?_ | refine Q.z ?_ | refine Stk.inl (h := fun tm => ?_) | refine Stk.inl0 (h := fun tm => ?_) | refine DefG.go (h := fun vs us => ?_) | intro (tm : Array Value) | refine Stk.op (ok_buildA rfl rfl rfl rfl) ?_ | refine Stk.scope ?_); all_goals (conv => whnf)
              all_goals (refine Q.r6 (h := ?_); repeat' (first | exact Q.r0 | refine Q.r1 ?_ ?_ | refine Q.r2 ?_ | exact Q.r7 | refine Q.r3 ?_ | refine Q.r4 ?_ | refine Q.r5 ?_))
          · have hB' : p28B r e (rscI r e) = false := by simpa using hB
            rw [hn (fun h => hB h.2.2.2.2.1)]
            rw [hB'] at j4
            have hX2 : nextX (max e.bal e.seen) r.self r.n = 0 := hX
            rw [hX2] at j3
            have hI : nextI (max e.bal e.seen) r.self r.n = rscI r e := rfl
            rw [hI] at j3
            generalize rscI r e = b at *
            refine ⟨?_⟩; refine Spec.ofD 8 (h := fun F w0 => ?_)
            repeat' ((conv => whnf); first | refine Q.a ?_ | refine Q.b ?_ | refine Q.c ?_ | refine Stk.is (by first | assumption | ((try simp only [lE]); first | done | assumption | omega)) ?_ | refine Stk.isnt (by first | assumption | ((try simp only [lE]); first | done | assumption | omega)) ?_ | (refine Stk.both (fun hb => ?_) (fun hb => ?_) <;> (try simp only [lE] at hb)) | refine Q.d ?_ | refine Q.e ?_ | refine Q.f ?_ | refine Q.g ?_ | refine Q.h ?_ | refine Q.i ?_ | refine Q.j ?_ | refine Q.k ?_ | refine Q.l ?_ | refine Q.m ?_ | refine Q.n ?_ | refine Q.o (h := ?_) | refine Q.p (h := ?_) | refine Q.q ?_ | refine Q.r ?_ | refine Q.s ?_ | refine Q.t ?_ | refine Q.u ?_ | refine Q.v ?_ | refine Q.w ?_ | refine Q.x ?_ | refine Q.y ?_ | refine Q.z ?_ | refine Stk.inl (h := fun tm => ?_) | refine Stk.inl0 (h := fun tm => ?_) | refine DefG.go (h := fun vs us => ?_) | intro (tm : Array Value) | refine Stk.op (ok_buildA rfl rfl rfl rfl) ?_ | refine Stk.scope ?_); all_goals (conv => whnf)
            all_goals (refine Q.r6 (h := ?_); repeat' (first | exact Q.r0 | refine Q.r1 ?_ ?_ | refine Q.r2 ?_ | exact Q.r7 | refine Q.r3 ?_ | refine Q.r4 ?_ | refine Q.r5 ?_))
        · rw [hn (fun h => hX h.2.2.2.1)]
          have hX2 : nextX (max e.bal e.seen) r.self r.n ≠ 0 := hX
          have hI : nextI (max e.bal e.seen) r.self r.n = rscI r e := rfl
          rw [hI] at j3
          generalize nextX (max e.bal e.seen) r.self r.n = x at *
          generalize rscI r e = b at *
          refine ⟨?_⟩; refine Spec.ofD 8 (h := fun F w0 => ?_)
          repeat' ((conv => whnf); first | refine Q.a ?_ | refine Q.b ?_ | refine Q.c ?_ | refine Stk.is (by first | assumption | ((try simp only [lE]); first | done | assumption | omega)) ?_ | refine Stk.isnt (by first | assumption | ((try simp only [lE]); first | done | assumption | omega)) ?_ | (refine Stk.both (fun hb => ?_) (fun hb => ?_) <;> (try simp only [lE] at hb)) | refine Q.d ?_ | refine Q.e ?_ | refine Q.f ?_ | refine Q.g ?_ | refine Q.h ?_ | refine Q.i ?_ | refine Q.j ?_ | refine Q.k ?_ | refine Q.l ?_ | refine Q.m ?_ | refine Q.n ?_ | refine Q.o (h := ?_) | refine Q.p (h := ?_) | refine Q.q ?_ | refine Q.r ?_ | refine Q.s ?_ | refine Q.t ?_ | refine Q.u ?_ | refine Q.v ?_ | refine Q.w ?_ | refine Q.x ?_ | refine Q.y ?_ | refine Q.z ?_ | refine Stk.inl (h := fun tm => ?_) | refine Stk.inl0 (h := fun tm => ?_) | refine DefG.go (h := fun vs us => ?_) | intro (tm : Array Value) | refine Stk.op (ok_buildA rfl rfl rfl rfl) ?_ | refine Stk.scope ?_); all_goals (conv => whnf)
          all_goals (refine Q.r6 (h := ?_); repeat' (first | exact Q.r0 | refine Q.r1 ?_ ?_ | refine Q.r2 ?_ | exact Q.r7 | refine Q.r3 ?_ | refine Q.r4 ?_ | refine Q.r5 ?_))
      · rw [sta_no (fun h => ho h.2.2.1)]
        have hp : ¬ (1 ≤ (findT r.entries id).phase ∧ (findT r.entries id).phase ≤ 4) := fun h => ho (openB_iff.2 h)
        have he := ent_facts (find_ent hr hf)
        refine ⟨?_⟩; refine Spec.ofD 8 (h := fun F w0 => ?_)
        repeat' ((conv => whnf); first | refine Q.a ?_ | refine Q.b ?_ | refine Q.c ?_ | refine Stk.is (by first | assumption | ((try simp only [lE]); first | done | assumption | omega)) ?_ | refine Stk.isnt (by first | assumption | ((try simp only [lE]); first | done | assumption | omega)) ?_ | (refine Stk.both (fun hb => ?_) (fun hb => ?_) <;> (try simp only [lE] at hb)) | refine Q.d ?_ | refine Q.e ?_ | refine Q.f ?_ | refine Q.g ?_ | refine Q.h ?_ | refine Q.i ?_ | refine Q.j ?_ | refine Q.k ?_ | refine Q.l ?_ | refine Q.m ?_ | refine Q.n ?_ | refine Q.o (h := ?_) | refine Q.p (h := ?_) | refine Q.q ?_ | refine Q.r ?_ | refine Q.s ?_ | refine Q.t ?_ | refine Q.u ?_ | refine Q.v ?_ | refine Q.w ?_ | refine Q.x ?_ | refine Q.y ?_ | refine Q.z ?_ | refine Stk.inl (h := fun tm => ?_) | refine Stk.inl0 (h := fun tm => ?_) | refine DefG.go (h := fun vs us => ?_) | intro (tm : Array Value) | refine Stk.op (ok_buildA rfl rfl rfl rfl) ?_ | refine Stk.scope ?_); all_goals (conv => whnf)
        all_goals (refine Q.r6 (h := ?_); repeat' (first | exact Q.r0 | refine Q.r1 ?_ ?_ | refine Q.r2 ?_ | exact Q.r7 | refine Q.r3 ?_ | refine Q.r4 ?_ | refine Q.r5 ?_))
    · have hf' : findB r.entries id = false := by simpa using hf
      rw [sta_no (fun h => hf h.2.1)]
      rw [hf'] at j1
      refine ⟨?_⟩; refine Spec.ofD 8 (h := fun F w0 => ?_)
      repeat' ((conv => whnf); first | refine Q.a ?_ | refine Q.b ?_ | refine Q.c ?_ | refine Stk.is (by first | assumption | ((try simp only [lE]); first | done | assumption | omega)) ?_ | refine Stk.isnt (by first | assumption | ((try simp only [lE]); first | done | assumption | omega)) ?_ | (refine Stk.both (fun hb => ?_) (fun hb => ?_) <;> (try simp only [lE] at hb)) | refine Q.d ?_ | refine Q.e ?_ | refine Q.f ?_ | refine Q.g ?_ | refine Q.h ?_ | refine Q.i ?_ | refine Q.j ?_ | refine Q.k ?_ | refine Q.l ?_ | refine Q.m ?_ | refine Q.n ?_ | refine Q.o (h := ?_) | refine Q.p (h := ?_) | refine Q.q ?_ | refine Q.r ?_ | refine Q.s ?_ | refine Q.t ?_ | refine Q.u ?_ | refine Q.v ?_ | refine Q.w ?_ | refine Q.x ?_ | refine Q.y ?_ | refine Q.z ?_ | refine Stk.inl (h := fun tm => ?_) | refine Stk.inl0 (h := fun tm => ?_) | refine DefG.go (h := fun vs us => ?_) | intro (tm : Array Value) | refine Stk.op (ok_buildA rfl rfl rfl rfl) ?_ | refine Stk.scope ?_); all_goals (conv => whnf)
      all_goals (refine Q.r6 (h := ?_); repeat' (first | exact Q.r0 | refine Q.r1 ?_ ?_ | refine Q.r2 ?_ | exact Q.r7 | refine Q.r3 ?_ | refine Q.r4 ?_ | refine Q.r5 ?_))
  · have hr' : repB r = false := by simpa using hr
    have j2 := stk_no hr'
    rw [sta_no (fun h => hr h.1)]
    refine ⟨?_⟩; refine Spec.ofD 8 (h := fun F w0 => ?_)
    repeat' ((conv => whnf); first | refine Q.a ?_ | refine Q.b ?_ | refine Q.c ?_ | refine Stk.is (by first | assumption | ((try simp only [lE]); first | done | assumption | omega)) ?_ | refine Stk.isnt (by first | assumption | ((try simp only [lE]); first | done | assumption | omega)) ?_ | (refine Stk.both (fun hb => ?_) (fun hb => ?_) <;> (try simp only [lE] at hb)) | refine Q.d ?_ | refine Q.e ?_ | refine Q.f ?_ | refine Q.g ?_ | refine Q.h ?_ | refine Q.i ?_ | refine Q.j ?_ | refine Q.k ?_ | refine Q.l ?_ | refine Q.m ?_ | refine Q.n ?_ | refine Q.o (h := ?_) | refine Q.p (h := ?_) | refine Q.q ?_ | refine Q.r ?_ | refine Q.s ?_ | refine Q.t ?_ | refine Q.u ?_ | refine Q.v ?_ | refine Q.w ?_ | refine Q.x ?_ | refine Q.y ?_ | refine Q.z ?_ | refine Stk.inl (h := fun tm => ?_) | refine Stk.inl0 (h := fun tm => ?_) | refine DefG.go (h := fun vs us => ?_) | intro (tm : Array Value) | refine Stk.op (ok_buildA rfl rfl rfl rfl) ?_ | refine Stk.scope ?_); all_goals (conv => whnf)
    all_goals (refine Q.r6 (h := ?_); repeat' (first | exact Q.r0 | refine Q.r1 ?_ ?_ | refine Q.r2 ?_ | exact Q.r7 | refine Q.r3 ?_ | refine Q.r4 ?_ | refine Q.r5 ?_))
end Go.Proofs.YtbjepdfnmbdplaaGreat
end
section
namespace Go.Proofs.YtbjepdfnmbdplaaGreat
open Go.RowKit
set_option linter.unusedSimpArgs false
set_option linter.unusedVariables false
set_option maxRecDepth 100000
set_option maxHeartbeats 4000000
theorem rsc_no {r : Rpl} {m : Msg} (h : ¬ (m.kind = 6 ∧ hearsB r m = true ∧ r.n < m.bal ∧ ownI m.bal r.n = m.fr ∧ lrnB r m.id m.quorum m.payload = true)) : onRsc r m = (r, []) := if_neg h
open Classical in
theorem rsc_in {r : Rpl} {m : Msg} {s : Rpl} {e : Ent} (h : m.kind = 6 ∧ hearsB r m = true ∧ r.n < m.bal ∧ ownI m.bal r.n = m.fr ∧ lrnB r m.id m.quorum m.payload = true) (hs : lrnR r m.id m.quorum m.payload = s) (he : lrnE r m.id m.quorum m.payload = e) : onRsc r m = if settB e.phase = true then (s, helpO s e m.fr)
    else if m.bal < e.bal then (s, ansO r m 8 e.bal)
    else if m.bal = e.bal then (r, [])
    else if p28B s e m.bal = true then (p28R s e m.bal, [⟨m.fr, rsdM r.self m (p28E s e m.bal)⟩])
    else (r, []) := by
  subst hs
  subst he
  exact if_pos h
instance refrescue28_spec (r : Rpl) (m : Msg) : HasSpec Tryz.prog 37 [.agg r.cs, .agg m.cs] (.tup [.agg (onRsc r m).1.cs, PV.outs (onRsc r m).2]) := by
  have jh := refhears26_spec r m
  have jl := reflearn_spec r m.id m.quorum m.payload
  by_cases hk : m.kind = 6
  · cases hh : hearsB r m with
    | false =>
      rw [hh] at jh
      rw [rsc_no (fun h => by rw [hh] at h; cases h.2.1)]
      refine ⟨?_⟩; refine Spec.ofR (h := fun F w0 => ?_)
      repeat' ((conv => whnf); first | refine Q.E ?_ | (refine Stk.both (fun hb => ?_) (fun hb => ?_) <;> (try simp only [lE] at hb))); all_goals (conv => whnf)
      (refine Q.r6 (h := ?_); repeat' (first | exact Q.r0 | refine Q.r1 ?_ ?_ | refine Q.r2 ?_ | exact Q.r7 | refine Q.r3 ?_ | refine Q.r4 ?_ | refine Q.r5 ?_))
    | true =>
      rw [hh] at jh
      by_cases hb : r.n < m.bal
      · by_cases ho : ownI m.bal r.n = m.fr
        · cases hl : lrnB r m.id m.quorum m.payload with
          | false =>
            rw [hl] at jl
            rw [rsc_no (fun h => by rw [hl] at h; cases h.2.2.2.2)]
            generalize lrnR r m.id m.quorum m.payload = s at *
            generalize lrnE r m.id m.quorum m.payload = e at *
            refine ⟨?_⟩; refine Spec.ofR (h := fun F w0 => ?_)
            repeat' ((conv => whnf); first | refine Q.E ?_ | (refine Stk.both (fun hb => ?_) (fun hb => ?_) <;> (try simp only [lE] at hb))); all_goals (conv => whnf)
            (refine Q.r6 (h := ?_); repeat' (first | exact Q.r0 | refine Q.r1 ?_ ?_ | refine Q.r2 ?_ | exact Q.r7 | refine Q.r3 ?_ | refine Q.r4 ?_ | refine Q.r5 ?_))
          | true =>
            rw [hl] at jl
            rw [rsc_in ⟨hk, hh, hb, ho, hl⟩ rfl rfl]
            have hen := lrn_ent hl
            have hsf := lrn_self (r := r) (id := m.id) (q := m.quorum) (p := m.payload)
            clear hl
            generalize lrnR r m.id m.quorum m.payload = s at *
            generalize lrnE r m.id m.quorum m.payload = e at *
            have hph := ent_facts hen
            cases hp : settB e.phase with
            | true =>
              have hp5 := settB_iff.1 hp
              rw [if_pos rfl]
              have jo := refhelp_spec s e m.fr
              generalize helpO s e m.fr = o at *
              refine ⟨?_⟩; refine Spec.ofR (h := fun F w0 => ?_)
              repeat' ((conv => whnf); first | refine Q.E ?_ | (refine Stk.both (fun hb => ?_) (fun hb => ?_) <;> (try simp only [lE] at hb))); all_goals (conv => whnf)
              (refine Q.r6 (h := ?_); repeat' (first | exact Q.r0 | refine Q.r1 ?_ ?_ | refine Q.r2 ?_ | exact Q.r7 | refine Q.r3 ?_ | refine Q.r4 ?_ | refine Q.r5 ?_))
            | false =>
              have hp5 : ¬ (e.phase = 5 ∨ e.phase = 6) := fun h => by rw [settB_iff.2 h] at hp; cases hp
              rw [if_neg (by simp)]
              by_cases h1 : m.bal < e.bal
              · rw [if_pos h1]
                refine HasSpec.mono (r := .tup [.agg s.cs, .sl 15 [Out.raw ⟨m.fr, ansM r m 8 e.bal⟩]]) ?_ (SubX.tup (.cons (.refl _) (.cons (raw_out rfl rfl) .nil)))
                unfold Out.raw ansM
                refine ⟨?_⟩; refine Spec.ofR (h := fun F w0 => ?_)
                repeat' ((conv => whnf); first | refine Q.E ?_ | (refine Stk.both (fun hb => ?_) (fun hb => ?_) <;> (try simp only [lE] at hb))); all_goals (conv => whnf)
                (refine Q.r6 (h := ?_); repeat' (first | exact Q.r0 | refine Q.r1 ?_ ?_ | refine Q.r2 ?_ | exact Q.r7 | refine Q.r3 ?_ | refine Q.r4 ?_ | refine Q.r5 ?_))
              · rw [if_neg h1]
                by_cases h2 : m.bal = e.bal
                · rw [if_pos h2]
                  refine ⟨?_⟩; refine Spec.ofR (h := fun F w0 => ?_)
                  repeat' ((conv => whnf); first | refine Q.E ?_ | (refine Stk.both (fun hb => ?_) (fun hb => ?_) <;> (try simp only [lE] at hb))); all_goals (conv => whnf)
                  (refine Q.r6 (h := ?_); repeat' (first | exact Q.r0 | refine Q.r1 ?_ ?_ | refine Q.r2 ?_ | exact Q.r7 | refine Q.r3 ?_ | refine Q.r4 ?_ | refine Q.r5 ?_))
                · rw [if_neg h2]
                  have jp := refpromise28_spec s e m.bal
                  have hpb := @promise_bal s e m.bal
                  cases hB : p28B s e m.bal with
                  | false =>
                    rw [if_neg (by simp)]
                    rw [hB] at jp
                    generalize p28R s e m.bal = u at *
                    generalize p28E s e m.bal = p at *
                    refine ⟨?_⟩; refine Spec.ofR (h := fun F w0 => ?_)
                    repeat' ((conv => whnf); first | refine Q.E ?_ | (refine Stk.both (fun hb => ?_) (fun hb => ?_) <;> (try simp only [lE] at hb))); all_goals (conv => whnf)
                    (refine Q.r6 (h := ?_); repeat' (first | exact Q.r0 | refine Q.r1 ?_ ?_ | refine Q.r2 ?_ | exact Q.r7 | refine Q.r3 ?_ | refine Q.r4 ?_ | refine Q.r5 ?_))
                  | true =>
                    rw [if_pos rfl]
                    obtain ⟨b1, _⟩ := hpb hB
                    rw [hB] at jp
                    generalize p28R s e m.bal = u at *
                    generalize p28E s e m.bal = p at *
                    refine HasSpec.mono (r := .tup [.agg u.cs, .sl 15 [Out.raw ⟨m.fr, rsdM r.self m p⟩]]) ?_ (SubX.tup (.cons (.refl _) (.cons (raw_out rfl rfl) .nil)))
                    unfold Out.raw rsdM
                    rw [b1]
                    refine ⟨?_⟩; refine Spec.ofR (h := fun F w0 => ?_)
                    repeat' ((conv => whnf); first | refine Q.E ?_ | (refine Stk.both (fun hb => ?_) (fun hb => ?_) <;> (try simp only [lE] at hb))); all_goals (conv => whnf)
                    (refine Q.r6 (h := ?_); repeat' (first | exact Q.r0 | refine Q.r1 ?_ ?_ | refine Q.r2 ?_ | exact Q.r7 | refine Q.r3 ?_ | refine Q.r4 ?_ | refine Q.r5 ?_))
        · rw [rsc_no (fun h => ho h.2.2.2.1)]
          have jo := refowner_spec m.bal r.n
          refine ⟨?_⟩; refine Spec.ofR (h := fun F w0 => ?_)
          repeat' ((conv => whnf); first | refine Q.E ?_ | (refine Stk.both (fun hb => ?_) (fun hb => ?_) <;> (try simp only [lE] at hb))); all_goals (conv => whnf)
          (refine Q.r6 (h := ?_); repeat' (first | exact Q.r0 | refine Q.r1 ?_ ?_ | refine Q.r2 ?_ | exact Q.r7 | refine Q.r3 ?_ | refine Q.r4 ?_ | refine Q.r5 ?_))
      · rw [rsc_no (fun h => hb h.2.2.1)]
        refine ⟨?_⟩; refine Spec.ofR (h := fun F w0 => ?_)
        repeat' ((conv => whnf); first | refine Q.E ?_ | (refine Stk.both (fun hb => ?_) (fun hb => ?_) <;> (try simp only [lE] at hb))); all_goals (conv => whnf)
        (refine Q.r6 (h := ?_); repeat' (first | exact Q.r0 | refine Q.r1 ?_ ?_ | refine Q.r2 ?_ | exact Q.r7 | refine Q.r3 ?_ | refine Q.r4 ?_ | refine Q.r5 ?_))
  · rw [rsc_no (fun h => hk h.1)]
    refine ⟨?_⟩; refine Spec.ofR (h := fun F w0 => ?_)
    repeat' ((conv => whnf); first | refine Q.E ?_ | (refine Stk.both (fun hb => ?_) (fun hb => ?_) <;> (try simp only [lE] at hb))); all_goals (conv => whnf)
    (refine Q.r6 (h := ?_); repeat' (first | exact Q.r0 | refine Q.r1 ?_ ?_ | refine Q.r2 ?_ | exact Q.r7 | refine Q.r3 ?_ | refine Q.r4 ?_ | refine Q.r5 ?_))
end Go.Proofs.YtbjepdfnmbdplaaGreat
end
section
namespace Go.Proofs.YtbjepdfnmbdplaaGreat
open Go.RowKit
set_option linter.unusedSimpArgs false
set_option linter.unusedVariables false
theorem msg_facts {m : Msg} (h : msgB m = true) (hi : kI m.kind = true) : 1 ≤ m.fr ∧ idB m.id = true ∧ (kL m.kind = true → 1 ≤ m.bal ∧ m.bal ≤ 1000000) := by
  unfold msgB at h
  simp only [Bool.and_eq_true, decide_eq_true_eq] at h
  obtain ⟨_, ⟨⟨⟨⟨⟨⟨⟨⟨⟨hf, _⟩, hid⟩, _⟩, hb⟩, _⟩, _⟩, _⟩, _⟩, _⟩⟩ := h
  rw [if_pos hi] at hid
  refine ⟨hf, hid, fun hl => ?_⟩
  unfold inN at hb
  rw [if_pos hl, decide_eq_true_eq] at hb
  exact hb
end Go.Proofs.YtbjepdfnmbdplaaGreat
end
section
namespace Go.Proofs.YtbjepdfnmbdplaaGreat
open Go.RowKit
set_option linter.unusedSimpArgs false
set_option linter.unusedVariables false
set_option maxRecDepth 100000
set_option maxHeartbeats 4000000
def bckM (r : Rpl) (m : Msg) (k t b ab ph : Int) : Msg := ⟨k, r.self, m.id, t, b, ab, ph, 0, noByte, 0, 0, [], [], 0⟩
instance back28_spec (r : Rpl) (m : Msg) (k t b ab ph : Int) : HasSpec Tryz.prog 104 [.agg (r.cs ++ m.cs), .agg [PV.int k, PV.int 0, PV.int 0, PV.int t, PV.int b, PV.int ab, PV.int ph, PV.int 0, .v (.string noByte), PV.int 0, PV.int 0, .v (.slice none 0 0), .v (.slice none 0 0), PV.int 0]] (PV.outs [⟨m.fr, bckM r m k t b ab ph⟩]) := by
  refine HasSpec.mono (r := .sl 15 [Out.raw ⟨m.fr, bckM r m k t b ab ph⟩]) ?_ (raw_out rfl rfl)
  unfold Out.raw bckM
  refine ⟨?_⟩; refine Spec.ofR (h := fun F w0 => ?_)
  repeat' ((conv => whnf); first | refine Q.E ?_ | (refine Stk.both (fun hb => ?_) (fun hb => ?_) <;> (try simp only [lE] at hb))); all_goals (conv => whnf)
  (refine Q.r6 (h := ?_); repeat' (first | exact Q.r0 | refine Q.r1 ?_ ?_ | refine Q.r2 ?_ | exact Q.r7 | refine Q.r3 ?_ | refine Q.r4 ?_ | refine Q.r5 ?_))
theorem first_hears {r : Rpl} {m : Msg} (h : hearsB r m = true) (hk : m.kind = 6 ∨ m.kind = 7) : firstB m.bal r.n = decide (m.bal ≤ r.n) := by
  obtain ⟨h1, h2, _⟩ := hears_rep h
  have hn := (nums_p (rep_parts h1).1).1
  unfold numsP at hn
  obtain ⟨_, _, h3⟩ := msg_facts h2 (by rcases hk with hk | hk <;> rw [hk] <;> decide)
  have h4 := h3 (by rcases hk with hk | hk <;> rw [hk] <;> decide)
  unfold firstB
  rw [decide_eq_decide]
  omega
end Go.Proofs.YtbjepdfnmbdplaaGreat
end
section
namespace Go.Proofs.YtbjepdfnmbdplaaGreat
open Go.RowKit
set_option linter.unusedSimpArgs false
set_option linter.unusedVariables false
set_option maxRecDepth 100000
set_option maxHeartbeats 4000000
instance rescue28_spec (r : Rpl) (m : Msg) : HasSpec Tryz.prog 36 [.agg r.cs, .agg m.cs] (.tup [.agg (onRsc r m).1.cs, PV.outs (onRsc r m).2]) := by
  have jh := hears26_spec r m
  have jl := learn_spec r m.id m.quorum m.payload
  by_cases hk : m.kind = 6
  · cases hh : hearsB r m with
    | false =>
      rw [hh] at jh
      rw [rsc_no (fun h => by rw [hh] at h; cases h.2.1)]
      refine ⟨?_⟩; refine Spec.ofR (h := fun F w0 => ?_)
      repeat' ((conv => whnf); first | refine Q.E ?_ | (refine Stk.both (fun hb => ?_) (fun hb => ?_) <;> (try simp only [lE] at hb))); all_goals (conv => whnf)
      all_goals (refine Q.r6 (h := ?_); repeat' (first | exact Q.r0 | refine Q.r1 ?_ ?_ | refine Q.r2 ?_ | exact Q.r7 | refine Q.r3 ?_ | refine Q.r4 ?_ | refine Q.r5 ?_))
    | true =>
      rw [hh] at jh
      have jf := first_spec m.bal r.n
      rw [first_hears hh (.inl hk)] at jf
      by_cases hb : r.n < m.bal
      · rw [decide_eq_false (by omega)] at jf
        by_cases ho : ownI m.bal r.n = m.fr
        · cases hl : lrnB r m.id m.quorum m.payload with
          | false =>
            rw [hl] at jl
            rw [rsc_no (fun h => by rw [hl] at h; cases h.2.2.2.2)]
            generalize lrnR r m.id m.quorum m.payload = s at *
            generalize lrnE r m.id m.quorum m.payload = e at *
            refine ⟨?_⟩; refine Spec.ofR (h := fun F w0 => ?_)
            repeat' ((conv => whnf); first | refine Q.E ?_ | (refine Stk.both (fun hb => ?_) (fun hb => ?_) <;> (try simp only [lE] at hb))); all_goals (conv => whnf)
            all_goals (refine Q.r6 (h := ?_); repeat' (first | exact Q.r0 | refine Q.r1 ?_ ?_ | refine Q.r2 ?_ | exact Q.r7 | refine Q.r3 ?_ | refine Q.r4 ?_ | refine Q.r5 ?_))
          | true =>
            rw [hl] at jl
            rw [rsc_in ⟨hk, hh, hb, ho, hl⟩ rfl rfl]
            have hen := lrn_ent hl
            have hsf := lrn_self (r := r) (id := m.id) (q := m.quorum) (p := m.payload)
            clear hl
            generalize lrnR r m.id m.quorum m.payload = s at *
            generalize lrnE r m.id m.quorum m.payload = e at *
            have hph := ent_facts hen
            have js := phasesett_spec e.phase
            cases hp : settB e.phase with
            | true =>
              rw [hp] at js
              have hp5 := settB_iff.1 hp
              rw [if_pos rfl]
              have jo := help_spec s e m.fr
              generalize helpO s e m.fr = o at *
              refine ⟨?_⟩; refine Spec.ofR (h := fun F w0 => ?_)
              repeat' ((conv => whnf); first | refine Q.E ?_ | (refine Stk.both (fun hb => ?_) (fun hb => ?_) <;> (try simp only [lE] at hb))); all_goals (conv => whnf)
              all_goals (refine Q.r6 (h := ?_); repeat' (first | exact Q.r0 | refine Q.r1 ?_ ?_ | refine Q.r2 ?_ | exact Q.r7 | refine Q.r3 ?_ | refine Q.r4 ?_ | refine Q.r5 ?_))
            | false =>
              rw [hp] at js
              have hp5 : ¬ (e.phase = 5 ∨ e.phase = 6) := fun h => by rw [settB_iff.2 h] at hp; cases hp
              rw [if_neg (by simp)]
              by_cases h1 : m.bal < e.bal
              · rw [if_pos h1]
                have jb := back28_spec r m 8 0 e.bal 0 0
                rw [show [(⟨m.fr, bckM r m 8 0 e.bal 0 0⟩ : Out)] = ansO r m 8 e.bal from rfl] at jb
                generalize ansO r m 8 e.bal = o at *
                refine ⟨?_⟩; refine Spec.ofR (h := fun F w0 => ?_)
                repeat' ((conv => whnf); first | refine Q.E ?_ | (refine Stk.both (fun hb => ?_) (fun hb => ?_) <;> (try simp only [lE] at hb))); all_goals (conv => whnf)
                refine Stk.by jb (h := ?_)
                repeat' ((conv => whnf); first | refine Q.E ?_ | (refine Stk.both (fun hb => ?_) (fun hb => ?_) <;> (try simp only [lE] at hb))); all_goals (conv => whnf)
                all_goals (refine Q.r6 (h := ?_); repeat' (first | exact Q.r0 | refine Q.r1 ?_ ?_ | refine Q.r2 ?_ | exact Q.r7 | refine Q.r3 ?_ | refine Q.r4 ?_ | refine Q.r5 ?_))
              · rw [if_neg h1]
                by_cases h2 : m.bal = e.bal
                · rw [if_pos h2]
                  refine ⟨?_⟩; refine Spec.ofR (h := fun F w0 => ?_)
                  repeat' ((conv => whnf); first | refine Q.E ?_ | (refine Stk.both (fun hb => ?_) (fun hb => ?_) <;> (try simp only [lE] at hb))); all_goals (conv => whnf)
                  all_goals (refine Q.r6 (h := ?_); repeat' (first | exact Q.r0 | refine Q.r1 ?_ ?_ | refine Q.r2 ?_ | exact Q.r7 | refine Q.r3 ?_ | refine Q.r4 ?_ | refine Q.r5 ?_))
                · rw [if_neg h2]
                  have jp := promise28_spec s e m.bal
                  have hpb := @promise_bal s e m.bal
                  cases hB : p28B s e m.bal with
                  | false =>
                    rw [if_neg (by simp)]
                    rw [hB] at jp
                    generalize p28R s e m.bal = u at *
                    generalize p28E s e m.bal = p at *
                    refine ⟨?_⟩; refine Spec.ofR (h := fun F w0 => ?_)
                    repeat' ((conv => whnf); first | refine Q.E ?_ | (refine Stk.both (fun hb => ?_) (fun hb => ?_) <;> (try simp only [lE] at hb))); all_goals (conv => whnf)
                    all_goals (refine Q.r6 (h := ?_); repeat' (first | exact Q.r0 | refine Q.r1 ?_ ?_ | refine Q.r2 ?_ | exact Q.r7 | refine Q.r3 ?_ | refine Q.r4 ?_ | refine Q.r5 ?_))
                  | true =>
                    rw [if_pos rfl]
                    obtain ⟨b1, _⟩ := hpb hB
                    rw [hB] at jp
                    generalize p28R s e m.bal = u at *
                    generalize p28E s e m.bal = p at *
                    have jb := back28_spec r m 7 p.t p.bal p.abal p.phase
                    rw [show [(⟨m.fr, bckM r m 7 p.t p.bal p.abal p.phase⟩ : Out)] = [⟨m.fr, rsdM r.self m p⟩] from rfl] at jb
                    generalize [(⟨m.fr, rsdM r.self m p⟩ : Out)] = o at *
                    refine ⟨?_⟩; refine Spec.ofR (h := fun F w0 => ?_)
                    repeat' ((conv => whnf); first | refine Q.E ?_ | (refine Stk.both (fun hb => ?_) (fun hb => ?_) <;> (try simp only [lE] at hb))); all_goals (conv => whnf)
                    refine Stk.by jb (h := ?_)
                    repeat' ((conv => whnf); first | refine Q.E ?_ | (refine Stk.both (fun hb => ?_) (fun hb => ?_) <;> (try simp only [lE] at hb))); all_goals (conv => whnf)
                    all_goals (refine Q.r6 (h := ?_); repeat' (first | exact Q.r0 | refine Q.r1 ?_ ?_ | refine Q.r2 ?_ | exact Q.r7 | refine Q.r3 ?_ | refine Q.r4 ?_ | refine Q.r5 ?_))
        · rw [rsc_no (fun h => ho h.2.2.2.1)]
          have jo := owner_spec m.bal r.n
          refine ⟨?_⟩; refine Spec.ofR (h := fun F w0 => ?_)
          repeat' ((conv => whnf); first | refine Q.E ?_ | (refine Stk.both (fun hb => ?_) (fun hb => ?_) <;> (try simp only [lE] at hb))); all_goals (conv => whnf)
          all_goals (refine Q.r6 (h := ?_); repeat' (first | exact Q.r0 | refine Q.r1 ?_ ?_ | refine Q.r2 ?_ | exact Q.r7 | refine Q.r3 ?_ | refine Q.r4 ?_ | refine Q.r5 ?_))
      · rw [rsc_no (fun h => hb h.2.2.1)]
        rw [decide_eq_true (by omega)] at jf
        refine ⟨?_⟩; refine Spec.ofR (h := fun F w0 => ?_)
        repeat' ((conv => whnf); first | refine Q.E ?_ | (refine Stk.both (fun hb => ?_) (fun hb => ?_) <;> (try simp only [lE] at hb))); all_goals (conv => whnf)
        all_goals (refine Q.r6 (h := ?_); repeat' (first | exact Q.r0 | refine Q.r1 ?_ ?_ | refine Q.r2 ?_ | exact Q.r7 | refine Q.r3 ?_ | refine Q.r4 ?_ | refine Q.r5 ?_))
  · rw [rsc_no (fun h => hk h.1)]
    refine ⟨?_⟩; refine Spec.ofR (h := fun F w0 => ?_)
    repeat' ((conv => whnf); first | refine Q.E ?_ | (refine Stk.both (fun hb => ?_) (fun hb => ?_) <;> (try simp only [lE] at hb))); all_goals (conv => whnf)
    all_goals (refine Q.r6 (h := ?_); repeat' (first | exact Q.r0 | refine Q.r1 ?_ ?_ | refine Q.r2 ?_ | exact Q.r7 | refine Q.r3 ?_ | refine Q.r4 ?_ | refine Q.r5 ?_))
end Go.Proofs.YtbjepdfnmbdplaaGreat
end
section
namespace Go.Proofs.YtbjepdfnmbdplaaGreat
open Go.RowKit
set_option linter.unusedSimpArgs false
set_option linter.unusedVariables false
set_option maxRecDepth 100000
set_option maxHeartbeats 4000000
theorem rsd_no {r : Rpl} {m : Msg} (h : ¬ (m.kind = 7 ∧ hearsB r m = true ∧ r.n < m.bal ∧ ownI m.bal r.n = r.self ∧ findB r.entries m.id = true)) : onRsd r m = (r, []) := if_neg h
open Classical in
noncomputable def rsdT (r : Rpl) (m : Msg) (q : Ent) : Rpl × List Out :=
  if readyB r.n r.f (ofL q.acks 3 m.bal) = true then (if (chooseR r.n r.f q.quorum q.id (ofL q.acks 3 m.bal)).2 = 0 ∧ tkB (rputR r q) q (chooseR r.n r.f q.quorum q.id (ofL q.acks 3 m.bal)).1 m.bal = true then (tkR (rputR r q) q (chooseR r.n r.f q.quorum q.id (ofL q.acks 3 m.bal)).1 m.bal, allO (tkR (rputR r q) q (chooseR r.n r.f q.quorum q.id (ofL q.acks 3 m.bal)).1 m.bal) (takM r.self (chooseR r.n r.f q.quorum q.id (ofL q.acks 3 m.bal)).1 m.bal q)) else (r, []))
  else (rputR r q, [])
open Classical in
theorem rsd_in {r : Rpl} {m : Msg} {e : Ent} (h : m.kind = 7 ∧ hearsB r m = true ∧ r.n < m.bal ∧ ownI m.bal r.n = r.self ∧ findB r.entries m.id = true) (he : findT r.entries m.id = e) : onRsd r m = if openB e.phase = true ∧ e.bal = m.bal ∧ e.abal ≠ m.bal ∧ ackB e (rsdA m) = true ∧ rputX r (ackR e (rsdA m)) = 0 then rsdT r m (ackR e (rsdA m)) else (r, []) := by
  subst he
  exact if_pos h
instance refrescued28_spec (r : Rpl) (m : Msg) : HasSpec Tryz.prog 39 [.agg r.cs, .agg m.cs] (.tup [.agg (onRsd r m).1.cs, PV.outs (onRsd r m).2]) := by
  have jh := refhears26_spec r m
  have jo := refowner_spec m.bal r.n
  have j1 := reftabfind_spec r.entries m.id
  by_cases hk : m.kind = 7
  · cases hh : hearsB r m with
    | false =>
      rw [hh] at jh
      rw [rsd_no (fun h => by rw [hh] at h; cases h.2.1)]
      refine ⟨?_⟩; refine Spec.ofR (h := fun F w0 => ?_)
      repeat' ((conv => whnf); first | refine Q.E ?_ | (refine Stk.both (fun hb => ?_) (fun hb => ?_) <;> (try simp only [lE] at hb))); all_goals (conv => whnf)
      all_goals (refine Q.r6 (h := ?_); repeat' (first | exact Q.r0 | refine Q.r1 ?_ ?_ | refine Q.r2 ?_ | exact Q.r7 | refine Q.r3 ?_ | refine Q.r4 ?_ | refine Q.r5 ?_))
    | true =>
      rw [hh] at jh
      have hr := (hears_rep hh).1
      by_cases hb : r.n < m.bal
      · by_cases ho : ownI m.bal r.n = r.self
        · cases hf : findB r.entries m.id with
          | false =>
            rw [hf] at j1
            rw [rsd_no (fun h => by rw [hf] at h; cases h.2.2.2.2)]
            refine ⟨?_⟩; refine Spec.ofR (h := fun F w0 => ?_)
            repeat' ((conv => whnf); first | refine Q.E ?_ | (refine Stk.both (fun hb => ?_) (fun hb => ?_) <;> (try simp only [lE] at hb))); all_goals (conv => whnf)
            all_goals (refine Q.r6 (h := ?_); repeat' (first | exact Q.r0 | refine Q.r1 ?_ ?_ | refine Q.r2 ?_ | exact Q.r7 | refine Q.r3 ?_ | refine Q.r4 ?_ | refine Q.r5 ?_))
          | true =>
            rw [hf] at j1
            rw [rsd_in ⟨hk, hh, hb, ho, hf⟩ rfl]
            have he := find_ent hr hf
            generalize findT r.entries m.id = e at *
            have hph := ent_facts he
            by_cases hc : openB e.phase = true ∧ e.bal = m.bal ∧ e.abal ≠ m.bal
            · obtain ⟨c1, c2, c3⟩ := hc
              have c1' := openB_iff.1 c1
              have j5 := refacked_spec e (rsdA m)
              have j6 := refput_spec r (ackR e (rsdA m))
              have hl := ack_len e (rsdA m) he
              cases hA : ackB e (rsdA m) with
              | false =>
                rw [hA] at j5
                rw [if_neg (fun h => by cases h.2.2.2.1)]
                generalize ackR e (rsdA m) = q at *
                generalize rputR r q = s at *
                generalize rputX r q = x at *
                refine ⟨?_⟩; refine Spec.ofR (h := fun F w0 => ?_)
                repeat' ((conv => whnf); first | refine Q.E ?_ | (refine Stk.both (fun hb => ?_) (fun hb => ?_) <;> (try simp only [lE] at hb))); all_goals (conv => whnf)
                refine Stk.by j5 (h := ?_)
                repeat' ((conv => whnf); first | refine Q.E ?_ | (refine Stk.both (fun hb => ?_) (fun hb => ?_) <;> (try simp only [lE] at hb))); all_goals (conv => whnf)
                all_goals (refine Q.r6 (h := ?_); repeat' (first | exact Q.r0 | refine Q.r1 ?_ ?_ | refine Q.r2 ?_ | exact Q.r7 | refine Q.r3 ?_ | refine Q.r4 ?_ | refine Q.r5 ?_))
              | true =>
                rw [hA] at j5
                by_cases hQ : rputX r (ackR e (rsdA m)) = 0
                · rw [if_pos ⟨c1, c2, c3, rfl, hQ⟩]
                  rw [hQ] at j6
                  generalize ackR e (rsdA m) = q at *
                  have j7 := refof_spec q 3 m.bal hl
                  have j8 := refready24_spec r.n r.f (ofL q.acks 3 m.bal)
                  have j9 := refchoose24_spec r.n r.f q.quorum q.id (ofL q.acks 3 m.bal)
                  unfold rsdT
                  cases hR : readyB r.n r.f (ofL q.acks 3 m.bal) with
                  | false =>
                    rw [hR] at j8
                    rw [if_neg (by simp)]
                    generalize rputR r q = s at *
                    generalize ofL q.acks 3 m.bal = l at *
                    refine ⟨?_⟩; refine Spec.ofR (h := fun F w0 => ?_)
                    repeat' ((conv => whnf); first | refine Q.E ?_ | (refine Stk.both (fun hb => ?_) (fun hb => ?_) <;> (try simp only [lE] at hb))); all_goals (conv => whnf)
                    refine Stk.by j5 (h := ?_)
                    repeat' ((conv => whnf); first | refine Q.E ?_ | (refine Stk.both (fun hb => ?_) (fun hb => ?_) <;> (try simp only [lE] at hb))); all_goals (conv => whnf)
                    all_goals (refine Q.r6 (h := ?_); repeat' (first | exact Q.r0 | refine Q.r1 ?_ ?_ | refine Q.r2 ?_ | exact Q.r7 | refine Q.r3 ?_ | refine Q.r4 ?_ | refine Q.r5 ?_))
                  | true =>
                    rw [hR] at j8
                    rw [if_pos rfl]
                    generalize rputR r q = s at *
                    generalize ofL q.acks 3 m.bal = l at *
                    generalize chooseR r.n r.f q.quorum q.id l = c at *
                    obtain ⟨t, y⟩ := c
                    dsimp only at j9 ⊢
                    have j10 := reftake_spec s q t m.bal
                    have j11 := refall_raw (tkR s q t m.bal) (m := ⟨3, 0, q.id, t, m.bal, 0, 0, q.quorum, q.payload, 0, 0, [], [], 0⟩) rfl rfl
                    rw [show allO (tkR s q t m.bal) ⟨3, 0, q.id, t, m.bal, 0, 0, q.quorum, q.payload, 0, 0, [], [], 0⟩ = allO (tkR s q t m.bal) (takM r.self t m.bal q) from allO_from rfl] at j11
                    by_cases hy : y = 0 ∧ tkB s q t m.bal = true
                    · rw [if_pos hy]
                      obtain ⟨hy, hT⟩ := hy
                      subst hy
                      rw [hT] at j10
                      generalize tkR s q t m.bal = u at *
                      generalize allO u (takM r.self t m.bal q) = w at *
                      refine ⟨?_⟩; refine Spec.ofR (h := fun F w0 => ?_)
                      repeat' ((conv => whnf); first | refine Q.E ?_ | (refine Stk.both (fun hb => ?_) (fun hb => ?_) <;> (try simp only [lE] at hb))); all_goals (conv => whnf)
                      refine Stk.by j5 (h := ?_)
                      repeat' ((conv => whnf); first | refine Q.E ?_ | (refine Stk.both (fun hb => ?_) (fun hb => ?_) <;> (try simp only [lE] at hb))); all_goals (conv => whnf)
                      refine Stk.by j11 (h := ?_)
                      repeat' ((conv => whnf); first | refine Q.E ?_ | (refine Stk.both (fun hb => ?_) (fun hb => ?_) <;> (try simp only [lE] at hb))); all_goals (conv => whnf)
                      all_goals (refine Q.r6 (h := ?_); repeat' (first | exact Q.r0 | refine Q.r1 ?_ ?_ | refine Q.r2 ?_ | exact Q.r7 | refine Q.r3 ?_ | refine Q.r4 ?_ | refine Q.r5 ?_))
                    · rw [if_neg hy]
                      generalize tkR s q t m.bal = u at *
                      cases hT : tkB s q t m.bal with
                      | false =>
                        rw [hT] at j10
                        refine ⟨?_⟩; refine Spec.ofR (h := fun F w0 => ?_)
                        repeat' ((conv => whnf); first | refine Q.E ?_ | (refine Stk.both (fun hb => ?_) (fun hb => ?_) <;> (try simp only [lE] at hb))); all_goals (conv => whnf)
                        refine Stk.by j5 (h := ?_)
                        repeat' ((conv => whnf); first | refine Q.E ?_ | (refine Stk.both (fun hb => ?_) (fun hb => ?_) <;> (try simp only [lE] at hb))); all_goals (conv => whnf)
                        all_goals (refine Q.r6 (h := ?_); repeat' (first | exact Q.r0 | refine Q.r1 ?_ ?_ | refine Q.r2 ?_ | exact Q.r7 | refine Q.r3 ?_ | refine Q.r4 ?_ | refine Q.r5 ?_))
                      | true =>
                        rw [hT] at j10
                        have hy2 : y ≠ 0 := fun h => hy ⟨h, hT⟩
                        refine ⟨?_⟩; refine Spec.ofR (h := fun F w0 => ?_)
                        repeat' ((conv => whnf); first | refine Q.E ?_ | (refine Stk.both (fun hb => ?_) (fun hb => ?_) <;> (try simp only [lE] at hb))); all_goals (conv => whnf)
                        refine Stk.by j5 (h := ?_)
                        repeat' ((conv => whnf); first | refine Q.E ?_ | (refine Stk.both (fun hb => ?_) (fun hb => ?_) <;> (try simp only [lE] at hb))); all_goals (conv => whnf)
                        all_goals (refine Q.r6 (h := ?_); repeat' (first | exact Q.r0 | refine Q.r1 ?_ ?_ | refine Q.r2 ?_ | exact Q.r7 | refine Q.r3 ?_ | refine Q.r4 ?_ | refine Q.r5 ?_))
                · rw [if_neg (fun h => hQ h.2.2.2.2)]
                  generalize ackR e (rsdA m) = q at *
                  generalize rputR r q = s at *
                  generalize rputX r q = x at *
                  refine ⟨?_⟩; refine Spec.ofR (h := fun F w0 => ?_)
                  repeat' ((conv => whnf); first | refine Q.E ?_ | (refine Stk.both (fun hb => ?_) (fun hb => ?_) <;> (try simp only [lE] at hb))); all_goals (conv => whnf)
                  refine Stk.by j5 (h := ?_)
                  repeat' ((conv => whnf); first | refine Q.E ?_ | (refine Stk.both (fun hb => ?_) (fun hb => ?_) <;> (try simp only [lE] at hb))); all_goals (conv => whnf)
                  all_goals (refine Q.r6 (h := ?_); repeat' (first | exact Q.r0 | refine Q.r1 ?_ ?_ | refine Q.r2 ?_ | exact Q.r7 | refine Q.r3 ?_ | refine Q.r4 ?_ | refine Q.r5 ?_))
            · rw [if_neg (fun h => hc ⟨h.1, h.2.1, h.2.2.1⟩)]
              have hc2 : ¬ (1 ≤ e.phase ∧ e.phase ≤ 4 ∧ e.bal = m.bal ∧ e.abal ≠ m.bal) := fun h => hc ⟨openB_iff.2 ⟨h.1, h.2.1⟩, h.2.2⟩
              refine ⟨?_⟩; refine Spec.ofR (h := fun F w0 => ?_)
              repeat' ((conv => whnf); first | refine Q.E ?_ | (refine Stk.both (fun hb => ?_) (fun hb => ?_) <;> (try simp only [lE] at hb))); all_goals (conv => whnf)
              all_goals first | (exfalso; omega) | (refine Q.r6 (h := ?_); repeat' (first | exact Q.r0 | refine Q.r1 ?_ ?_ | refine Q.r2 ?_ | exact Q.r7 | refine Q.r3 ?_ | refine Q.r4 ?_ | refine Q.r5 ?_))
        · rw [rsd_no (fun h => ho h.2.2.2.1)]
          refine ⟨?_⟩; refine Spec.ofR (h := fun F w0 => ?_)
          repeat' ((conv => whnf); first | refine Q.E ?_ | (refine Stk.both (fun hb => ?_) (fun hb => ?_) <;> (try simp only [lE] at hb))); all_goals (conv => whnf)
          all_goals (refine Q.r6 (h := ?_); repeat' (first | exact Q.r0 | refine Q.r1 ?_ ?_ | refine Q.r2 ?_ | exact Q.r7 | refine Q.r3 ?_ | refine Q.r4 ?_ | refine Q.r5 ?_))
      · rw [rsd_no (fun h => hb h.2.2.1)]
        refine ⟨?_⟩; refine Spec.ofR (h := fun F w0 => ?_)
        repeat' ((conv => whnf); first | refine Q.E ?_ | (refine Stk.both (fun hb => ?_) (fun hb => ?_) <;> (try simp only [lE] at hb))); all_goals (conv => whnf)
        all_goals (refine Q.r6 (h := ?_); repeat' (first | exact Q.r0 | refine Q.r1 ?_ ?_ | refine Q.r2 ?_ | exact Q.r7 | refine Q.r3 ?_ | refine Q.r4 ?_ | refine Q.r5 ?_))
  · rw [rsd_no (fun h => hk h.1)]
    refine ⟨?_⟩; refine Spec.ofR (h := fun F w0 => ?_)
    repeat' ((conv => whnf); first | refine Q.E ?_ | (refine Stk.both (fun hb => ?_) (fun hb => ?_) <;> (try simp only [lE] at hb))); all_goals (conv => whnf)
    all_goals (refine Q.r6 (h := ?_); repeat' (first | exact Q.r0 | refine Q.r1 ?_ ?_ | refine Q.r2 ?_ | exact Q.r7 | refine Q.r3 ?_ | refine Q.r4 ?_ | refine Q.r5 ?_))
end Go.Proofs.YtbjepdfnmbdplaaGreat
end
section
namespace Go.Proofs.YtbjepdfnmbdplaaGreat
open Go.RowKit
set_option linter.unusedSimpArgs false
set_option linter.unusedVariables false
set_option maxRecDepth 100000
set_option maxHeartbeats 4000000
open Classical in
noncomputable def takP (s : Rpl) (q : Ent) : Rpl × List Out × Bool :=
  if readyB s.n s.f (ofL q.acks 3 q.bal) = true then (if (chooseR s.n s.f q.quorum q.id (ofL q.acks 3 q.bal)).2 = 0 ∧ tkB s q (chooseR s.n s.f q.quorum q.id (ofL q.acks 3 q.bal)).1 q.bal = true then (tkR s q (chooseR s.n s.f q.quorum q.id (ofL q.acks 3 q.bal)).1 q.bal, allO (tkR s q (chooseR s.n s.f q.quorum q.id (ofL q.acks 3 q.bal)).1 q.bal) (takM s.self (chooseR s.n s.f q.quorum q.id (ofL q.acks 3 q.bal)).1 q.bal q), true) else (s, [], false))
  else (s, [], true)
theorem ofL_len28 (l : List Ack) (k b : Int) : (ofL l k b).length ≤ l.length := by unfold ofL; exact List.length_filter_le _ _
theorem taken28_spec (s : Rpl) (q : Ent) (hl : q.acks.length ≤ 1000000) : HasSpec Tryz.prog 105 [.agg s.cs, .agg q.cs] (.tup [.agg (takP s q).1.cs, PV.outs (takP s q).2.1, .v (.bool (takP s q).2.2)]) := by
  have j7 := entof_spec q 3 q.bal hl
  have j8 := ready_spec s.n s.f (ofL q.acks 3 q.bal)
  have j9 := choose_spec s.n s.f q.quorum q.id (ofL q.acks 3 q.bal) (by have := ofL_len28 q.acks 3 q.bal; omega)
  unfold takP
  cases hR : readyB s.n s.f (ofL q.acks 3 q.bal) with
  | false =>
    rw [hR] at j8
    rw [if_neg (by simp)]
    generalize ofL q.acks 3 q.bal = l at *
    refine ⟨?_⟩; refine Spec.ofR (h := fun F w0 => ?_)
    repeat' ((conv => whnf); first | refine Q.E ?_ | (refine Stk.both (fun hb => ?_) (fun hb => ?_) <;> (try simp only [lE] at hb))); all_goals (conv => whnf)
    all_goals (refine Q.r6 (h := ?_); repeat' (first | exact Q.r0 | refine Q.r1 ?_ ?_ | refine Q.r2 ?_ | exact Q.r7 | refine Q.r3 ?_ | refine Q.r4 ?_ | refine Q.r5 ?_))
  | true =>
    rw [hR] at j8
    rw [if_pos rfl]
    generalize ofL q.acks 3 q.bal = l at *
    generalize chooseR s.n s.f q.quorum q.id l = c at *
    obtain ⟨t, y⟩ := c
    dsimp only at j9 ⊢
    have j10 := take_spec s q t q.bal
    have j11 := all_raw (tkR s q t q.bal) (m := ⟨3, 0, q.id, t, q.bal, 0, 0, q.quorum, q.payload, 0, 0, [], [], 0⟩) rfl rfl
    rw [show allO (tkR s q t q.bal) ⟨3, 0, q.id, t, q.bal, 0, 0, q.quorum, q.payload, 0, 0, [], [], 0⟩ = allO (tkR s q t q.bal) (takM s.self t q.bal q) from allO_from rfl] at j11
    by_cases hy : y = 0 ∧ tkB s q t q.bal = true
    · rw [if_pos hy]
      obtain ⟨hy, hT⟩ := hy
      subst hy
      rw [hT] at j10
      generalize tkR s q t q.bal = u at *
      generalize allO u (takM s.self t q.bal q) = w at *
      refine ⟨?_⟩; refine Spec.ofR (h := fun F w0 => ?_)
      repeat' ((conv => whnf); first | refine Q.E ?_ | (refine Stk.both (fun hb => ?_) (fun hb => ?_) <;> (try simp only [lE] at hb))); all_goals (conv => whnf)
      refine Stk.by j11 (h := ?_)
      repeat' ((conv => whnf); first | refine Q.E ?_ | (refine Stk.both (fun hb => ?_) (fun hb => ?_) <;> (try simp only [lE] at hb))); all_goals (conv => whnf)
      all_goals (refine Q.r6 (h := ?_); repeat' (first | exact Q.r0 | refine Q.r1 ?_ ?_ | refine Q.r2 ?_ | exact Q.r7 | refine Q.r3 ?_ | refine Q.r4 ?_ | refine Q.r5 ?_))
    · rw [if_neg hy]
      generalize tkR s q t q.bal = u at *
      cases hT : tkB s q t q.bal with
      | false =>
        rw [hT] at j10
        refine ⟨?_⟩; refine Spec.ofR (h := fun F w0 => ?_)
        repeat' ((conv => whnf); first | refine Q.E ?_ | (refine Stk.both (fun hb => ?_) (fun hb => ?_) <;> (try simp only [lE] at hb))); all_goals (conv => whnf)
        all_goals (refine Q.r6 (h := ?_); repeat' (first | exact Q.r0 | refine Q.r1 ?_ ?_ | refine Q.r2 ?_ | exact Q.r7 | refine Q.r3 ?_ | refine Q.r4 ?_ | refine Q.r5 ?_))
      | true =>
        rw [hT] at j10
        have hy2 : y ≠ 0 := fun h => hy ⟨h, hT⟩
        refine ⟨?_⟩; refine Spec.ofR (h := fun F w0 => ?_)
        repeat' ((conv => whnf); first | refine Q.E ?_ | (refine Stk.both (fun hb => ?_) (fun hb => ?_) <;> (try simp only [lE] at hb))); all_goals (conv => whnf)
        all_goals (refine Q.r6 (h := ?_); repeat' (first | exact Q.r0 | refine Q.r1 ?_ ?_ | refine Q.r2 ?_ | exact Q.r7 | refine Q.r3 ?_ | refine Q.r4 ?_ | refine Q.r5 ?_))
end Go.Proofs.YtbjepdfnmbdplaaGreat
end
section
namespace Go.Proofs.YtbjepdfnmbdplaaGreat
open Go.RowKit
set_option linter.unusedSimpArgs false
set_option linter.unusedVariables false
set_option maxRecDepth 100000
set_option maxHeartbeats 4000000
theorem tak_rsd {r : Rpl} {m : Msg} {q : Ent} (hq : q.bal = m.bal) : rsdT r m q = if (takP (rputR r q) q).2.2 = true then ((takP (rputR r q) q).1, (takP (rputR r q) q).2.1) else (r, []) := by
  have st := rput_stays r q
  unfold rsdT takP
  rw [st.n, st.f, st.self, hq]
  split
  · split
    · rfl
    · rfl
  · rfl
instance rescued28_spec (r : Rpl) (m : Msg) : HasSpec Tryz.prog 38 [.agg r.cs, .agg m.cs] (.tup [.agg (onRsd r m).1.cs, PV.outs (onRsd r m).2]) := by
  have jh := hears26_spec r m
  have jo := owner_spec m.bal r.n
  have j1 := tablefind_spec r.entries m.id
  by_cases hk : m.kind = 7
  · cases hh : hearsB r m with
    | false =>
      rw [hh] at jh
      rw [rsd_no (fun h => by rw [hh] at h; cases h.2.1)]
      refine ⟨?_⟩; refine Spec.ofR (h := fun F w0 => ?_)
      repeat' ((conv => whnf); first | refine Q.E ?_ | (refine Stk.both (fun hb => ?_) (fun hb => ?_) <;> (try simp only [lE] at hb))); all_goals (conv => whnf)
      all_goals (refine Q.r6 (h := ?_); repeat' (first | exact Q.r0 | refine Q.r1 ?_ ?_ | refine Q.r2 ?_ | exact Q.r7 | refine Q.r3 ?_ | refine Q.r4 ?_ | refine Q.r5 ?_))
    | true =>
      rw [hh] at jh
      have hr := (hears_rep hh).1
      have jf := first_spec m.bal r.n
      rw [first_hears hh (.inr hk)] at jf
      by_cases hb : r.n < m.bal
      · rw [decide_eq_false (by omega)] at jf
        by_cases ho : ownI m.bal r.n = r.self
        · cases hf : findB r.entries m.id with
          | false =>
            rw [hf] at j1
            rw [rsd_no (fun h => by rw [hf] at h; cases h.2.2.2.2)]
            refine ⟨?_⟩; refine Spec.ofR (h := fun F w0 => ?_)
            repeat' ((conv => whnf); first | refine Q.E ?_ | (refine Stk.both (fun hb => ?_) (fun hb => ?_) <;> (try simp only [lE] at hb))); all_goals (conv => whnf)
            all_goals (refine Q.r6 (h := ?_); repeat' (first | exact Q.r0 | refine Q.r1 ?_ ?_ | refine Q.r2 ?_ | exact Q.r7 | refine Q.r3 ?_ | refine Q.r4 ?_ | refine Q.r5 ?_))
          | true =>
            rw [hf] at j1
            rw [rsd_in ⟨hk, hh, hb, ho, hf⟩ rfl]
            have he := find_ent hr hf
            generalize findT r.entries m.id = e at *
            have hph := ent_facts he
            by_cases hc : openB e.phase = true ∧ e.bal = m.bal ∧ e.abal ≠ m.bal
            · obtain ⟨c1, c2, c3⟩ := hc
              have c1' := openB_iff.1 c1
              have j5 := entryack_spec e (rsdA m)
              have j6 := put_spec r (ackR e (rsdA m))
              have hl := ack_len e (rsdA m) he
              cases hA : ackB e (rsdA m) with
              | false =>
                rw [hA] at j5
                rw [if_neg (fun h => by cases h.2.2.2.1)]
                generalize ackR e (rsdA m) = q at *
                generalize rputR r q = s at *
                generalize rputX r q = x at *
                refine ⟨?_⟩; refine Spec.ofR (h := fun F w0 => ?_)
                repeat' ((conv => whnf); first | refine Q.E ?_ | (refine Stk.both (fun hb => ?_) (fun hb => ?_) <;> (try simp only [lE] at hb))); all_goals (conv => whnf)
                refine Stk.by j5 (h := ?_)
                repeat' ((conv => whnf); first | refine Q.E ?_ | (refine Stk.both (fun hb => ?_) (fun hb => ?_) <;> (try simp only [lE] at hb))); all_goals (conv => whnf)
                all_goals (refine Q.r6 (h := ?_); repeat' (first | exact Q.r0 | refine Q.r1 ?_ ?_ | refine Q.r2 ?_ | exact Q.r7 | refine Q.r3 ?_ | refine Q.r4 ?_ | refine Q.r5 ?_))
              | true =>
                rw [hA] at j5
                by_cases hQ : rputX r (ackR e (rsdA m)) = 0
                · rw [if_pos ⟨c1, c2, c3, rfl, hQ⟩]
                  rw [hQ] at j6
                  have hq : (ackR e (rsdA m)).bal = m.bal := by rw [ackR_yes hA]; exact c2
                  generalize ackR e (rsdA m) = q at *
                  rw [tak_rsd hq]
                  have j7 := taken28_spec (rputR r q) q hl
                  generalize takP (rputR r q) q = w at *
                  generalize rputR r q = s at *
                  obtain ⟨u, o, b⟩ := w
                  dsimp only at j7 ⊢
                  cases b with
                  | false =>
                    rw [if_neg (by simp)]
                    refine ⟨?_⟩; refine Spec.ofR (h := fun F w0 => ?_)
                    repeat' ((conv => whnf); first | refine Q.E ?_ | (refine Stk.both (fun hb => ?_) (fun hb => ?_) <;> (try simp only [lE] at hb))); all_goals (conv => whnf)
                    refine Stk.by j5 (h := ?_)
                    repeat' ((conv => whnf); first | refine Q.E ?_ | (refine Stk.both (fun hb => ?_) (fun hb => ?_) <;> (try simp only [lE] at hb))); all_goals (conv => whnf)
                    all_goals (refine Q.r6 (h := ?_); repeat' (first | exact Q.r0 | refine Q.r1 ?_ ?_ | refine Q.r2 ?_ | exact Q.r7 | refine Q.r3 ?_ | refine Q.r4 ?_ | refine Q.r5 ?_))
                  | true =>
                    rw [if_pos rfl]
                    refine ⟨?_⟩; refine Spec.ofR (h := fun F w0 => ?_)
                    repeat' ((conv => whnf); first | refine Q.E ?_ | (refine Stk.both (fun hb => ?_) (fun hb => ?_) <;> (try simp only [lE] at hb))); all_goals (conv => whnf)
                    refine Stk.by j5 (h := ?_)
                    repeat' ((conv => whnf); first | refine Q.E ?_ | (refine Stk.both (fun hb => ?_) (fun hb => ?_) <;> (try simp only [lE] at hb))); all_goals (conv => whnf)
                    all_goals (refine Q.r6 (h := ?_); repeat' (first | exact Q.r0 | refine Q.r1 ?_ ?_ | refine Q.r2 ?_ | exact Q.r7 | refine Q.r3 ?_ | refine Q.r4 ?_ | refine Q.r5 ?_))
                · rw [if_neg (fun h => hQ h.2.2.2.2)]
                  generalize ackR e (rsdA m) = q at *
                  generalize rputR r q = s at *
                  generalize rputX r q = x at *
                  refine ⟨?_⟩; refine Spec.ofR (h := fun F w0 => ?_)
                  repeat' ((conv => whnf); first | refine Q.E ?_ | (refine Stk.both (fun hb => ?_) (fun hb => ?_) <;> (try simp only [lE] at hb))); all_goals (conv => whnf)
                  refine Stk.by j5 (h := ?_)
                  repeat' ((conv => whnf); first | refine Q.E ?_ | (refine Stk.both (fun hb => ?_) (fun hb => ?_) <;> (try simp only [lE] at hb))); all_goals (conv => whnf)
                  all_goals (refine Q.r6 (h := ?_); repeat' (first | exact Q.r0 | refine Q.r1 ?_ ?_ | refine Q.r2 ?_ | exact Q.r7 | refine Q.r3 ?_ | refine Q.r4 ?_ | refine Q.r5 ?_))
            · rw [if_neg (fun h => hc ⟨h.1, h.2.1, h.2.2.1⟩)]
              have hc2 : ¬ (1 ≤ e.phase ∧ e.phase ≤ 4 ∧ e.bal = m.bal ∧ e.abal ≠ m.bal) := fun h => hc ⟨openB_iff.2 ⟨h.1, h.2.1⟩, h.2.2⟩
              refine ⟨?_⟩; refine Spec.ofR (h := fun F w0 => ?_)
              repeat' ((conv => whnf); first | refine Q.E ?_ | (refine Stk.both (fun hb => ?_) (fun hb => ?_) <;> (try simp only [lE] at hb))); all_goals (conv => whnf)
              all_goals first | (exfalso; omega) | (refine Q.r6 (h := ?_); repeat' (first | exact Q.r0 | refine Q.r1 ?_ ?_ | refine Q.r2 ?_ | exact Q.r7 | refine Q.r3 ?_ | refine Q.r4 ?_ | refine Q.r5 ?_))
        · rw [rsd_no (fun h => ho h.2.2.2.1)]
          refine ⟨?_⟩; refine Spec.ofR (h := fun F w0 => ?_)
          repeat' ((conv => whnf); first | refine Q.E ?_ | (refine Stk.both (fun hb => ?_) (fun hb => ?_) <;> (try simp only [lE] at hb))); all_goals (conv => whnf)
          all_goals (refine Q.r6 (h := ?_); repeat' (first | exact Q.r0 | refine Q.r1 ?_ ?_ | refine Q.r2 ?_ | exact Q.r7 | refine Q.r3 ?_ | refine Q.r4 ?_ | refine Q.r5 ?_))
      · rw [rsd_no (fun h => hb h.2.2.1)]
        rw [decide_eq_true (by omega)] at jf
        refine ⟨?_⟩; refine Spec.ofR (h := fun F w0 => ?_)
        repeat' ((conv => whnf); first | refine Q.E ?_ | (refine Stk.both (fun hb => ?_) (fun hb => ?_) <;> (try simp only [lE] at hb))); all_goals (conv => whnf)
        all_goals (refine Q.r6 (h := ?_); repeat' (first | exact Q.r0 | refine Q.r1 ?_ ?_ | refine Q.r2 ?_ | exact Q.r7 | refine Q.r3 ?_ | refine Q.r4 ?_ | refine Q.r5 ?_))
  · rw [rsd_no (fun h => hk h.1)]
    refine ⟨?_⟩; refine Spec.ofR (h := fun F w0 => ?_)
    repeat' ((conv => whnf); first | refine Q.E ?_ | (refine Stk.both (fun hb => ?_) (fun hb => ?_) <;> (try simp only [lE] at hb))); all_goals (conv => whnf)
    all_goals (refine Q.r6 (h := ?_); repeat' (first | exact Q.r0 | refine Q.r1 ?_ ?_ | refine Q.r2 ?_ | exact Q.r7 | refine Q.r3 ?_ | refine Q.r4 ?_ | refine Q.r5 ?_))
end Go.Proofs.YtbjepdfnmbdplaaGreat
end
section
namespace Go.Proofs.YtbjepdfnmbdplaaGreat
open Go.RowKit
set_option linter.unusedSimpArgs false
set_option linter.unusedVariables false
set_option maxRecDepth 100000
set_option maxHeartbeats 4000000
theorem Rng.self (r : Rng) : (!tst ([r.lo, r.hi] = [r.lo, r.hi])) = false := by rw [tst_true.2 rfl]; rfl
theorem dec_refl {α : Type} [DecidableEq α] (x : α) : decide (x = x) = true := decide_eq_true rfl
instance rngself_spec (l : List Rng) : HasSpec Tryz.prog 143 [PV.rngs l, PV.rngs l] (.v (.bool true)) := by
  refine ⟨Spec.bound 0 rfl fun hl => ?_⟩; rw [List.length_map] at hl; refine Spec.ofR (h := fun F w0 => ?_)
  repeat' ((conv => whnf); first | refine Q.E ?_ | (refine Stk.both (fun hb => ?_) (fun hb => ?_) <;> (try simp only [lE] at hb))); all_goals (conv => whnf)
  refine Stk.loop (ι := Nat) (fun i => [(0, PV.rngs l), (1, PV.rngs l), (5, PV.int (i : Nat))]) (fun _ => []) (fun i => i ≤ l.length) (fun i => l.length - i) 0 (Nat.zero_le _) (Weak.gc ⟨rfl, rfl, rfl, trivial⟩ trivial rfl rfl rfl) (fun i hi => ?_)
  by_cases hlt : i < l.length
  · have hz := Rng.self l[i]
    repeat' ((conv => whnf); first | refine Q.E ?_ | (refine Stk.both (fun hb => ?_) (fun hb => ?_) <;> (try simp only [lE] at hb))); all_goals (conv => whnf)
    exact ⟨i + 1, by omega, by omega, Weak.gc ⟨rfl, rfl, rfl, trivial⟩ trivial rfl rfl rfl⟩
  · repeat' ((conv => whnf); first | refine Q.E ?_ | (refine Stk.both (fun hb => ?_) (fun hb => ?_) <;> (try simp only [lE] at hb))); all_goals (conv => whnf)
    (refine Q.r6 (h := ?_); repeat' (first | exact Q.r0 | refine Q.r1 ?_ ?_ | refine Q.r2 ?_ | exact Q.r7 | refine Q.r3 ?_ | refine Q.r4 ?_ | refine Q.r5 ?_))
instance knoself_spec (k : Kno) : HasSpec Tryz.prog 142 [.agg k.cs, .agg k.cs] (.v (.bool true)) := by
  have j1 := sameatts_spec k.atts k.atts
  rw [dec_refl] at j1
  refine ⟨?_⟩; refine Spec.ofR (h := fun F w0 => ?_)
  repeat' ((conv => whnf); first | refine Q.E ?_ | (refine Stk.both (fun hb => ?_) (fun hb => ?_) <;> (try simp only [lE] at hb))); all_goals (conv => whnf)
  (refine Q.r6 (h := ?_); repeat' (first | exact Q.r0 | refine Q.r1 ?_ ?_ | refine Q.r2 ?_ | exact Q.r7 | refine Q.r3 ?_ | refine Q.r4 ?_ | refine Q.r5 ?_))
instance entself_spec (l : List Ent) : HasSpec Tryz.prog 63 [PV.ents l, PV.ents l] (.v (.bool true)) := by
  refine ⟨Spec.bound 0 rfl fun hl => ?_⟩; rw [List.length_map] at hl; refine Spec.ofR (h := fun F w0 => ?_)
  repeat' ((conv => whnf); first | refine Q.E ?_ | (refine Stk.both (fun hb => ?_) (fun hb => ?_) <;> (try simp only [lE] at hb))); all_goals (conv => whnf)
  refine Stk.loop (ι := Nat) (fun i => [(0, PV.ents l), (1, PV.ents l), (5, PV.int (i : Nat))]) (fun _ => []) (fun i => i ≤ l.length) (fun i => l.length - i) 0 (Nat.zero_le _) (Weak.gc ⟨rfl, rfl, rfl, trivial⟩ trivial rfl rfl rfl) (fun i hi => ?_)
  by_cases hlt : i < l.length
  · have j1 := refentsame_spec l[i] l[i]
    rw [Ent.same_iff.2 rfl] at j1
    repeat' ((conv => whnf); first | refine Q.E ?_ | (refine Stk.both (fun hb => ?_) (fun hb => ?_) <;> (try simp only [lE] at hb))); all_goals (conv => whnf)
    exact ⟨i + 1, by omega, by omega, Weak.gc ⟨rfl, rfl, rfl, trivial⟩ trivial rfl rfl rfl⟩
  · repeat' ((conv => whnf); first | refine Q.E ?_ | (refine Stk.both (fun hb => ?_) (fun hb => ?_) <;> (try simp only [lE] at hb))); all_goals (conv => whnf)
    (refine Q.r6 (h := ?_); repeat' (first | exact Q.r0 | refine Q.r1 ?_ ?_ | refine Q.r2 ?_ | exact Q.r7 | refine Q.r3 ?_ | refine Q.r4 ?_ | refine Q.r5 ?_))
instance knosself_spec (l : List Kno) : HasSpec Tryz.prog 65 [PV.knos l, PV.knos l] (.v (.bool true)) := by
  refine ⟨Spec.bound 0 rfl fun hl => ?_⟩; rw [List.length_map] at hl; refine Spec.ofR (h := fun F w0 => ?_)
  repeat' ((conv => whnf); first | refine Q.E ?_ | (refine Stk.both (fun hb => ?_) (fun hb => ?_) <;> (try simp only [lE] at hb))); all_goals (conv => whnf)
  refine Stk.loop (ι := Nat) (fun i => [(0, PV.knos l), (1, PV.knos l), (5, PV.int (i : Nat))]) (fun _ => []) (fun i => i ≤ l.length) (fun i => l.length - i) 0 (Nat.zero_le _) (Weak.gc ⟨rfl, rfl, rfl, trivial⟩ trivial rfl rfl rfl) (fun i hi => ?_)
  by_cases hlt : i < l.length
  · have j1 := knoself_spec l[i]
    repeat' ((conv => whnf); first | refine Q.E ?_ | (refine Stk.both (fun hb => ?_) (fun hb => ?_) <;> (try simp only [lE] at hb))); all_goals (conv => whnf)
    exact ⟨i + 1, by omega, by omega, Weak.gc ⟨rfl, rfl, rfl, trivial⟩ trivial rfl rfl rfl⟩
  · repeat' ((conv => whnf); first | refine Q.E ?_ | (refine Stk.both (fun hb => ?_) (fun hb => ?_) <;> (try simp only [lE] at hb))); all_goals (conv => whnf)
    (refine Q.r6 (h := ?_); repeat' (first | exact Q.r0 | refine Q.r1 ?_ ?_ | refine Q.r2 ?_ | exact Q.r7 | refine Q.r3 ?_ | refine Q.r4 ?_ | refine Q.r5 ?_))
instance donself_spec (l : List (List Rng)) : HasSpec Tryz.prog 68 [PV.dons l, PV.dons l] (.v (.bool true)) := by
  refine ⟨Spec.bound 0 rfl fun hl => ?_⟩; rw [List.length_map] at hl; refine Spec.ofR (h := fun F w0 => ?_)
  repeat' ((conv => whnf); first | refine Q.E ?_ | (refine Stk.both (fun hb => ?_) (fun hb => ?_) <;> (try simp only [lE] at hb))); all_goals (conv => whnf)
  refine Stk.loop (ι := Nat) (fun i => [(0, PV.dons l), (1, PV.dons l), (5, PV.int (i : Nat))]) (fun _ => []) (fun i => i ≤ l.length) (fun i => l.length - i) 0 (Nat.zero_le _) (Weak.gc ⟨rfl, rfl, rfl, trivial⟩ trivial rfl rfl rfl) (fun i hi => ?_)
  by_cases hlt : i < l.length
  · have j1 := rngself_spec l[i]
    repeat' ((conv => whnf); first | refine Q.E ?_ | (refine Stk.both (fun hb => ?_) (fun hb => ?_) <;> (try simp only [lE] at hb))); all_goals (conv => whnf)
    exact ⟨i + 1, by omega, by omega, Weak.gc ⟨rfl, rfl, rfl, trivial⟩ trivial rfl rfl rfl⟩
  · repeat' ((conv => whnf); first | refine Q.E ?_ | (refine Stk.both (fun hb => ?_) (fun hb => ?_) <;> (try simp only [lE] at hb))); all_goals (conv => whnf)
    (refine Q.r6 (h := ?_); repeat' (first | exact Q.r0 | refine Q.r1 ?_ ?_ | refine Q.r2 ?_ | exact Q.r7 | refine Q.r3 ?_ | refine Q.r4 ?_ | refine Q.r5 ?_))
instance outself_spec (l : List Out) : HasSpec Tryz.prog 17 [PV.outs l, PV.outs l] (.v (.bool true)) := by
  refine ⟨Spec.bound 0 rfl fun hl => ?_⟩; rw [List.length_map] at hl; refine Spec.ofR (h := fun F w0 => ?_)
  repeat' ((conv => whnf); first | refine Q.E ?_ | (refine Stk.both (fun hb => ?_) (fun hb => ?_) <;> (try simp only [lE] at hb))); all_goals (conv => whnf)
  refine Stk.loop (ι := Nat) (fun i => [(0, PV.outs l), (1, PV.outs l), (5, PV.int (i : Nat))]) (fun _ => []) (fun i => i ≤ l.length) (fun i => l.length - i) 0 (Nat.zero_le _) (Weak.gc ⟨rfl, rfl, rfl, trivial⟩ trivial rfl rfl rfl) (fun i hi => ?_)
  by_cases hlt : i < l.length
  · have j1 := refmsgsame_spec l[i].m l[i].m
    rw [dec_refl] at j1
    repeat' ((conv => whnf); first | refine Q.E ?_ | (refine Stk.both (fun hb => ?_) (fun hb => ?_) <;> (try simp only [lE] at hb))); all_goals (conv => whnf)
    refine Stk.by j1 (h := ?_)
    repeat' ((conv => whnf); first | refine Q.E ?_ | (refine Stk.both (fun hb => ?_) (fun hb => ?_) <;> (try simp only [lE] at hb))); all_goals (conv => whnf)
    exact ⟨i + 1, by omega, by omega, Weak.gc ⟨rfl, rfl, rfl, trivial⟩ trivial rfl rfl rfl⟩
  · repeat' ((conv => whnf); first | refine Q.E ?_ | (refine Stk.both (fun hb => ?_) (fun hb => ?_) <;> (try simp only [lE] at hb))); all_goals (conv => whnf)
    (refine Q.r6 (h := ?_); repeat' (first | exact Q.r0 | refine Q.r1 ?_ ?_ | refine Q.r2 ?_ | exact Q.r7 | refine Q.r3 ?_ | refine Q.r4 ?_ | refine Q.r5 ?_))
instance repself_spec (r : Rpl) : HasSpec Tryz.prog 16 [.agg r.cs, .agg r.cs] (.v (.bool true)) := by
  have j1 := sameatts_spec r.own r.own
  have j2 := refsame18_spec r.marks r.marks
  have j3 := refsame_spec r.fronts r.fronts
  rw [dec_refl] at j1 j2 j3
  have hz : tst ([r.last.t, r.last.id] = [r.last.t, r.last.id]) = true := tst_true.2 rfl
  refine ⟨?_⟩; refine Spec.ofR (h := fun F w0 => ?_)
  repeat' ((conv => whnf); first | refine Q.E ?_ | (refine Stk.both (fun hb => ?_) (fun hb => ?_) <;> (try simp only [lE] at hb))); all_goals (conv => whnf)
  (refine Q.r6 (h := ?_); repeat' (first | exact Q.r0 | refine Q.r1 ?_ ?_ | refine Q.r2 ?_ | exact Q.r7 | refine Q.r3 ?_ | refine Q.r4 ?_ | refine Q.r5 ?_))
def fewE (e : Ent) : Bool := decide (e.acks.length ≤ 100) && decide (e.payload.size ≤ 1000)
instance fewent_spec (e : Ent) : HasSpec Tryz.prog 12 [.agg e.cs] (.v (.bool (fewE e))) := by
  unfold fewE
  by_cases h : e.acks.length ≤ 100
  · rw [decide_eq_true h]
    refine ⟨?_⟩; refine Spec.ofR (h := fun F w0 => ?_)
    repeat' ((conv => whnf); first | refine Q.E ?_ | (refine Stk.both (fun hb => ?_) (fun hb => ?_) <;> (try simp only [lE] at hb))); all_goals (conv => whnf)
    (refine Q.r6 (h := ?_); repeat' (first | exact Q.r0 | refine Q.r1 ?_ ?_ | refine Q.r2 ?_ | exact Q.r7 | refine Q.r3 ?_ | refine Q.r4 ?_ | refine Q.r5 ?_))
    rw [tst_eq, Bool.true_and, decide_eq_decide]
    omega
  · rw [decide_eq_false h]
    refine ⟨?_⟩; refine Spec.ofR (h := fun F w0 => ?_)
    repeat' ((conv => whnf); first | refine Q.E ?_ | (refine Stk.both (fun hb => ?_) (fun hb => ?_) <;> (try simp only [lE] at hb))); all_goals (conv => whnf)
    (refine Q.r6 (h := ?_); repeat' (first | exact Q.r0 | refine Q.r1 ?_ ?_ | refine Q.r2 ?_ | exact Q.r7 | refine Q.r3 ?_ | refine Q.r4 ?_ | refine Q.r5 ?_))
def fewM (m : Msg) : Bool := decide (m.payload.size ≤ 1000) && decide (m.atts.length ≤ 300) && decide (m.marks.length ≤ 100)
instance fewmsg_spec (m : Msg) : HasSpec Tryz.prog 11 [.agg m.cs] (.v (.bool (fewM m))) := by
  unfold fewM
  by_cases h1 : m.payload.size ≤ 1000
  · by_cases h2 : m.atts.length ≤ 300
    · by_cases h3 : m.marks.length ≤ 100
      · rw [decide_eq_true h1, decide_eq_true h2, decide_eq_true h3]
        refine ⟨?_⟩; refine Spec.ofR (h := fun F w0 => ?_)
        repeat' ((conv => whnf); first | refine Q.E ?_ | (refine Stk.both (fun hb => ?_) (fun hb => ?_) <;> (try simp only [lE] at hb))); all_goals (conv => whnf)
        (refine Q.r6 (h := ?_); repeat' (first | exact Q.r0 | refine Q.r1 ?_ ?_ | refine Q.r2 ?_ | exact Q.r7 | refine Q.r3 ?_ | refine Q.r4 ?_ | refine Q.r5 ?_))
        all_goals (first | rfl | exact tst_true.2 (by omega) | exact tst_false.2 (by omega) | (simp [tst_eq]; done) | (simp only [Bool.not_true, Bool.not_false, Bool.and_true, Bool.true_and, Bool.and_false, Bool.false_and]; first | done | exact tst_true.2 (by omega) | exact tst_false.2 (by omega) | (rw [tst_true.2 (by omega)]; done) | (rw [tst_false.2 (by omega)]; done)))
      · rw [decide_eq_true h1, decide_eq_true h2, decide_eq_false h3]
        refine ⟨?_⟩; refine Spec.ofR (h := fun F w0 => ?_)
        repeat' ((conv => whnf); first | refine Q.E ?_ | (refine Stk.both (fun hb => ?_) (fun hb => ?_) <;> (try simp only [lE] at hb))); all_goals (conv => whnf)
        (refine Q.r6 (h := ?_); repeat' (first | exact Q.r0 | refine Q.r1 ?_ ?_ | refine Q.r2 ?_ | exact Q.r7 | refine Q.r3 ?_ | refine Q.r4 ?_ | refine Q.r5 ?_))
        all_goals (first | rfl | exact tst_true.2 (by omega) | exact tst_false.2 (by omega) | (simp [tst_eq]; done) | (simp only [Bool.not_true, Bool.not_false, Bool.and_true, Bool.true_and, Bool.and_false, Bool.false_and]; first | done | exact tst_true.2 (by omega) | exact tst_false.2 (by omega) | (rw [tst_true.2 (by omega)]; done) | (rw [tst_false.2 (by omega)]; done)))
    · rw [decide_eq_true h1, decide_eq_false h2]
      refine ⟨?_⟩; refine Spec.ofR (h := fun F w0 => ?_)
      repeat' ((conv => whnf); first | refine Q.E ?_ | (refine Stk.both (fun hb => ?_) (fun hb => ?_) <;> (try simp only [lE] at hb))); all_goals (conv => whnf)
      (refine Q.r6 (h := ?_); repeat' (first | exact Q.r0 | refine Q.r1 ?_ ?_ | refine Q.r2 ?_ | exact Q.r7 | refine Q.r3 ?_ | refine Q.r4 ?_ | refine Q.r5 ?_))
      all_goals (first | rfl | exact tst_true.2 (by omega) | exact tst_false.2 (by omega) | (simp [tst_eq]; done) | (simp only [Bool.not_true, Bool.not_false, Bool.and_true, Bool.true_and, Bool.and_false, Bool.false_and]; first | done | exact tst_true.2 (by omega) | exact tst_false.2 (by omega) | (rw [tst_true.2 (by omega)]; done) | (rw [tst_false.2 (by omega)]; done)))
  · rw [decide_eq_false h1]
    refine ⟨?_⟩; refine Spec.ofR (h := fun F w0 => ?_)
    repeat' ((conv => whnf); first | refine Q.E ?_ | (refine Stk.both (fun hb => ?_) (fun hb => ?_) <;> (try simp only [lE] at hb))); all_goals (conv => whnf)
    (refine Q.r6 (h := ?_); repeat' (first | exact Q.r0 | refine Q.r1 ?_ ?_ | refine Q.r2 ?_ | exact Q.r7 | refine Q.r3 ?_ | refine Q.r4 ?_ | refine Q.r5 ?_))
    all_goals (first | rfl | exact tst_true.2 (by omega) | exact tst_false.2 (by omega) | (simp [tst_eq]; done) | (simp only [Bool.not_true, Bool.not_false, Bool.and_true, Bool.true_and, Bool.and_false, Bool.false_and]; first | done | exact tst_true.2 (by omega) | exact tst_false.2 (by omega) | (rw [tst_true.2 (by omega)]; done) | (rw [tst_false.2 (by omega)]; done)))
def fewK (k : Kno) : Bool := decide (k.rs.length ≤ 100) && decide (k.atts.length ≤ 100)
instance fewkno_spec (k : Kno) : HasSpec Tryz.prog 45 [.agg k.cs] (.v (.bool (fewK k))) := by
  unfold fewK
  by_cases h : k.rs.length ≤ 100
  · rw [decide_eq_true h]
    refine ⟨?_⟩; refine Spec.ofR (h := fun F w0 => ?_)
    repeat' ((conv => whnf); first | refine Q.E ?_ | (refine Stk.both (fun hb => ?_) (fun hb => ?_) <;> (try simp only [lE] at hb))); all_goals (conv => whnf)
    (refine Q.r6 (h := ?_); repeat' (first | exact Q.r0 | refine Q.r1 ?_ ?_ | refine Q.r2 ?_ | exact Q.r7 | refine Q.r3 ?_ | refine Q.r4 ?_ | refine Q.r5 ?_))
    rw [tst_eq, Bool.true_and, decide_eq_decide]
    omega
  · rw [decide_eq_false h]
    refine ⟨?_⟩; refine Spec.ofR (h := fun F w0 => ?_)
    repeat' ((conv => whnf); first | refine Q.E ?_ | (refine Stk.both (fun hb => ?_) (fun hb => ?_) <;> (try simp only [lE] at hb))); all_goals (conv => whnf)
    (refine Q.r6 (h := ?_); repeat' (first | exact Q.r0 | refine Q.r1 ?_ ?_ | refine Q.r2 ?_ | exact Q.r7 | refine Q.r3 ?_ | refine Q.r4 ?_ | refine Q.r5 ?_))
def fewL (l : List Ent) : Bool := decide (l.length ≤ 60) && l.all fewE
theorem all_bad {α : Type} {p : α → Bool} {l : List α} {i : Nat} (h : i < l.length) (hq : p l[i] = false) : l.all p = false := List.all_eq_false.2 ⟨l[i], List.getElem_mem h, by rw [hq]; simp⟩
theorem all_good {α : Type} {p : α → Bool} {l : List α} {i : Nat} (h : ¬ i < l.length) (hq : ∀ x ∈ l.take i, (!p x) = false) : l.all p = true := List.all_eq_true.2 fun x hx => by
  have := take_all (p := fun x => !p x) (by omega) hq x hx
  simpa using this
instance fewents_spec (l : List Ent) : HasSpec Tryz.prog 43 [PV.ents l] (.v (.bool (fewL l))) := by
  unfold fewL
  by_cases h60 : l.length ≤ 60
  · rw [decide_eq_true h60, Bool.true_and]
    refine ⟨?_⟩; refine Spec.ofR (h := fun F w0 => ?_)
    repeat' ((conv => whnf); first | refine Q.E ?_ | (refine Stk.both (fun hb => ?_) (fun hb => ?_) <;> (try simp only [lE] at hb))); all_goals (conv => whnf)
    refine Stk.loop (ι := Nat) (fun i => [(0, PV.ents l), (3, PV.int (i : Nat))]) (fun _ => []) (fun i => i ≤ l.length ∧ ∀ x ∈ l.take i, (!fewE x) = false) (fun i => l.length - i) 0 ⟨Nat.zero_le _, by simp⟩ (Weak.gc ⟨rfl, rfl, trivial⟩ trivial rfl rfl rfl) (fun i hi => ?_)
    obtain ⟨hi, hno⟩ := hi
    by_cases hlt : i < l.length
    · have j1 := fewent_spec l[i]
      cases hq : fewE l[i] with
      | false =>
        rw [hq] at j1
        rw [all_bad hlt hq]
        repeat' ((conv => whnf); first | refine Q.E ?_ | (refine Stk.both (fun hb => ?_) (fun hb => ?_) <;> (try simp only [lE] at hb))); all_goals (conv => whnf)
        (refine Q.r6 (h := ?_); repeat' (first | exact Q.r0 | refine Q.r1 ?_ ?_ | refine Q.r2 ?_ | exact Q.r7 | refine Q.r3 ?_ | refine Q.r4 ?_ | refine Q.r5 ?_))
      | true =>
        rw [hq] at j1
        repeat' ((conv => whnf); first | refine Q.E ?_ | (refine Stk.both (fun hb => ?_) (fun hb => ?_) <;> (try simp only [lE] at hb))); all_goals (conv => whnf)
        exact ⟨i + 1, ⟨by omega, take_no (p := fun x => !fewE x) hlt hno (by show (!fewE l[i]) = false; rw [hq]; rfl)⟩, by omega, Weak.gc ⟨rfl, rfl, trivial⟩ trivial rfl rfl rfl⟩
    · rw [all_good hlt hno]
      repeat' ((conv => whnf); first | refine Q.E ?_ | (refine Stk.both (fun hb => ?_) (fun hb => ?_) <;> (try simp only [lE] at hb))); all_goals (conv => whnf)
      (refine Q.r6 (h := ?_); repeat' (first | exact Q.r0 | refine Q.r1 ?_ ?_ | refine Q.r2 ?_ | exact Q.r7 | refine Q.r3 ?_ | refine Q.r4 ?_ | refine Q.r5 ?_))
  · rw [decide_eq_false h60]
    refine ⟨?_⟩; refine Spec.ofR (h := fun F w0 => ?_)
    repeat' ((conv => whnf); first | refine Q.E ?_ | (refine Stk.both (fun hb => ?_) (fun hb => ?_) <;> (try simp only [lE] at hb))); all_goals (conv => whnf)
    (refine Q.r6 (h := ?_); repeat' (first | exact Q.r0 | refine Q.r1 ?_ ?_ | refine Q.r2 ?_ | exact Q.r7 | refine Q.r3 ?_ | refine Q.r4 ?_ | refine Q.r5 ?_))
def fewR1 (r : Rpl) : Bool := fewL r.entries && decide (r.own.length ≤ 100) && decide (r.known.length ≤ 20) && fewT r.marks && decide (r.fronts.length ≤ 20) && decide (r.done.length ≤ 20)
def fewR (r : Rpl) : Bool := fewR1 r && r.known.all fewK && (r.done.all fun l => decide (l.length ≤ 100)) && decide (r.items.length ≤ 60) && decide (r.sess.length ≤ 60)
theorem few_no1 {r : Rpl} (h : fewR1 r = false) : fewR r = false := by unfold fewR; rw [h]; rfl
theorem few_parts {r : Rpl} (h : fewR1 r = true) : fewL r.entries = true ∧ r.own.length ≤ 100 ∧ r.known.length ≤ 20 ∧ fewT r.marks = true ∧ r.fronts.length ≤ 20 ∧ r.done.length ≤ 20 := by
  unfold fewR1 at h
  simp only [Bool.and_eq_true, decide_eq_true_eq] at h
  exact ⟨h.1.1.1.1.1, h.1.1.1.1.2, h.1.1.1.2, h.1.1.2, h.1.2, h.2⟩
theorem few_nots {r : Rpl} (h : fewR1 r = false) : ¬ (fewL r.entries = true ∧ r.own.length ≤ 100 ∧ r.known.length ≤ 20 ∧ fewT r.marks = true ∧ r.fronts.length ≤ 20 ∧ r.done.length ≤ 20) := by
  rintro ⟨h1, h2, h3, h4, h5, h6⟩
  unfold fewR1 at h
  rw [h1, decide_eq_true h2, decide_eq_true h3, h4, decide_eq_true h5, decide_eq_true h6] at h
  cases h
instance fewrep_spec (r : Rpl) : HasSpec Tryz.prog 10 [.agg r.cs] (.v (.bool (fewR r))) := by
  have je := fewents_spec r.entries
  have jt := few18_spec r.marks
  cases h1 : fewR1 r with
  | false =>
    rw [few_no1 h1]
    have hn := few_nots h1
    cases he : fewL r.entries with
    | false =>
      rw [he] at je
      refine ⟨?_⟩; refine Spec.ofR (h := fun F w0 => ?_)
      repeat' ((conv => whnf); first | refine Q.E ?_ | (refine Stk.both (fun hb => ?_) (fun hb => ?_) <;> (try simp only [lE] at hb))); all_goals (conv => whnf)
      (refine Q.r6 (h := ?_); repeat' (first | exact Q.r0 | refine Q.r1 ?_ ?_ | refine Q.r2 ?_ | exact Q.r7 | refine Q.r3 ?_ | refine Q.r4 ?_ | refine Q.r5 ?_))
    | true =>
      rw [he] at je hn
      cases hm : fewT r.marks with
      | false =>
        rw [hm] at jt
        refine ⟨?_⟩; refine Spec.ofR (h := fun F w0 => ?_)
        repeat' ((conv => whnf); first | refine Q.E ?_ | (refine Stk.both (fun hb => ?_) (fun hb => ?_) <;> (try simp only [lE] at hb))); all_goals (conv => whnf)
        all_goals (refine Q.r6 (h := ?_); repeat' (first | exact Q.r0 | refine Q.r1 ?_ ?_ | refine Q.r2 ?_ | exact Q.r7 | refine Q.r3 ?_ | refine Q.r4 ?_ | refine Q.r5 ?_))
      | true =>
        rw [hm] at jt hn
        have hn2 : ¬ (r.own.length ≤ 100 ∧ r.known.length ≤ 20 ∧ r.fronts.length ≤ 20 ∧ r.done.length ≤ 20) := fun h => hn ⟨rfl, h.1, h.2.1, rfl, h.2.2.1, h.2.2.2⟩
        refine ⟨?_⟩; refine Spec.ofR (h := fun F w0 => ?_)
        repeat' ((conv => whnf); first | refine Q.E ?_ | (refine Stk.both (fun hb => ?_) (fun hb => ?_) <;> (try simp only [lE] at hb))); all_goals (conv => whnf)
        all_goals first | (exfalso; omega) | (refine Q.r6 (h := ?_); repeat' (first | exact Q.r0 | refine Q.r1 ?_ ?_ | refine Q.r2 ?_ | exact Q.r7 | refine Q.r3 ?_ | refine Q.r4 ?_ | refine Q.r5 ?_))
  | true =>
    obtain ⟨he, h2, h3, hm, h5, h6⟩ := few_parts h1
    rw [he] at je
    rw [hm] at jt
    unfold fewR
    rw [h1, Bool.true_and]
    refine ⟨?_⟩; refine Spec.ofR (h := fun F w0 => ?_)
    repeat' ((conv => whnf); first | refine Q.E ?_ | (refine Stk.both (fun hb => ?_) (fun hb => ?_) <;> (try simp only [lE] at hb))); all_goals (conv => whnf)
    refine Stk.loop (ι := Nat) (fun i => [(1, .lp 1 0), (3, PV.int (i : Nat))]) (fun _ => [(1, .box r.cs)]) (fun i => i ≤ r.known.length ∧ ∀ x ∈ r.known.take i, (!fewK x) = false) (fun i => r.known.length - i) 0 ⟨Nat.zero_le _, by simp⟩ (Weak.gc ⟨rfl, rfl, trivial⟩ ⟨rfl, trivial⟩ rfl rfl rfl) (fun i hi => ?_)
    obtain ⟨hi, hno⟩ := hi
    by_cases hlt : i < r.known.length
    · have j1 := fewkno_spec r.known[i]
      cases hq : fewK r.known[i] with
      | false =>
        rw [hq] at j1
        rw [all_bad hlt hq]
        repeat' ((conv => whnf); first | refine Q.E ?_ | (refine Stk.both (fun hb => ?_) (fun hb => ?_) <;> (try simp only [lE] at hb))); all_goals (conv => whnf)
        (refine Q.r6 (h := ?_); repeat' (first | exact Q.r0 | refine Q.r1 ?_ ?_ | refine Q.r2 ?_ | exact Q.r7 | refine Q.r3 ?_ | refine Q.r4 ?_ | refine Q.r5 ?_))
      | true =>
        rw [hq] at j1
        repeat' ((conv => whnf); first | refine Q.E ?_ | (refine Stk.both (fun hb => ?_) (fun hb => ?_) <;> (try simp only [lE] at hb))); all_goals (conv => whnf)
        exact ⟨i + 1, ⟨by omega, take_no (p := fun x => !fewK x) hlt hno (by show (!fewK r.known[i]) = false; rw [hq]; rfl)⟩, by omega, Weak.gc ⟨rfl, rfl, trivial⟩ ⟨rfl, trivial⟩ rfl rfl rfl⟩
    · rw [all_good hlt hno, Bool.true_and]
      repeat' ((conv => whnf); first | refine Q.E ?_ | (refine Stk.both (fun hb => ?_) (fun hb => ?_) <;> (try simp only [lE] at hb))); all_goals (conv => whnf)
      refine Stk.loop (ι := Nat) (fun i => [(1, .lp 1 0), (4, PV.int (i : Nat))]) (fun _ => [(1, .box r.cs)]) (fun i => i ≤ r.done.length ∧ ∀ x ∈ r.done.take i, (!decide (x.length ≤ 100)) = false) (fun i => r.done.length - i) 0 ⟨Nat.zero_le _, by simp⟩ (Weak.gc ⟨rfl, rfl, trivial⟩ ⟨rfl, trivial⟩ rfl rfl rfl) (fun i hi => ?_)
      obtain ⟨hi, hno⟩ := hi
      by_cases hlt : i < r.done.length
      · by_cases hq : r.done[i].length ≤ 100
        · repeat' ((conv => whnf); first | refine Q.E ?_ | (refine Stk.both (fun hb => ?_) (fun hb => ?_) <;> (try simp only [lE] at hb))); all_goals (conv => whnf)
          exact ⟨i + 1, ⟨by omega, take_no (p := fun x => !decide (x.length ≤ 100)) hlt hno (by show (!decide (r.done[i].length ≤ 100)) = false; rw [decide_eq_true hq]; rfl)⟩, by omega, Weak.gc ⟨rfl, rfl, trivial⟩ ⟨rfl, trivial⟩ rfl rfl rfl⟩
        · rw [all_bad (p := fun l => decide (l.length ≤ 100)) hlt (decide_eq_false hq)]
          repeat' ((conv => whnf); first | refine Q.E ?_ | (refine Stk.both (fun hb => ?_) (fun hb => ?_) <;> (try simp only [lE] at hb))); all_goals (conv => whnf)
          (refine Q.r6 (h := ?_); repeat' (first | exact Q.r0 | refine Q.r1 ?_ ?_ | refine Q.r2 ?_ | exact Q.r7 | refine Q.r3 ?_ | refine Q.r4 ?_ | refine Q.r5 ?_))
      · rw [all_good (p := fun l => decide (l.length ≤ 100)) hlt hno, Bool.true_and]
        by_cases hi60 : r.items.length ≤ 60
        · rw [decide_eq_true hi60, Bool.true_and]
          repeat' ((conv => whnf); first | refine Q.E ?_ | (refine Stk.both (fun hb => ?_) (fun hb => ?_) <;> (try simp only [lE] at hb))); all_goals (conv => whnf)
          (refine Q.r6 (h := ?_); repeat' (first | exact Q.r0 | refine Q.r1 ?_ ?_ | refine Q.r2 ?_ | exact Q.r7 | refine Q.r3 ?_ | refine Q.r4 ?_ | refine Q.r5 ?_))
          rw [tst_eq, decide_eq_decide]
          omega
        · rw [decide_eq_false hi60, Bool.false_and]
          repeat' ((conv => whnf); first | refine Q.E ?_ | (refine Stk.both (fun hb => ?_) (fun hb => ?_) <;> (try simp only [lE] at hb))); all_goals (conv => whnf)
          (refine Q.r6 (h := ?_); repeat' (first | exact Q.r0 | refine Q.r1 ?_ ?_ | refine Q.r2 ?_ | exact Q.r7 | refine Q.r3 ?_ | refine Q.r4 ?_ | refine Q.r5 ?_))
end Go.Proofs.YtbjepdfnmbdplaaGreat
end
section
namespace Go.Proofs.YtbjepdfnmbdplaaGreat
open Go.RowKit
set_option linter.unusedSimpArgs false
set_option linter.unusedVariables false
set_option maxRecDepth 100000
set_option maxHeartbeats 4000000
theorem noIdB_map {α : Type} {f : α → List PV} {id t sz ver : Nat} (h : ∀ x, noIdL id (f x) = true) (l : List α) : LB.noId id (.row t sz ver (l.map f)) = true := List.all_eq_true.2 fun e he => by
  obtain ⟨x, _, rfl⟩ := List.mem_map.1 he
  exact h x
theorem newtab_spec (N : Nat) (hn : 3 ≤ N ∧ N ≤ 9) : HasSpec Tryz.prog 120 [PV.int (N : Nat)] (.tup [PV.tab (List.replicate N (List.replicate N 0)), PV.int 0]) := by
  generalize hZ : List.replicate N (0 : Int) = Z
  refine ⟨?_⟩; refine Spec.ofR (h := fun F w0 => ?_)
  repeat' ((conv => whnf); first | refine Q.E ?_ | (refine Stk.both (fun hb => ?_) (fun hb => ?_) <;> (try simp only [lE] at hb))); all_goals (conv => whnf)
  refine Stk.loop (ι := Nat) (fun i => [(0, PV.int (N : Nat)), (4, .row 4 i), (5, PV.int (i : Nat))]) (fun i => [(4, .row 26 1 i ((List.replicate i Z).map rcs))]) (fun i => i ≤ N) (fun i => N - i) 0 (Nat.zero_le _) (Weak.trans (Weak.nilrow (t := 4) (id := 4) (rt := 26) (sz := 1) rfl rfl) (Weak.gc ⟨rfl, rfl, rfl, trivial⟩ ⟨rfl, trivial⟩ rfl rfl rfl)) (fun i hi => ?_)
  have htl : (List.replicate i Z).length = i := List.length_replicate
  have hrs : List.replicate (i + 1) Z = List.replicate i Z ++ [Z] := List.replicate_succ'
  generalize hT : List.replicate i Z = T at *
  by_cases hlt : i < N
  · repeat' ((conv => whnf); first | refine Q.E ?_ | (refine Stk.both (fun hb => ?_) (fun hb => ?_) <;> (try simp only [lE] at hb))); all_goals (conv => whnf)
    refine Stk.loopW (ι := Nat) (fun k => [(0, PV.int (N : Nat)), (4, .row 4 i), (5, PV.int (i : Nat)), (6, .row 6 k), (7, PV.int (k : Nat))]) (fun k => [(4, .row 26 1 i (T.map rcs)), (6, .row 3 1 k ((List.replicate k (0 : Int)).map ics))]) (fun k => k ≤ N) (fun k => N - k) 0 (Nat.zero_le _) (Weak.trans (Weak.nilrow (t := 6) (id := 6) (rt := 3) (sz := 1) rfl rfl) (Weak.gc ⟨rfl, rfl, rfl, rfl, rfl, trivial⟩ ⟨rfl, rfl, trivial⟩ rfl (onlyH_row (fun _ => rfl) rfl) rfl)) (fun k hk => ?_)
    have hul : (List.replicate k (0 : Int)).length = k := List.length_replicate
    have hus : List.replicate (k + 1) (0 : Int) = List.replicate k 0 ++ [0] := List.replicate_succ'
    by_cases hlt2 : k < N
    · generalize hU : List.replicate k (0 : Int) = U at *
      repeat' ((conv => whnf); first | refine Q.E ?_ | (refine Stk.both (fun hb => ?_) (fun hb => ?_) <;> (try simp only [lE] at hb))); all_goals (conv => whnf)
      (refine Stk.app rfl Q.app ?_)
      repeat' ((conv => whnf); first | refine Q.E ?_ | (refine Stk.both (fun hb => ?_) (fun hb => ?_) <;> (try simp only [lE] at hb))); all_goals (conv => whnf)
      refine ⟨k + 1, by show k + 1 ≤ N; omega, by omega, ?_⟩
      rw [hus]
      exact Weak.gc ⟨rfl, rfl, rfl, rfl, rfl, trivial⟩ ⟨rfl, by rw [List.map_append]; rfl, trivial⟩ rfl (onlyH_row (fun _ => rfl) (onlyH_row (fun _ => rfl) rfl)) rfl
    · obtain rfl : k = N := by omega
      rw [hZ]
      repeat' ((conv => whnf); first | refine Q.E ?_ | (refine Stk.both (fun hb => ?_) (fun hb => ?_) <;> (try simp only [lE] at hb))); all_goals (conv => whnf)
      refine ⟨[(0, PV.int (k : Nat)), (4, .row 4 i), (5, PV.int (i : Nat)), (6, PV.ints Z)], [(4, .row 26 1 i (T.map rcs))], Weak.frz (id := 6) (ver := k) (rt := 3) (sz := 1) (xs := Z.map ics) rfl (all_map_closed (fun _ => rfl) _) ⟨.inl ⟨rfl, rfl⟩, .inl ⟨rfl, rfl⟩, .inl ⟨rfl, rfl⟩, .inr ⟨rfl, rfl⟩, trivial⟩ ⟨⟨by decide, noIdB_map (fun _ => rfl) T, rfl⟩, trivial⟩ rfl, ?_⟩
      repeat' ((conv => whnf); first | refine Q.E ?_ | (refine Stk.both (fun hb => ?_) (fun hb => ?_) <;> (try simp only [lE] at hb))); all_goals (conv => whnf)
      (refine Stk.app rfl Q.app ?_)
      repeat' ((conv => whnf); first | refine Q.E ?_ | (refine Stk.both (fun hb => ?_) (fun hb => ?_) <;> (try simp only [lE] at hb))); all_goals (conv => whnf)
      refine ⟨i + 1, by show i + 1 ≤ k; omega, by omega, ?_⟩
      rw [hrs]
      exact Weak.gc ⟨rfl, rfl, rfl, trivial⟩ ⟨by rw [List.map_append]; rfl, trivial⟩ rfl (onlyH_row (fun _ => rfl) rfl) rfl
  · obtain rfl : i = N := by omega
    rw [← hT]
    repeat' ((conv => whnf); first | refine Q.E ?_ | (refine Stk.both (fun hb => ?_) (fun hb => ?_) <;> (try simp only [lE] at hb))); all_goals (conv => whnf)
    (refine Q.r6 (h := ?_); repeat' (first | exact Q.r0 | refine Q.r1 ?_ ?_ | refine Q.r2 ?_ | exact Q.r7 | refine Q.r3 ?_ | refine Q.r4 ?_ | refine Q.r5 ?_))
def tab3 : List (List Int) := [[0, 0, 0], [0, 0, 0], [0, 0, 0]]
theorem new18_3 : HasSpec Tryz.prog 120 [PV.int 3] (.tup [PV.tab tab3, PV.int 0]) := newtab_spec 3 (by omega)
def kno0 : Kno := ⟨0, [], []⟩
def newRpl (s : Int) : Rpl := ⟨3, 1, s, 0, 0, 0, 0, [], [], [kno0, kno0, kno0], tab3, [0, 0, 0], [[], [], []], ⟨0, 0⟩, 0, [], []⟩
def knoW : List PV := [PV.int 0, .v (.slice none 0 0), .v (.slice none 0 0)]
def donW : List PV := [.v (.slice none 0 0)]
def newW (s : Int) : List PV := [PV.int 3, PV.int 1, PV.int s, PV.int 0, PV.int 0, PV.int 0, PV.int 0, .v (.slice none 0 0), .v (.slice none 0 0), .sl 3 [knoW, knoW, knoW], PV.tab tab3, .sl 1 [[PV.int 0], [PV.int 0], [PV.int 0]], .sl 1 [donW, donW, donW], PV.int 0, PV.int 0, PV.int 0, .v (.slice none 0 0), .v (.slice none 0 0)]
theorem knoW_sub : SubXL knoW kno0.cs := .cons (.refl _) (.cons (.nil _) (.cons (.nil _) .nil))
theorem donW_sub : SubXL donW (dcs []) := .cons (.nil _) .nil
theorem newW_sub (s : Int) : SubXL (newW s) (newRpl s).cs :=
  .cons (.refl _) (.cons (.refl _) (.cons (.refl _) (.cons (.refl _) (.cons (.refl _) (.cons (.refl _) (.cons (.refl _) (.cons (.nil _) (.cons (.nil _) (.cons (SubX.sl (.cons knoW_sub (.cons knoW_sub (.cons knoW_sub .nil)))) (.cons (.refl _) (.cons (.refl _) (.cons (SubX.sl (.cons donW_sub (.cons donW_sub (.cons donW_sub .nil)))) (.cons (.refl _) (.cons (.refl _) (.cons (.refl _) (.cons (.nil _) (.cons (.nil _) .nil)))))))))))))))))
theorem new25_spec (s : Int) (hs : 1 ≤ s ∧ s ≤ 3) : HasSpec Tryz.prog 46 [PV.int 3, PV.int 1, PV.int s] (.tup [.agg (newRpl s).cs, PV.int 0]) := by
  refine HasSpec.mono (r := .tup [.agg (newW s), PV.int 0]) ?_ (SubX.tup (.cons (SubX.agg (newW_sub s)) (.cons (.refl _) .nil)))
  have j1 := rsizeok (n := 3) (f := 1) (by decide)
  have j2 := new18_3
  unfold newW
  generalize tab3 = M at *
  refine ⟨?_⟩; refine Spec.ofR (h := fun F w0 => ?_)
  repeat' ((conv => whnf); first | refine Q.E ?_ | (refine Stk.both (fun hb => ?_) (fun hb => ?_) <;> (try simp only [lE] at hb))); all_goals (conv => whnf)
  refine Stk.unroll 4 ?_
  repeat' ((conv => whnf); first | refine Q.E ?_ | (refine Stk.both (fun hb => ?_) (fun hb => ?_) <;> (try simp only [lE] at hb))); all_goals (conv => whnf)
  refine Stk.weak (Weak.nilrow (t := 48) (id := 91) (rt := 81) (sz := 3) rfl rfl) ?_ trivial
  repeat' ((conv => whnf); first | refine Q.E ?_ | (refine Stk.both (fun hb => ?_) (fun hb => ?_) <;> (try simp only [lE] at hb))); all_goals (conv => whnf)
  (refine Stk.app rfl Q.app ?_)
  repeat' ((conv => whnf); first | refine Q.E ?_ | (refine Stk.both (fun hb => ?_) (fun hb => ?_) <;> (try simp only [lE] at hb))); all_goals (conv => whnf)
  refine Stk.weak (Weak.nilrow (t := 54) (id := 92) (rt := 3) (sz := 1) rfl rfl) ?_ trivial
  repeat' ((conv => whnf); first | refine Q.E ?_ | (refine Stk.both (fun hb => ?_) (fun hb => ?_) <;> (try simp only [lE] at hb))); all_goals (conv => whnf)
  (refine Stk.app rfl Q.app ?_)
  repeat' ((conv => whnf); first | refine Q.E ?_ | (refine Stk.both (fun hb => ?_) (fun hb => ?_) <;> (try simp only [lE] at hb))); all_goals (conv => whnf)
  refine Stk.weak (Weak.nilrow (t := 59) (id := 93) (rt := 79) (sz := 1) rfl rfl) ?_ trivial
  repeat' ((conv => whnf); first | refine Q.E ?_ | (refine Stk.both (fun hb => ?_) (fun hb => ?_) <;> (try simp only [lE] at hb))); all_goals (conv => whnf)
  (refine Stk.app rfl Q.app ?_)
  repeat' ((conv => whnf); first | refine Q.E ?_ | (refine Stk.both (fun hb => ?_) (fun hb => ?_) <;> (try simp only [lE] at hb))); all_goals (conv => whnf)
  (refine Stk.app rfl Q.app ?_)
  repeat' ((conv => whnf); first | refine Q.E ?_ | (refine Stk.both (fun hb => ?_) (fun hb => ?_) <;> (try simp only [lE] at hb))); all_goals (conv => whnf)
  (refine Stk.app rfl Q.app ?_)
  repeat' ((conv => whnf); first | refine Q.E ?_ | (refine Stk.both (fun hb => ?_) (fun hb => ?_) <;> (try simp only [lE] at hb))); all_goals (conv => whnf)
  (refine Stk.app rfl Q.app ?_)
  repeat' ((conv => whnf); first | refine Q.E ?_ | (refine Stk.both (fun hb => ?_) (fun hb => ?_) <;> (try simp only [lE] at hb))); all_goals (conv => whnf)
  (refine Stk.app rfl Q.app ?_)
  repeat' ((conv => whnf); first | refine Q.E ?_ | (refine Stk.both (fun hb => ?_) (fun hb => ?_) <;> (try simp only [lE] at hb))); all_goals (conv => whnf)
  (refine Stk.app rfl Q.app ?_)
  repeat' ((conv => whnf); first | refine Q.E ?_ | (refine Stk.both (fun hb => ?_) (fun hb => ?_) <;> (try simp only [lE] at hb))); all_goals (conv => whnf)
  (refine Stk.app rfl Q.app ?_)
  repeat' ((conv => whnf); first | refine Q.E ?_ | (refine Stk.both (fun hb => ?_) (fun hb => ?_) <;> (try simp only [lE] at hb))); all_goals (conv => whnf)
  (refine Q.r6 (h := ?_); repeat' (first | exact Q.r0 | refine Q.r1 ?_ ?_ | refine Q.r2 ?_ | exact Q.r7 | refine Q.r3 ?_ | refine Q.r4 ?_ | refine Q.r5 ?_))
end Go.Proofs.YtbjepdfnmbdplaaGreat
end
