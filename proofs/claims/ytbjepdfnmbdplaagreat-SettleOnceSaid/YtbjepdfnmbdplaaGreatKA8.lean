/- Texts joined by wip/gen/kpack.py: U32 U33 D26 U35. -/
import Derived.Test.YtbjepdfnmbdplaaGreatKA7
section
namespace Go.Proofs.YtbjepdfnmbdplaaGreat
open Go.RowKit
set_option linter.unusedSimpArgs false
set_option linter.unusedVariables false
set_option maxRecDepth 100000
set_option maxHeartbeats 4000000
theorem send_iff {r : Rpl} {o : Out} : sendB r o = true ↔ (1 ≤ o.dest ∧ o.dest ≤ r.n ∧ o.dest ≠ r.self ∧ o.m.fr = r.self) ∧ msgB o.m = true := by
  unfold sendB
  rw [Bool.and_eq_true, decide_eq_true_iff]
theorem told_yes (r : Rpl) (l : List Out) (h : ∀ o ∈ l, sendB r o = true) : HasSpec Tryz.prog 28 [.agg r.cs, PV.outs l] (.v (.bool true)) := by
  refine ⟨Spec.bound 1 rfl fun hl => ?_⟩; rw [List.length_map] at hl; refine Spec.ofR (h := fun F w0 => ?_)
  repeat' ((conv => whnf); first | refine Q.E ?_ | (refine Stk.both (fun hb => ?_) (fun hb => ?_) <;> (try simp only [lE] at hb))); all_goals (conv => whnf)
  refine Stk.loop (ι := Nat) (fun i => [(1, PV.outs l), (2, .lp 2 0), (5, PV.int (i : Nat))]) (fun _ => [(2, .box r.cs)]) (fun i => i ≤ l.length) (fun i => l.length - i) 0 (Nat.zero_le _) (Weak.gc ⟨rfl, rfl, rfl, trivial⟩ ⟨rfl, trivial⟩ rfl rfl rfl) (fun i hi => ?_)
  by_cases hlt : i < l.length
  · obtain ⟨⟨h1, h2, h3, h4⟩, h5⟩ := send_iff.1 (h l[i] (List.getElem_mem hlt))
    have j1 := mck_yes h5
    repeat' ((conv => whnf); first | refine Q.E ?_ | (refine Stk.both (fun hb => ?_) (fun hb => ?_) <;> (try simp only [lE] at hb))); all_goals (conv => whnf)
    refine Stk.by j1 (h := ?_)
    repeat' ((conv => whnf); first | refine Q.E ?_ | (refine Stk.both (fun hb => ?_) (fun hb => ?_) <;> (try simp only [lE] at hb))); all_goals (conv => whnf)
    refine Stk.opDG rfl rfl rfl (by simp [tst_eq, h1, h2, h3, h4]; try omega) (ok_nilNe rfl rfl) rfl ?_
    repeat' ((conv => whnf); first | refine Q.E ?_ | (refine Stk.both (fun hb => ?_) (fun hb => ?_) <;> (try simp only [lE] at hb))); all_goals (conv => whnf)
    exact ⟨i + 1, by omega, by omega, Weak.gc ⟨rfl, rfl, rfl, trivial⟩ ⟨rfl, trivial⟩ rfl rfl rfl⟩
  · repeat' ((conv => whnf); first | refine Q.E ?_ | (refine Stk.both (fun hb => ?_) (fun hb => ?_) <;> (try simp only [lE] at hb))); all_goals (conv => whnf)
    ((refine FinK.of (h := ?_)); (repeat' (first | exact FinL.nil | refine FinL.cons ?_ ?_ | refine Fin'.tup ?_ | exact Q.f3 | exact Q.f4 | exact Q.f5 | exact Q.f6 | refine Fin'.vb ?_ | refine Fin'.vi ?_ | refine Fin'.agg ?_)))
theorem hearP_eq3 {r : Rpl} {m : Msg} (h : m.kind = 3) : hearP r m = onAcc r m := if_pos h
theorem hearP_eq4 {r : Rpl} {m : Msg} (h : m.kind = 4) : hearP r m = onAcd r m := (if_neg (by omega)).trans (if_pos h)
theorem hearP_eq5 {r : Rpl} {m : Msg} (h : m.kind = 5) : hearP r m = onCmt r m := (if_neg (by omega)).trans ((if_neg (by omega)).trans (if_pos h))
theorem hearP_eq8 {r : Rpl} {m : Msg} (h : m.kind ≠ 3) (h1 : m.kind ≠ 4) (h2 : m.kind ≠ 5) : hearP r m = onRef r m := (if_neg h).trans ((if_neg h1).trans (if_neg h2))
instance hear27_spec (r : Rpl) (m : Msg) : HasSpec Tryz.prog 27 [.agg r.cs, .agg m.cs] (.tup [.agg (hearP r m).1.cs, PV.outs (hearP r m).2]) := by
  have a1 := onaccept_spec r m
  have a2 := onaccepted_spec r m
  have a3 := oncommit_spec r m
  have a4 := onrefuse_spec r m
  by_cases h3 : m.kind = 3
  · rw [← hearP_eq3 h3] at a1
    generalize hearP r m = x at *
    refine ⟨?_⟩; refine Spec.ofR (h := fun F w0 => ?_)
    repeat' ((conv => whnf); first | refine Q.E ?_ | (refine Stk.both (fun hb => ?_) (fun hb => ?_) <;> (try simp only [lE] at hb))); all_goals (conv => whnf)
    ((refine FinK.of (h := ?_)); (repeat' (first | exact FinL.nil | refine FinL.cons ?_ ?_ | refine Fin'.tup ?_ | exact Q.f3 | exact Q.f4 | exact Q.f5 | exact Q.f6 | refine Fin'.vb ?_ | refine Fin'.vi ?_ | refine Fin'.agg ?_)))
  · by_cases h4 : m.kind = 4
    · rw [← hearP_eq4 h4] at a2
      generalize hearP r m = x at *
      refine ⟨?_⟩; refine Spec.ofR (h := fun F w0 => ?_)
      repeat' ((conv => whnf); first | refine Q.E ?_ | (refine Stk.both (fun hb => ?_) (fun hb => ?_) <;> (try simp only [lE] at hb))); all_goals (conv => whnf)
      ((refine FinK.of (h := ?_)); (repeat' (first | exact FinL.nil | refine FinL.cons ?_ ?_ | refine Fin'.tup ?_ | exact Q.f3 | exact Q.f4 | exact Q.f5 | exact Q.f6 | refine Fin'.vb ?_ | refine Fin'.vi ?_ | refine Fin'.agg ?_)))
    · by_cases h5 : m.kind = 5
      · rw [← hearP_eq5 h5] at a3
        generalize hearP r m = x at *
        refine ⟨?_⟩; refine Spec.ofR (h := fun F w0 => ?_)
        repeat' ((conv => whnf); first | refine Q.E ?_ | (refine Stk.both (fun hb => ?_) (fun hb => ?_) <;> (try simp only [lE] at hb))); all_goals (conv => whnf)
        ((refine FinK.of (h := ?_)); (repeat' (first | exact FinL.nil | refine FinL.cons ?_ ?_ | refine Fin'.tup ?_ | exact Q.f3 | exact Q.f4 | exact Q.f5 | exact Q.f6 | refine Fin'.vb ?_ | refine Fin'.vi ?_ | refine Fin'.agg ?_)))
      · rw [← hearP_eq8 h3 h4 h5] at a4
        generalize hearP r m = x at *
        refine ⟨?_⟩; refine Spec.ofR (h := fun F w0 => ?_)
        repeat' ((conv => whnf); first | refine Q.E ?_ | (refine Stk.both (fun hb => ?_) (fun hb => ?_) <;> (try simp only [lE] at hb))); all_goals (conv => whnf)
        ((refine FinK.of (h := ?_)); (repeat' (first | exact FinL.nil | refine FinL.cons ?_ ?_ | refine Fin'.tup ?_ | exact Q.f3 | exact Q.f4 | exact Q.f5 | exact Q.f6 | refine Fin'.vb ?_ | refine Fin'.vi ?_ | refine Fin'.agg ?_)))
end Go.Proofs.YtbjepdfnmbdplaaGreat
end
section
namespace Go.Proofs.YtbjepdfnmbdplaaGreat
open Go.RowKit
set_option linter.unusedSimpArgs false
set_option linter.unusedVariables false
set_option maxRecDepth 100000
set_option maxHeartbeats 4000000
theorem few27_no (r : Rpl) (m : Msg) (h : fewR r = false ∨ (fewR r = true ∧ fewM m = false)) : HasSpec Tryz.prog 4 [.agg r.cs, .agg m.cs] (.v (.bool true)) := by
  have k1 := fewrep_spec r
  have k2 := fewmsg_spec m
  rcases h with h | ⟨h, h2⟩
  · rw [h] at k1
    refine ⟨?_⟩; refine Spec.ofR (h := fun F w0 => ?_)
    repeat' ((conv => whnf); first | refine Q.E ?_ | (refine Stk.both (fun hb => ?_) (fun hb => ?_) <;> (try simp only [lE] at hb))); all_goals (conv => whnf)
    ((refine FinK.of (h := ?_)); (repeat' (first | exact FinL.nil | refine FinL.cons ?_ ?_ | refine Fin'.tup ?_ | exact Q.f3 | exact Q.f4 | exact Q.f5 | exact Q.f6 | refine Fin'.vb ?_ | refine Fin'.vi ?_ | refine Fin'.agg ?_)))
  · rw [h] at k1
    rw [h2] at k2
    refine ⟨?_⟩; refine Spec.ofR (h := fun F w0 => ?_)
    repeat' ((conv => whnf); first | refine Q.E ?_ | (refine Stk.both (fun hb => ?_) (fun hb => ?_) <;> (try simp only [lE] at hb))); all_goals (conv => whnf)
    ((refine FinK.of (h := ?_)); (repeat' (first | exact FinL.nil | refine FinL.cons ?_ ?_ | refine Fin'.tup ?_ | exact Q.f3 | exact Q.f4 | exact Q.f5 | exact Q.f6 | refine Fin'.vb ?_ | refine Fin'.vi ?_ | refine Fin'.agg ?_)))
instance settlekeeps_spec (r : Rpl) (m : Msg) : HasSpec Tryz.prog 4 [.agg r.cs, .agg m.cs] (.v (.bool true)) := by
  have k1 := fewrep_spec r
  have k2 := fewmsg_spec m
  have k3 := statecheck_spec r
  cases h1 : fewR r with
  | false => exact few27_no r m (.inl h1)
  | true =>
    rw [h1] at k1
    cases h2 : fewM m with
    | false => exact few27_no r m (.inr ⟨h1, h2⟩)
    | true =>
      rw [h2] at k2
      cases hr : repB r with
      | false =>
        rw [hr] at k3
        have k3 : HasSpec Tryz.prog 26 [.agg r.cs] (PV.int 2) := k3
        refine ⟨?_⟩; refine Spec.ofR (h := fun F w0 => ?_)
        repeat' ((conv => whnf); first | refine Q.E ?_ | (refine Stk.both (fun hb => ?_) (fun hb => ?_) <;> (try simp only [lE] at hb))); all_goals (conv => whnf)
        ((refine FinK.of (h := ?_)); (repeat' (first | exact FinL.nil | refine FinL.cons ?_ ?_ | refine Fin'.tup ?_ | exact Q.f3 | exact Q.f4 | exact Q.f5 | exact Q.f6 | refine Fin'.vb ?_ | refine Fin'.vi ?_ | refine Fin'.agg ?_)))
      | true =>
        rw [hr] at k3
        have k3 : HasSpec Tryz.prog 26 [.agg r.cs] (PV.int 0) := k3
        obtain ⟨st, ho⟩ := hear_keeps r m
        have k4 := hear27_spec r m
        have k5 := told_yes r (hearP r m).2 ho
        have k6 := statecheck_spec (hearP r m).1
        rw [st.rep hr] at k6
        have k6 : HasSpec Tryz.prog 26 [.agg (hearP r m).1.cs] (PV.int 0) := k6
        have e1 := st.self
        have e2 := st.seq
        have e3 := st.clock
        generalize (hearP r m).1 = s at *
        generalize (hearP r m).2 = o at *
        refine ⟨?_⟩; refine Spec.ofR (h := fun F w0 => ?_)
        repeat' ((conv => whnf); first | refine Q.E ?_ | (refine Stk.both (fun hb => ?_) (fun hb => ?_) <;> (try simp only [lE] at hb))); all_goals (conv => whnf)
        ((refine FinK.of (h := ?_)); (repeat' (first | exact FinL.nil | refine FinL.cons ?_ ?_ | refine Fin'.tup ?_ | exact Q.f3 | exact Q.f4 | exact Q.f5 | exact Q.f6 | refine Fin'.vb ?_ | refine Fin'.vi ?_ | refine Fin'.agg ?_)))
end Go.Proofs.YtbjepdfnmbdplaaGreat
end
section
namespace Go.Proofs.YtbjepdfnmbdplaaGreat
open Go.RowKit
set_option linter.unusedSimpArgs false
set_option linter.unusedVariables false
structure Fix (e x : Ent) : Prop where
  id : x.id = e.id
  payload : x.payload = e.payload
  settled : 5 ≤ e.phase → x.t = e.t ∧ e.phase ≤ x.phase
theorem Fix.refl (e : Ent) : Fix e e := ⟨rfl, rfl, fun _ => ⟨rfl, Int.le_refl _⟩⟩
theorem Fix.trans {e x y : Ent} (h : Fix e x) (k : Fix x y) : Fix e y := ⟨k.id.trans h.id, k.payload.trans h.payload, fun hp => by
  have h1 := h.settled hp
  have h2 := k.settled (by omega)
  exact ⟨h2.1.trans h1.1, by omega⟩⟩
theorem Kept.fix {e x : Ent} (h : Kept e x) : Fix e x := ⟨h.id, h.payload, h.settled⟩
def Goes (r s : Rpl) : Prop := ∀ id, findB r.entries id = true → findB s.entries id = true ∧ Fix (findT r.entries id) (findT s.entries id)
theorem Goes.refl (r : Rpl) : Goes r r := fun id h => ⟨h, .refl _⟩
theorem Goes.trans {r s u : Rpl} (h : Goes r s) (k : Goes s u) : Goes r u := fun id hf => by
  obtain ⟨h1, h2⟩ := h id hf
  obtain ⟨h3, h4⟩ := k id h1
  exact ⟨h3, h2.trans h4⟩
theorem put_goes {r : Rpl} {e : Ent} {l : List Ent} {s : Rpl} (hr : entsB r.entries = true) (hs : s.entries = putE r.entries e) (he : findB r.entries e.id = true → Fix (findT r.entries e.id) e) : Goes r s := fun id hf => by
  rw [hs]
  by_cases h : e.id = id
  · obtain ⟨h1, h2⟩ := (put_find hr id).1 h
    refine ⟨h1, ?_⟩
    rw [h2]
    subst h
    exact he hf
  · obtain ⟨h1, h2⟩ := (put_find hr id).2 h hf
    rw [h2]
    exact ⟨h1, .refl _⟩
theorem rput_goes {r : Rpl} {e : Ent} (he : findB r.entries e.id = true → Fix (findT r.entries e.id) e) : Goes r (rputR r e) := by
  by_cases h : rputX r e = 0
  · rw [rputR_yes h]
    exact put_goes (l := []) (rep_ents (rput_parts h).1).1 rfl he
  · rw [rputR_no h]; exact .refl r
theorem bmp_goes {r : Rpl} {e : Ent} {t : Int} (he : findB r.entries e.id = true → Fix (findT r.entries e.id) e) : Goes r (bmpR r e t) := by
  by_cases h : rputX r e = 0
  · rw [show bmpR r e t = { r with entries := putE r.entries e, clock := bumpI r.clock t } from if_pos h]
    exact put_goes (l := []) (rep_ents (rput_parts h).1).1 rfl he
  · rw [show bmpR r e t = r from if_neg h]; exact .refl r
theorem lrn_goes (r : Rpl) (id q : Int) (p : ByteArray) : Goes r (lrnR r id q p) := by
  unfold lrnR
  split
  · split
    · exact .refl r
    · rename_i hf
      split
      · exact rput_goes fun h => absurd h hf
      · exact .refl r
  · exact .refl r
theorem cmt_goes {r : Rpl} {e : Ent} {t : Int} (h1 : entB e = true) (he : findB r.entries e.id = true → Fix (findT r.entries e.id) e) : Goes r (cmtR r e t) := by
  unfold cmtR
  split
  · refine bmp_goes fun h => ?_
    have k := (comm_kept (t := t) h1).fix
    rw [k.id] at h ⊢
    exact (he h).trans k
  · exact .refl r
theorem onAcc_goes (r : Rpl) (m : Msg) : Goes r (onAcc r m).1 := by
  unfold onAcc
  split
  · rename_i h
    obtain ⟨_, _, _, hl⟩ := h
    have g := lrn_goes r m.id m.quorum m.payload
    obtain ⟨f1, f2⟩ := lrn_find hl
    have hi := lrn_id hl
    have he := lrn_ent hl
    dsimp only
    split
    · exact g
    · split
      · exact g
      · split
        · refine g.trans (bmp_goes fun h => ?_)
          have k := (acc_kept (t := m.t) (b := m.bal) he).fix
          rw [k.id, hi, f2]
          exact k
        · exact .refl r
  · exact .refl r
theorem ack_fix (e : Ent) (a : Ack) : Fix e (ackR e a) := by
  unfold ackR
  split
  · exact ⟨rfl, rfl, fun _ => ⟨rfl, Int.le_refl _⟩⟩
  · exact .refl e
theorem onAcd_goes (r : Rpl) (m : Msg) : Goes r (onAcd r m).1 := by
  unfold onAcd
  split
  · rename_i h
    obtain ⟨_, hh, _, hf⟩ := h
    have hr := (hears_rep hh).1
    have he := find_ent hr hf
    have hi := (find_mem hf).2
    dsimp only
    split
    · rename_i hc
      obtain ⟨_, _, _, _, c5⟩ := hc
      have k := ack_fix (findT r.entries m.id) (accA m)
      have a1 := (ackR_facts (a := accA m) he).1
      have g : Goes r (rputR r (ackR (findT r.entries m.id) (accA m))) := rput_goes fun h => by rw [k.id, hi]; exact k
      split
      · split
        · refine g.trans (cmt_goes a1 fun h => ?_)
          rw [rputR_yes c5]
          have := ((put_find (rep_ents hr).1 (ackR (findT r.entries m.id) (accA m)).id).1 rfl).2
          show Fix (findT (putE r.entries _) _) _
          rw [this]
          exact .refl _
        · exact .refl r
      · exact g
    · exact .refl r
  · exact .refl r
theorem onCmt_goes (r : Rpl) (m : Msg) : Goes r (onCmt r m).1 := by
  unfold onCmt
  split
  · rename_i h
    obtain ⟨_, _, hl⟩ := h
    have g := lrn_goes r m.id m.quorum m.payload
    obtain ⟨f1, f2⟩ := lrn_find hl
    have hi := lrn_id hl
    have he := lrn_ent hl
    dsimp only
    split
    · exact g
    · split
      · refine g.trans (cmt_goes he fun h => ?_)
        rw [hi, f2]
        exact .refl _
      · exact .refl r
  · exact .refl r
theorem hear_fix (e : Ent) (b : Int) : Fix e (hearE e b) := by
  unfold hearE
  split
  · exact ⟨rfl, rfl, fun _ => ⟨rfl, Int.le_refl _⟩⟩
  · exact .refl e
theorem onRef_goes (r : Rpl) (m : Msg) : Goes r (onRef r m).1 := by
  unfold onRef
  split
  · rename_i h
    obtain ⟨_, _, hf, _⟩ := h
    have k := hear_fix (findT r.entries m.id) m.bal
    exact rput_goes fun h => by rw [k.id, (find_mem hf).2]; exact k
  · exact .refl r
theorem hear_goes (r : Rpl) (m : Msg) : Goes r (hearP r m).1 := by
  unfold hearP
  split
  · exact onAcc_goes r m
  · split
    · exact onAcd_goes r m
    · split
      · exact onCmt_goes r m
      · exact onRef_goes r m
theorem goes_at {r s : Rpl} (hr : repB r = true) (h : Goes r s) {e : Ent} (he : e ∈ r.entries) : findB s.entries e.id = true ∧ Fix e (findT s.entries e.id) := by
  obtain ⟨f1, f2⟩ := find_uniq (ents_pw.1 (rep_ents hr).1).2.2 he
  obtain ⟨h1, h2⟩ := h e.id f1
  rw [f2] at h2
  exact ⟨h1, h2⟩
theorem who_ack (e : Ent) (m : Msg) : whoN (e.ack (accA m)) 2 m.bal = (whoN e 2 m.bal ||| orN [m.fr]) := by
  unfold whoN
  have h : ofL (e.ack (accA m)).acks 2 m.bal = ofL e.acks 2 m.bal ++ [accA m] := by
    show ofL (e.acks ++ [accA m]) 2 m.bal = _
    unfold ofL
    rw [List.filter_append]
    rw [List.filter_cons_of_pos (by simp [accA]), List.filter_nil]
  rw [h, List.map_append, List.map_cons, List.map_nil, orN_snoc, show (accA m).fr = m.fr from rfl]
  have h2 : orN [m.fr] = if replB m.fr = true then 2 ^ (m.fr - 1).toNat else 0 := by
    have := orN_snoc [] m.fr
    rw [List.nil_append] at this
    rw [this]
    split
    · rw [show orN [] = 0 from rfl, Nat.zero_or]
    · rfl
  rw [h2]
  split
  · rfl
  · rw [Nat.or_zero]
theorem acd_told {r : Rpl} {m : Msg} (h4 : m.kind = 4) (h : (hearP r m).2 ≠ []) : entB (findT r.entries m.id) = true ∧ (findT r.entries m.id).abal = m.bal ∧ r.f < ((listS ((whoN (findT r.entries m.id) 2 m.bal ||| orN [m.fr] : Nat) : Int) 9).length : Int) ∧ ∀ o ∈ (hearP r m).2, o.m.t = (findT r.entries m.id).t := by
  have e : hearP r m = onAcd r m := (if_neg (by omega)).trans (if_pos h4)
  rw [e] at h ⊢
  unfold onAcd at h ⊢
  split at h
  · rename_i hc
    rw [if_pos hc]
    obtain ⟨_, hh, _, hf⟩ := hc
    have he := find_ent (hears_rep hh).1 hf
    dsimp only at h ⊢
    split at h
    · rename_i hd
      rw [if_pos hd]
      obtain ⟨_, _, c3, c4, _⟩ := hd
      split at h
      · rename_i hw
        rw [if_pos hw]
        split at h
        · rename_i hx
          rw [if_pos hx]
          refine ⟨he, c3, ?_, fun o ho => ?_⟩
          · unfold wonB at hw
            rw [Bool.and_eq_true, decide_eq_true_iff] at hw
            have hk := hw.2.2.2.2.2.2
            rw [ackR_yes c4] at hk
            have : whoN ((findT r.entries m.id).ack (accA m)) 2 m.bal = (whoN (findT r.entries m.id) 2 m.bal ||| orN [m.fr]) := by
              exact who_ack _ m
            rw [this] at hk
            exact hk
          · unfold allO at ho
            split at ho
            · rw [List.mem_map] at ho
              obtain ⟨d, _, rfl⟩ := ho
              show (ackR (findT r.entries m.id) (accA m)).t = _
              exact (ackR_facts he).2.1
            · cases ho
        · exact absurd rfl h
      · exact absurd rfl h
    · exact absurd rfl h
  · exact absurd rfl h
end Go.Proofs.YtbjepdfnmbdplaaGreat
end
section
namespace Go.Proofs.YtbjepdfnmbdplaaGreat
open Go.RowKit
set_option linter.unusedSimpArgs false
set_option linter.unusedVariables false
set_option maxRecDepth 100000
set_option maxHeartbeats 4000000
abbrev PV.msgs (l : List Msg) : PV := .sl 14 (l.map Msg.cs)
theorem once_loop (r : Rpl) (l : List Msg) (h1 : fewR r = true) (hl30 : l.length ≤ 30) (hr0 : repB r = true) : HasSpec Tryz.prog 5 [.agg r.cs, PV.msgs l] (.v (.bool true)) := by
  have k1 := fewrep_spec r
  rw [h1] at k1
  have k3 := statecheck_spec r
  rw [hr0] at k3
  have k3 : HasSpec Tryz.prog 26 [.agg r.cs] (PV.int 0) := k3
  refine ⟨?_⟩; refine Spec.ofR (h := fun F w0 => ?_)
  repeat' ((conv => whnf); first | refine Q.E ?_ | (refine Stk.both (fun hb => ?_) (fun hb => ?_) <;> (try simp only [lE] at hb))); all_goals (conv => whnf)
  refine Stk.loop (ι := Nat × Rpl) (fun i => [(1, PV.msgs l), (2, .lp 2 0), (5, PV.int (i.1 : Nat))]) (fun i => [(2, .box i.2.cs)]) (fun i => i.1 ≤ l.length ∧ repB i.2 = true) (fun i => l.length - i.1) (0, r) ⟨Nat.zero_le _, hr0⟩ (Weak.gc ⟨rfl, rfl, rfl, trivial⟩ ⟨rfl, trivial⟩ rfl rfl rfl) (fun i hi => ?_)
  obtain ⟨i, q⟩ := i
  simp only at hi
  obtain ⟨hi, hq⟩ := hi
  dsimp only
  clear k1 k3
  have h40 : q.entries.length ≤ 40 := (ents_pw.1 (rep_ents hq).1).1
  by_cases hlt : i < l.length
  · have k2 := fewmsg_spec l[i]
    cases h2 : fewM l[i] with
    | false =>
      rw [h2] at k2
      repeat' ((conv => whnf); first | refine Q.E ?_ | (refine Stk.both (fun hb => ?_) (fun hb => ?_) <;> (try simp only [lE] at hb))); all_goals (conv => whnf)
      ((refine FinK.of (h := ?_)); (repeat' (first | exact FinL.nil | refine FinL.cons ?_ ?_ | refine Fin'.tup ?_ | exact Q.f3 | exact Q.f4 | exact Q.f5 | exact Q.f6 | refine Fin'.vb ?_ | refine Fin'.vi ?_ | refine Fin'.agg ?_)))
    | true =>
      rw [h2] at k2
      have k4 := hear27_spec q l[i]
      have hs := (hear_keeps q l[i]).1.rep hq
      have hg : ∀ e ∈ q.entries, findB (hearP q l[i]).1.entries e.id = true ∧ Fix e (findT (hearP q l[i]).1.entries e.id) := fun e he => goes_at hq (hear_goes q l[i]) he
      have ht := acd_told (r := q) (m := l[i])
      generalize (hearP q l[i]).1 = s at *
      generalize (hearP q l[i]).2 = o at *
      repeat' ((conv => whnf); first | refine Q.E ?_ | (refine Stk.both (fun hb => ?_) (fun hb => ?_) <;> (try simp only [lE] at hb))); all_goals (conv => whnf)
      refine Stk.loop (ι := Nat) (fun k => [(1, PV.msgs l), (2, .lp 2 0), (5, PV.int (i : Nat)), (6, .lp 6 0), (7, PV.outs o), (8, PV.int (k : Nat))]) (fun _ => [(2, .box q.cs), (6, .box s.cs)]) (fun k => k ≤ q.entries.length) (fun k => q.entries.length - k) 0 (Nat.zero_le _) (Weak.gc ⟨rfl, rfl, rfl, rfl, rfl, rfl, trivial⟩ ⟨rfl, rfl, trivial⟩ rfl rfl rfl) (fun k hk => ?_)
      by_cases hlk : k < q.entries.length
      · obtain ⟨g1, g2⟩ := hg q.entries[k] (List.getElem_mem hlk)
        have j1 := tablefind_spec s.entries q.entries[k].id
        rw [g1] at j1
        have g3 := g2.payload
        have g4 := g2.settled
        generalize findT s.entries q.entries[k].id = f at *
        repeat' ((conv => whnf); first | refine Q.E ?_ | (refine Stk.both (fun hb => ?_) (fun hb => ?_) <;> (try simp only [lE] at hb))); all_goals (conv => whnf)
        all_goals exact ⟨k + 1, by omega, by omega, Weak.gc ⟨rfl, rfl, rfl, rfl, rfl, rfl, trivial⟩ ⟨rfl, rfl, trivial⟩ rfl rfl rfl⟩
      · by_cases hc : l[i].kind = 4 ∧ 0 < o.length
        · obtain ⟨t1, t2, t3, t4⟩ := ht hc.1 (by intro e; rw [e] at hc; simp at hc)
          have j2 := who_spec (findT q.entries l[i].id) 2 l[i].bal (by have := ent_acks t1; omega)
          have t6 : bitI .or .i64 (whoN (findT q.entries l[i].id) 2 l[i].bal : Nat) (orN [l[i].fr] : Nat) = ((whoN (findT q.entries l[i].id) 2 l[i].bal ||| orN [l[i].fr] : Nat) : Int) := i64_or_nat _ _ (by have := orN_lt ((ofL (findT q.entries l[i].id).acks 2 l[i].bal).map Ack.fr); unfold whoN; omega) (by have := orN_lt [l[i].fr]; omega)
          rw [← t6] at t3
          obtain ⟨hc1, hc2⟩ := hc
          have t5 := t4 o[0] (List.getElem_mem hc2)
          have j1 := tablefind_spec q.entries l[i].id
          generalize findT q.entries l[i].id = e at *
          repeat' ((conv => whnf); first | refine Q.E ?_ | (refine Stk.both (fun hb => ?_) (fun hb => ?_) <;> (try simp only [lE] at hb))); all_goals (conv => whnf)
          all_goals exact ⟨(i + 1, s), ⟨by show i + 1 ≤ l.length; omega, hs⟩, by show l.length - (i + 1) < l.length - i; omega, Weak.gc ⟨rfl, rfl, rfl, trivial⟩ ⟨rfl, trivial⟩ rfl rfl rfl⟩
        · repeat' ((conv => whnf); first | refine Q.E ?_ | (refine Stk.both (fun hb => ?_) (fun hb => ?_) <;> (try simp only [lE] at hb))); all_goals (conv => whnf)
          all_goals exact ⟨(i + 1, s), ⟨by show i + 1 ≤ l.length; omega, hs⟩, by show l.length - (i + 1) < l.length - i; omega, Weak.gc ⟨rfl, rfl, rfl, trivial⟩ ⟨rfl, trivial⟩ rfl rfl rfl⟩
  · repeat' ((conv => whnf); first | refine Q.E ?_ | (refine Stk.both (fun hb => ?_) (fun hb => ?_) <;> (try simp only [lE] at hb))); all_goals (conv => whnf)
    ((refine FinK.of (h := ?_)); (repeat' (first | exact FinL.nil | refine FinL.cons ?_ ?_ | refine Fin'.tup ?_ | exact Q.f3 | exact Q.f4 | exact Q.f5 | exact Q.f6 | refine Fin'.vb ?_ | refine Fin'.vi ?_ | refine Fin'.agg ?_)))
instance settleonce_spec (r : Rpl) (l : List Msg) : HasSpec Tryz.prog 5 [.agg r.cs, PV.msgs l] (.v (.bool true)) := by
  have k1 := fewrep_spec r
  have k3 := statecheck_spec r
  cases h1 : fewR r with
  | false =>
    rw [h1] at k1
    refine ⟨?_⟩; refine Spec.ofR (h := fun F w0 => ?_)
    repeat' ((conv => whnf); first | refine Q.E ?_ | (refine Stk.both (fun hb => ?_) (fun hb => ?_) <;> (try simp only [lE] at hb))); all_goals (conv => whnf)
    ((refine FinK.of (h := ?_)); (repeat' (first | exact FinL.nil | refine FinL.cons ?_ ?_ | refine Fin'.tup ?_ | exact Q.f3 | exact Q.f4 | exact Q.f5 | exact Q.f6 | refine Fin'.vb ?_ | refine Fin'.vi ?_ | refine Fin'.agg ?_)))
  | true =>
    rw [h1] at k1
    by_cases hl : l.length ≤ 30
    · cases hr : repB r with
      | true => exact once_loop r l h1 hl hr
      | false =>
        rw [hr] at k3
        have k3 : HasSpec Tryz.prog 26 [.agg r.cs] (PV.int 2) := k3
        refine ⟨?_⟩; refine Spec.ofR (h := fun F w0 => ?_)
        repeat' ((conv => whnf); first | refine Q.E ?_ | (refine Stk.both (fun hb => ?_) (fun hb => ?_) <;> (try simp only [lE] at hb))); all_goals (conv => whnf)
        ((refine FinK.of (h := ?_)); (repeat' (first | exact FinL.nil | refine FinL.cons ?_ ?_ | refine Fin'.tup ?_ | exact Q.f3 | exact Q.f4 | exact Q.f5 | exact Q.f6 | refine Fin'.vb ?_ | refine Fin'.vi ?_ | refine Fin'.agg ?_)))
    · refine ⟨?_⟩; refine Spec.ofR (h := fun F w0 => ?_)
      repeat' ((conv => whnf); first | refine Q.E ?_ | (refine Stk.both (fun hb => ?_) (fun hb => ?_) <;> (try simp only [lE] at hb))); all_goals (conv => whnf)
      ((refine FinK.of (h := ?_)); (repeat' (first | exact FinL.nil | refine FinL.cons ?_ ?_ | refine Fin'.tup ?_ | exact Q.f3 | exact Q.f4 | exact Q.f5 | exact Q.f6 | refine Fin'.vb ?_ | refine Fin'.vi ?_ | refine Fin'.agg ?_)))
end Go.Proofs.YtbjepdfnmbdplaaGreat
end
