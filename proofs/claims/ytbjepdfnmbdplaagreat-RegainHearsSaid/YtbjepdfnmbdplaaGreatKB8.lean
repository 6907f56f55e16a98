/- Texts joined by wip/gen/kpack.py: D24 U29 U57 U30 U58 D32 D33 D35 U60 U63 S18 U31. -/
import Derived.Test.YtbjepdfnmbdplaaGreatKB7
section
namespace Go.Proofs.YtbjepdfnmbdplaaGreat
open Go.RowKit
set_option linter.unusedSimpArgs false
set_option linter.unusedVariables false
set_option maxRecDepth 100000
theorem ents_nil : entsB [] = true := ents_pw.2 ⟨by simp, by simp, by simp⟩
theorem ents_one {e : Ent} (h : entB e = true) : entsB [e] = true := ents_pw.2 ⟨by simp, by simpa using h, by simp⟩
theorem newRep (s : Int) (hs : 1 ≤ s ∧ s ≤ 3) : repB (newRpl s) = true := by
  have h1 : numsB (newRpl s) = true := by
    unfold numsB newRpl
    rw [Bool.and_eq_true]
    exact ⟨decide_eq_true (by simp only; omega), rfl⟩
  have h2 : cmdB (newRpl s) = true := by
    unfold cmdB
    show (entsB [] && true) = true
    rw [ents_nil]
    rfl
  unfold repB
  rw [h1, h2]
  rfl
theorem one_put {r : Rpl} {l : List Ent} {e : Ent} (hr : repB r = true) (he : r.entries = l) (hl : l = [] ∨ ∃ x, l = [x] ∧ x.id = e.id ∧ entB x = true) (h1 : entB e = true) (h2 : 1 ≤ selfI e.id ∧ selfI e.id ≤ r.n) (h3 : doneAt r e.id = false) : rputX r e = 0 ∧ putE r.entries e = [e] := by
  subst he
  have hd : ¬ (doneAt r e.id = true ∧ e.phase ≠ 6) := fun h => by rw [h3] at h; cases h.1
  rw [rputX_put ⟨hr, h2⟩ hd]
  rcases hl with hl | ⟨x, hl, hx, h4⟩
  · rw [hl]
    refine ⟨?_, rfl⟩
    unfold putX
    rw [if_neg (not_not_intro ⟨ents_nil, h1⟩), if_neg (by simp [findB]), if_pos (by simp)]
  · rw [hl]
    have hf : findB [x] e.id = true := by simp [findB, isId, hx]
    refine ⟨?_, ?_⟩
    · unfold putX
      rw [if_neg (not_not_intro ⟨ents_one h4, h1⟩), if_pos hf]
    · unfold putE
      rw [if_pos hf, show posE [x] e.id = 0 from by simp [posE, hx]]
      rfl
def hiP : ByteArray := ⟨#[104, 105]⟩
def accM : Msg := ⟨3, 1, 11, 5, 1, 0, 0, 3, hiP, 0, 0, [], [], 0⟩
def eN : Ent := ⟨11, 1, 3, 0, 0, 0, 0, 0, hiP, []⟩
def eA : Ent := ⟨11, 1, 3, 5, 1, 1, 0, 0, hiP, []⟩
def eC : Ent := ⟨11, 5, 3, 5, 1, 1, 0, 0, hiP, []⟩
def e1 : Ent := ⟨11, 2, 3, 5, 1, 1, 0, 0, hiP, [⟨2, 1, 1, 0, 0, 0⟩]⟩
def e2 : Ent := ⟨11, 2, 3, 5, 1, 1, 0, 0, hiP, [⟨2, 1, 1, 0, 0, 0⟩, ⟨2, 2, 1, 0, 0, 0⟩]⟩
def e8 : Ent := ⟨11, 2, 3, 5, 1, 1, 9, 0, hiP, [⟨2, 1, 1, 0, 0, 0⟩]⟩
def oneR (s : Int) (e : Ent) (c : Int) : Rpl := { newRpl s with entries := [e], clock := c }
theorem oneRep {s : Int} (hs : 1 ≤ s ∧ s ≤ 3) {e : Ent} (h : entB e = true) (hi : selfI e.id ≤ 3) {c : Int} (hc : 0 ≤ c ∧ c ≤ 1000000) : repB (oneR s e c) = true :=
  rep_with (newRep s hs) (ents_one h) (by intro x hx; rw [List.mem_singleton] at hx; subst hx; exact hi) hc.1 hc.2
theorem aN : entB eN = true := by decide
theorem aA : entB eA = true := by decide
theorem a1 : entB e1 = true := by decide
theorem a2 : entB e2 = true := by decide
theorem hears_of {r : Rpl} {m : Msg} (h1 : repB r = true) (h2 : msgB m = true) (h3 : m.fr ≤ r.n ∧ m.fr ≠ r.self ∧ selfI m.id ≤ r.n ∧ m.quorum < 2 ^ r.n.toNat) : hearsB r m = true := by
  unfold hearsB
  rw [h1, h2, decide_eq_true h3]
  rfl
theorem doneB_no {r : Rpl} {id : Int} (h : doneAt r id = false) : doneB r id = false := by unfold doneB; rw [h, Bool.and_false]
theorem lrn_old {r : Rpl} {id q : Int} {p : ByteArray} {e : Ent} (hr : repB r = true) (hd : doneAt r id = false) (hf : findB r.entries id = true) (ht : findT r.entries id = e) : lrnB r id q p = true ∧ lrnR r id q p = r ∧ lrnE r id q p = e := by
  have h : repB r = true ∧ doneB r id = false := ⟨hr, doneB_no hd⟩
  exact ⟨(if_pos h).trans (if_pos hf), (if_pos h).trans (if_pos hf), (if_pos h).trans ((if_pos hf).trans ht)⟩
theorem lrn_new {r : Rpl} {id q : Int} {p : ByteArray} (hr : repB r = true) (hd : doneAt r id = false) (hf : findB r.entries id = false) (he : entB (.new id q p) = true) (hx : rputX r (.new id q p) = 0) : lrnB r id q p = true ∧ lrnR r id q p = { r with entries := putE r.entries (.new id q p) } ∧ lrnE r id q p = .new id q p := by
  have hn : ¬ findB r.entries id = true := by rw [hf]; simp
  have h : repB r = true ∧ doneB r id = false := ⟨hr, doneB_no hd⟩
  exact ⟨(if_pos h).trans ((if_neg hn).trans (if_pos ⟨he, hx⟩)), (if_pos h).trans ((if_neg hn).trans ((if_pos he).trans (rputR_yes hx))), (if_pos h).trans ((if_neg hn).trans (if_pos ⟨he, hx⟩))⟩
theorem one_puts {s c : Int} (hs : 1 ≤ s ∧ s ≤ 3) (hc : 0 ≤ c ∧ c ≤ 1000000) {x e : Ent} (hx : entB x = true) (he : entB e = true) (h1 : x.id = 11) (h2 : e.id = 11) : rputX (oneR s x c) e = 0 ∧ putE (oneR s x c).entries e = [e] :=
  one_put (oneRep hs hx (by rw [h1]; decide) hc) rfl (.inr ⟨x, rfl, by rw [h1, h2], hx⟩) he (by rw [h2]; exact ⟨by decide, show selfI 11 ≤ 3 by decide⟩) (by rw [h2]; rfl)
theorem one_bmp {s c t : Int} (hs : 1 ≤ s ∧ s ≤ 3) (hc : 0 ≤ c ∧ c ≤ 1000000) {x e : Ent} (hx : entB x = true) (he : entB e = true) (h1 : x.id = 11) (h2 : e.id = 11) : bmpR (oneR s x c) e t = oneR s e (bumpI c t) := by
  obtain ⟨h3, h4⟩ := one_puts hs hc hx he h1 h2
  unfold bmpR
  rw [if_pos h3, h4]
  rfl
theorem f1 : onAcc (newRpl 2) accM = (oneR 2 eA 5, [⟨1, ⟨4, 2, 11, 0, 1, 0, 0, 0, noByte, 0, 0, [], [], 0⟩⟩]) := by
  have hr := newRep 2 (by omega)
  obtain ⟨p1, p2⟩ := one_put (r := newRpl 2) (e := eN) hr rfl (.inl rfl) aN ⟨by decide, by decide⟩ rfl
  obtain ⟨l1, l2, l3⟩ := lrn_new (r := newRpl 2) (id := 11) (q := 3) (p := hiP) hr rfl rfl aN p1
  have l2' : lrnR (newRpl 2) 11 3 hiP = oneR 2 eN 0 := by rw [l2, show Ent.new 11 3 hiP = eN from rfl, p2]; rfl
  have l3' : lrnE (newRpl 2) 11 3 hiP = eN := l3
  obtain ⟨q1, q2⟩ := one_puts (s := 2) (c := 0) (by omega) (by omega) aN aA rfl rfl
  unfold onAcc
  rw [if_pos ⟨by decide, by decide, hears_of hr (by decide) (by decide), l1⟩]
  show (if settB (lrnE (newRpl 2) 11 3 hiP).phase = true then _ else _) = _
  rw [show lrnE (newRpl 2) accM.id accM.quorum accM.payload = eN from l3', show lrnR (newRpl 2) accM.id accM.quorum accM.payload = oneR 2 eN 0 from l2', l3']
  rw [if_neg (by decide), if_neg (by decide), show accE eN accM.t accM.bal = eA from rfl, if_pos ⟨by decide, q1⟩, one_bmp (by omega) (by omega) aN aA rfl rfl]
  rfl
def m4 : Msg := ⟨4, 2, 11, 0, 1, 0, 0, 0, noByte, 0, 0, [], [], 0⟩
def m5 : Msg := ⟨5, 1, 11, 5, 0, 0, 0, 3, hiP, 0, 0, [], [], 0⟩
theorem cmt_one {s c t : Int} (hs : 1 ≤ s ∧ s ≤ 3) (hc : 0 ≤ c ∧ c ≤ 1000000) {x e : Ent} (hx : entB x = true) (he : entB e = true) (h1 : x.id = 11) (h2 : e.id = 11) (hX : commX e t = 0) (he2 : entB (commE e t) = true) (h3 : (commE e t).id = 11) : cmtB (oneR s x c) e t = true ∧ cmtR (oneR s x c) e t = oneR s (commE e t) (bumpI c t) := by
  obtain ⟨h4, h5⟩ := one_puts hs hc hx he2 h1 h3
  refine ⟨(if_pos hX).trans ?_, (if_pos hX).trans (one_bmp hs hc hx he2 h1 h3)⟩
  unfold bmpB
  exact @decide_eq_true _ (_) h4
theorem f2 : onAcd (oneR 1 e1 0) m4 = (oneR 1 { e2 with phase := 5, acks := [] } 5, [⟨2, m5⟩, ⟨3, m5⟩]) := by
  have hr := oneRep (s := 1) (c := 0) (by omega) a1 (by decide) (by omega)
  obtain ⟨q1, q2⟩ := one_puts (s := 1) (c := 0) (by omega) (by omega) a1 a2 rfl rfl
  obtain ⟨c1, c2⟩ := cmt_one (s := 1) (c := 0) (t := 5) (by omega) (by omega) a2 a2 rfl rfl (by decide) (by decide) rfl
  have hr2 := oneRep (s := 1) (e := commE e2 5) (c := 5) (by omega) (by decide) (by decide) (by omega)
  have hput : rputR (oneR 1 e1 0) e2 = oneR 1 e2 0 := by rw [rputR_yes q1, q2]; rfl
  have hack : ackR e1 (accA m4) = e2 := rfl
  unfold onAcd
  rw [if_pos ⟨by decide, hears_of hr (by decide) (by decide), by decide, by decide⟩]
  show (if openB e1.phase = true ∧ e1.bal = m4.bal ∧ e1.abal = m4.bal ∧ ackB e1 (accA m4) = true ∧ rputX (oneR 1 e1 0) (ackR e1 (accA m4)) = 0 then (if wonB (ackR e1 (accA m4)) m4.bal (oneR 1 e1 0).f = true then (if cmtB (rputR (oneR 1 e1 0) (ackR e1 (accA m4))) (ackR e1 (accA m4)) (ackR e1 (accA m4)).t = true then (cmtR (rputR (oneR 1 e1 0) (ackR e1 (accA m4))) (ackR e1 (accA m4)) (ackR e1 (accA m4)).t, allO (cmtR (rputR (oneR 1 e1 0) (ackR e1 (accA m4))) (ackR e1 (accA m4)) (ackR e1 (accA m4)).t) (tolM (rputR (oneR 1 e1 0) (ackR e1 (accA m4))) (ackR e1 (accA m4)))) else ((oneR 1 e1 0), [])) else (rputR (oneR 1 e1 0) (ackR e1 (accA m4)), [])) else ((oneR 1 e1 0), [])) = _
  rw [hack, hput, if_pos ⟨by decide, by decide, by decide, by decide, q1⟩, if_pos (by decide), show e2.t = 5 from rfl, if_pos c1, c2, show bumpI 0 5 = 5 from rfl]
  unfold allO
  rw [if_pos hr2]
  rfl
theorem f3 : onCmt (oneR 2 eA 5) m5 = (oneR 2 eC 5, []) := by
  have hr := oneRep (s := 2) (c := 5) (by omega) aA (by decide) (by omega)
  obtain ⟨l1, l2, l3⟩ := lrn_old (r := oneR 2 eA 5) (id := 11) (q := 3) (p := hiP) (e := eA) hr rfl rfl rfl
  obtain ⟨c1, c2⟩ := cmt_one (s := 2) (c := 5) (t := 5) (by omega) (by omega) aA aA rfl rfl (by decide) (by decide) rfl
  unfold onCmt
  rw [if_pos ⟨by decide, hears_of hr (by decide) (by decide), l1⟩]
  show (if settB (lrnE (oneR 2 eA 5) 11 3 hiP).phase = true then (lrnR (oneR 2 eA 5) 11 3 hiP, []) else if cmtB (lrnR (oneR 2 eA 5) 11 3 hiP) (lrnE (oneR 2 eA 5) 11 3 hiP) 5 = true then (cmtR (lrnR (oneR 2 eA 5) 11 3 hiP) (lrnE (oneR 2 eA 5) 11 3 hiP) 5, []) else (oneR 2 eA 5, [])) = _
  rw [l2, l3, if_neg (by decide), if_pos c1, c2]
  rfl
end Go.Proofs.YtbjepdfnmbdplaaGreat
end
section
namespace Go.Proofs.YtbjepdfnmbdplaaGreat
open Go.RowKit
set_option linter.unusedSimpArgs false
set_option linter.unusedVariables false
set_option maxRecDepth 100000
set_option maxHeartbeats 4000000
end Go.Proofs.YtbjepdfnmbdplaaGreat
end
section
namespace Go.Proofs.YtbjepdfnmbdplaaGreat
open Go.RowKit
set_option linter.unusedSimpArgs false
set_option linter.unusedVariables false
set_option maxRecDepth 100000
set_option maxHeartbeats 4000000
def eNW : List PV := [PV.int 11, PV.int 1, PV.int 3, PV.int 0, PV.int 0, PV.int 0, PV.int 0, PV.int 0, .v (.string hiP), .v (.slice none 0 0)]
def oneW (s c : Int) : List PV := [PV.int 3, PV.int 1, PV.int s, PV.int c, PV.int 0, PV.int 0, PV.int 0, .sl 10 [eNW], .sl 2 [], PV.knos [kno0, kno0, kno0], PV.tab tab3, PV.ints [0, 0, 0], PV.dons [[], [], []], PV.int 0, PV.int 0, PV.int 0, .sl 4 [], .sl 3 []]
theorem eNW_sub : SubXL eNW eN.cs := .cons (.refl _) (.cons (.refl _) (.cons (.refl _) (.cons (.refl _) (.cons (.refl _) (.cons (.refl _) (.cons (.refl _) (.cons (.refl _) (.cons (.refl _) (.cons (.nil _) .nil)))))))))
theorem oneW_sub (s c : Int) : SubXL (oneW s c) (oneR s eN c).cs :=
  .cons (.refl _) (.cons (.refl _) (.cons (.refl _) (.cons (.refl _) (.cons (.refl _) (.cons (.refl _) (.cons (.refl _) (.cons (SubX.sl (.cons eNW_sub .nil)) (.cons (.refl _) (.cons (.refl _) (.cons (.refl _) (.cons (.refl _) (.cons (.refl _) (.cons (.refl _) (.cons (.refl _) (.cons (.refl _) (.cons (.refl _) (.cons (.refl _) .nil)))))))))))))))))
theorem with28_spec (s c : Int) (hs : 1 ≤ s ∧ s ≤ 3) : HasSpec Tryz.prog 97 [PV.int s, PV.int c] (.agg (oneR s eN c).cs) := by
  refine HasSpec.mono (r := .agg (oneW s c)) ?_ (SubX.agg (oneW_sub s c))
  have j1 := new25_spec s hs
  unfold oneW eNW hiP
  refine ⟨?_⟩; refine Spec.ofR (h := fun F w0 => ?_)
  repeat' ((conv => whnf); first | refine Q.E ?_ | (refine Stk.both (fun hb => ?_) (fun hb => ?_) <;> (try simp only [lE] at hb))); all_goals (conv => whnf)
  (refine Q.r6 (h := ?_); repeat' (first | exact Q.r0 | refine Q.r1 ?_ ?_ | refine Q.r2 ?_ | exact Q.r7 | refine Q.r3 ?_ | refine Q.r4 ?_ | refine Q.r5 ?_))
end Go.Proofs.YtbjepdfnmbdplaaGreat
end
section
namespace Go.Proofs.YtbjepdfnmbdplaaGreat
open Go.RowKit
set_option linter.unusedSimpArgs false
set_option linter.unusedVariables false
set_option maxRecDepth 100000
set_option maxHeartbeats 4000000
end Go.Proofs.YtbjepdfnmbdplaaGreat
end
section
namespace Go.Proofs.YtbjepdfnmbdplaaGreat
open Go.RowKit
set_option linter.unusedSimpArgs false
set_option linter.unusedVariables false
set_option maxRecDepth 100000
set_option maxHeartbeats 4000000
theorem regainhears_of (j0 : HasSpec Tryz.prog 33 [] (.v (.bool true))) (r : Rpl) (m : Msg) (id : Int) : HasSpec Tryz.prog 6 [.agg r.cs, .agg m.cs, PV.int id] (.v (.bool true)) := by
  have k1 := fewrep_spec r
  have k2 := fewmsg_spec m
  cases h1 : fewR r with
  | false =>
    rw [h1] at k1
    refine ⟨?_⟩; refine Spec.ofR (h := fun F w0 => ?_)
    repeat' ((conv => whnf); first | refine Q.E ?_ | (refine Stk.both (fun hb => ?_) (fun hb => ?_) <;> (try simp only [lE] at hb))); all_goals (conv => whnf)
    all_goals (refine Q.r6 (h := ?_); repeat' (first | exact Q.r0 | refine Q.r1 ?_ ?_ | refine Q.r2 ?_ | exact Q.r7 | refine Q.r3 ?_ | refine Q.r4 ?_ | refine Q.r5 ?_))
  | true =>
    rw [h1] at k1
    cases h2 : fewM m with
    | false =>
      rw [h2] at k2
      refine ⟨?_⟩; refine Spec.ofR (h := fun F w0 => ?_)
      repeat' ((conv => whnf); first | refine Q.E ?_ | (refine Stk.both (fun hb => ?_) (fun hb => ?_) <;> (try simp only [lE] at hb))); all_goals (conv => whnf)
      all_goals (refine Q.r6 (h := ?_); repeat' (first | exact Q.r0 | refine Q.r1 ?_ ?_ | refine Q.r2 ?_ | exact Q.r7 | refine Q.r3 ?_ | refine Q.r4 ?_ | refine Q.r5 ?_))
    | true =>
      rw [h2] at k2
      have a1 := start28_spec r id
      have b1 := refstart28_spec r id
      have a2 := rescue28_spec r m
      have b2 := refrescue28_spec r m
      have a3 := rescued28_spec r m
      have b3 := refrescued28_spec r m
      generalize (onSta r id).1 = s1 at *
      generalize (onSta r id).2 = o1 at *
      generalize (onRsc r m).1 = s2 at *
      generalize (onRsc r m).2 = o2 at *
      generalize (onRsd r m).1 = s3 at *
      generalize (onRsd r m).2 = o3 at *
      have c1 := repself_spec s1
      have c2 := repself_spec s2
      have c3 := repself_spec s3
      have d1 := outself_spec o1
      have d2 := outself_spec o2
      have d3 := outself_spec o3
      refine ⟨?_⟩; refine Spec.ofR (h := fun F w0 => ?_)
      repeat' ((conv => whnf); first | refine Q.E ?_ | (refine Stk.both (fun hb => ?_) (fun hb => ?_) <;> (try simp only [lE] at hb))); all_goals (conv => whnf)
      (refine Q.r6 (h := ?_); repeat' (first | exact Q.r0 | refine Q.r1 ?_ ?_ | refine Q.r2 ?_ | exact Q.r7 | refine Q.r3 ?_ | refine Q.r4 ?_ | refine Q.r5 ?_))
theorem regainpromises_of (j0 : HasSpec Tryz.prog 33 [] (.v (.bool true))) (r : Rpl) (e : Ent) (b : Int) : HasSpec Tryz.prog 7 [.agg r.cs, .agg e.cs, PV.int b] (.v (.bool true)) := by
  have k1 := fewrep_spec r
  have k2 := fewent_spec e
  cases h1 : fewR r with
  | false =>
    rw [h1] at k1
    refine ⟨?_⟩; refine Spec.ofR (h := fun F w0 => ?_)
    repeat' ((conv => whnf); first | refine Q.E ?_ | (refine Stk.both (fun hb => ?_) (fun hb => ?_) <;> (try simp only [lE] at hb))); all_goals (conv => whnf)
    all_goals (refine Q.r6 (h := ?_); repeat' (first | exact Q.r0 | refine Q.r1 ?_ ?_ | refine Q.r2 ?_ | exact Q.r7 | refine Q.r3 ?_ | refine Q.r4 ?_ | refine Q.r5 ?_))
  | true =>
    rw [h1] at k1
    cases h2 : fewE e with
    | false =>
      rw [h2] at k2
      refine ⟨?_⟩; refine Spec.ofR (h := fun F w0 => ?_)
      repeat' ((conv => whnf); first | refine Q.E ?_ | (refine Stk.both (fun hb => ?_) (fun hb => ?_) <;> (try simp only [lE] at hb))); all_goals (conv => whnf)
      all_goals (refine Q.r6 (h := ?_); repeat' (first | exact Q.r0 | refine Q.r1 ?_ ?_ | refine Q.r2 ?_ | exact Q.r7 | refine Q.r3 ?_ | refine Q.r4 ?_ | refine Q.r5 ?_))
    | true =>
      rw [h2] at k2
      have a1 := promise28_spec r e b
      have b1 := refpromise28_spec r e b
      generalize p28R r e b = s1 at *
      generalize p28E r e b = p1 at *
      have c1 := repself_spec s1
      have c2 := refentsame_spec p1 p1
      rw [Ent.same_iff.2 rfl] at c2
      cases hB : p28B r e b with
      | false =>
        rw [hB] at a1 b1
        refine ⟨?_⟩; refine Spec.ofR (h := fun F w0 => ?_)
        repeat' ((conv => whnf); first | refine Q.E ?_ | (refine Stk.both (fun hb => ?_) (fun hb => ?_) <;> (try simp only [lE] at hb))); all_goals (conv => whnf)
        (refine Q.r6 (h := ?_); repeat' (first | exact Q.r0 | refine Q.r1 ?_ ?_ | refine Q.r2 ?_ | exact Q.r7 | refine Q.r3 ?_ | refine Q.r4 ?_ | refine Q.r5 ?_))
      | true =>
        rw [hB] at a1 b1
        refine ⟨?_⟩; refine Spec.ofR (h := fun F w0 => ?_)
        repeat' ((conv => whnf); first | refine Q.E ?_ | (refine Stk.both (fun hb => ?_) (fun hb => ?_) <;> (try simp only [lE] at hb))); all_goals (conv => whnf)
        (refine Q.r6 (h := ?_); repeat' (first | exact Q.r0 | refine Q.r1 ?_ ?_ | refine Q.r2 ?_ | exact Q.r7 | refine Q.r3 ?_ | refine Q.r4 ?_ | refine Q.r5 ?_))
end Go.Proofs.YtbjepdfnmbdplaaGreat
end
section
namespace Go.Proofs.YtbjepdfnmbdplaaGreat
open Go.RowKit
set_option linter.unusedSimpArgs false
set_option linter.unusedVariables false
set_option maxRecDepth 100000
theorem one_time {s c : Int} {e : Ent} (hr : repB (oneR s e c) = true) (hc : 0 ≤ c ∧ c + 1 ≤ 1000000) : timX (oneR s e c) 11 0 = 0 ∧ timT (oneR s e c) 11 0 = c + 1 ∧ timR (oneR s e c) 11 0 = { oneR s e c with clock := c + 1, own := [⟨c + 1, 11⟩] } := by
  have hk : clkB c 0 [] = true := by
    unfold clkB
    rw [decide_eq_true (show (0 : Int) ≤ 0 ∧ 0 ≤ c ∧ c ≤ 1000000 by omega)]
    rfl
  have hm : max 0 (c + 1) = c + 1 := by omega
  have hX : propsX c [] 11 0 = 0 := propsX_0 ⟨hk, by decide, by omega, by omega⟩ rfl (by omega)
  have hT : timX (oneR s e c) 11 0 = 0 := (if_pos hr).trans hX
  obtain ⟨h1, h2⟩ := props_yes hX
  rw [hm] at h1 h2
  obtain ⟨h3, h4⟩ := tim_yes hT
  refine ⟨hT, h4.trans h1, h3.trans ?_⟩
  show { oneR s e c with clock := propsT c [] 11 0, own := propsL c [] 11 0 } = _
  rw [h1, h2]
  rfl
def eP (t b : Int) : Ent := ⟨11, 4, 3, t, b, 0, 0, 0, hiP, []⟩
theorem aP5 : entB (eP 5 5) = true := by decide
theorem aP9 : entB (eP 9 5) = true := by decide
theorem needN : needsB eN = true := by decide
theorem g1a : rscI (oneR 2 eN 4) eN = 5 ∧ rscX (oneR 2 eN 4) eN = 0 := by decide
theorem g1b : promE eN 5 5 = eP 5 5 ∧ promX eN 5 5 = 0 := ⟨rfl, by decide⟩
theorem g2b : promE eN 5 9 = eP 9 5 ∧ promX eN 5 9 = 0 := ⟨rfl, by decide⟩
end Go.Proofs.YtbjepdfnmbdplaaGreat
end
section
namespace Go.Proofs.YtbjepdfnmbdplaaGreat
open Go.RowKit
set_option linter.unusedSimpArgs false
set_option linter.unusedVariables false
theorem clk_prop {now floor T id : Int} {own : List Att} (h : clkB now floor own = true) (hid : idB id = true) (hno : own.any (sameId id) = false) (h1 : now < T) (h2 : T ≤ 1000000) : clkB T floor (own ++ [⟨T, id⟩]) = true := by
  obtain ⟨k1, k2, k3⟩ := clk_le h
  have hp : pref (ownP floor now) own = true := by
    unfold clkB at h
    rw [Bool.and_eq_true] at h
    exact h.2
  unfold clkB
  rw [decide_eq_true (show 0 ≤ floor ∧ floor ≤ T ∧ T ≤ 1000000 by omega), Bool.true_and]
  refine pref_iff.2 fun i hi => ?_
  rw [List.length_append, List.length_singleton] at hi
  by_cases hl : i < own.length
  · rw [List.getElem_append_left hl, List.take_append_of_le_length (by omega)]
    have := ownP_iff.1 (pref_iff.1 hp i hl)
    exact ownP_iff.2 ⟨⟨this.1.1, this.1.2.1, by omega, this.1.2.2.2⟩, this.2⟩
  · obtain rfl : i = own.length := by omega
    rw [List.take_left]
    have e : (own ++ [⟨T, id⟩])[own.length] = (⟨T, id⟩ : Att) := by simp
    rw [e]
    refine ownP_iff.2 ⟨⟨by show floor < T; omega, ?_, Int.le_refl _, hid⟩, hno⟩
    show lastI Att.t floor own < T
    by_cases h0 : own.length = 0
    · rw [List.eq_nil_of_length_eq_zero h0]
      show floor < T
      omega
    · have h3 := lastI_pos Att.t floor (l := own) (i := own.length) (Nat.le_refl _) (by omega)
      rw [List.take_length] at h3
      rw [h3]
      have := ownP_iff.1 (pref_iff.1 hp (own.length - 1) (by omega))
      omega
theorem rep_own {r : Rpl} {c : Int} {l : List Att} (h : repB r = true) (hc : clkB c r.floor l = true) : repB { r with clock := c, own := l } = true := by
  obtain ⟨a1, a2, a3, a4⟩ := rep_parts h
  obtain ⟨b1, b2⟩ := nums_p a1
  have c1 : numsB { r with clock := c, own := l } = true := by
    rw [nums_yes (r := { r with clock := c, own := l }) b1]
    exact hc
  unfold repB
  rw [c1, show cmdB { r with clock := c, own := l } = cmdB r from rfl, show hrsB { r with clock := c, own := l } = hrsB r from rfl, show finB { r with clock := c, own := l } = finB r from rfl, a2, a3, a4]
  rfl
end Go.Proofs.YtbjepdfnmbdplaaGreat
end
section
namespace Go.Proofs.YtbjepdfnmbdplaaGreat
open Go.RowKit
set_option linter.unusedSimpArgs false
set_option linter.unusedVariables false
set_option maxRecDepth 100000
def ownR (s : Int) (e : Ent) (c : Int) (l : List Att) : Rpl := { oneR s e c with own := l }
theorem ownRep {s : Int} (hs : 1 ≤ s ∧ s ≤ 3) {e : Ent} (h : entB e = true) (hi : selfI e.id ≤ 3) {c t : Int} (hc : 1 ≤ t ∧ t ≤ c ∧ c ≤ 1000000) : repB (ownR s e c [⟨t, 11⟩]) = true := by
  have h0 : clkB (t - 1) 0 [] = true := by
    unfold clkB
    rw [decide_eq_true (show (0 : Int) ≤ 0 ∧ 0 ≤ t - 1 ∧ t - 1 ≤ 1000000 by omega)]
    rfl
  have h1 : clkB t 0 ([] ++ [⟨t, 11⟩]) = true := clk_prop h0 (by decide) rfl (by omega) (by omega)
  have h2 : clkB c 0 [⟨t, 11⟩] = true := clk_later h1 hc.2.1 hc.2.2
  exact rep_own (r := oneR s e c) (oneRep hs h hi (by omega)) h2
theorem p28_one {s c b : Int} (hs : 1 ≤ s ∧ s ≤ 3) (hc : 0 ≤ c ∧ c + 1 ≤ 1000000) (h1 : promX eN b (c + 1) = 0) (h2 : promE eN b (c + 1) = eP (c + 1) b) (h3 : entB (eP (c + 1) b) = true) : p28B (oneR s eN c) eN b = true ∧ p28R (oneR s eN c) eN b = ownR s (eP (c + 1) b) (c + 1) [⟨c + 1, 11⟩] ∧ p28E (oneR s eN c) eN b = eP (c + 1) b := by
  have hr := oneRep hs aN (by decide) (c := c) (by omega)
  obtain ⟨t1, t2, t3⟩ := one_time hr hc
  obtain ⟨n1, n2, n3⟩ := p28_ne (r := oneR s eN c) needN
  rw [show eN.id = 11 from rfl] at n1 n2 n3
  rw [t3] at n1
  rw [t2] at n2
  rw [t1] at n3
  have hP : p28P (oneR s eN c) eN b = eP (c + 1) b := by
    unfold p28P
    rw [n2, h2]
  have hr2 : repB { oneR s eN c with clock := c + 1, own := [⟨c + 1, 11⟩] } = true := ownRep hs aN (by decide) (c := c + 1) (t := c + 1) (by omega)
  obtain ⟨q1, q2⟩ := one_put (r := { oneR s eN c with clock := c + 1, own := [⟨c + 1, 11⟩] }) (e := eP (c + 1) b) hr2 rfl (.inr ⟨eN, rfl, rfl, aN⟩) h3 ⟨show 1 ≤ selfI 11 by decide, show selfI 11 ≤ 3 by decide⟩ rfl
  obtain ⟨y1, y2, y3⟩ := p28_yes (r := oneR s eN c) (e := eN) (b := b) ⟨hr, aN, n3, by rw [n2]; exact h1, by rw [n1, hP]; exact q1⟩
  refine ⟨y1, ?_, y3.trans hP⟩
  rw [y2, n1, hP, rputR_yes q1, q2]
  rfl
def eS : Ent := ⟨11, 4, 3, 5, 5, 0, 0, 0, hiP, [⟨3, 2, 5, 5, 0, 4⟩]⟩
def eU : Ent := ⟨11, 4, 3, 5, 5, 0, 0, 0, hiP, [⟨3, 2, 5, 5, 0, 4⟩, ⟨3, 3, 5, 9, 0, 4⟩]⟩
def eT : Ent := ⟨11, 4, 3, 9, 5, 5, 0, 0, hiP, [⟨2, 2, 5, 0, 0, 0⟩]⟩
theorem aS : entB eS = true := by decide
theorem aU : entB eU = true := by decide
theorem aT : entB eT = true := by decide
def m6 : Msg := ⟨6, 2, 11, 0, 5, 0, 0, 3, hiP, 0, 0, [], [], 0⟩
def m7 : Msg := ⟨7, 3, 11, 9, 5, 0, 4, 0, noByte, 0, 0, [], [], 0⟩
def m3 : Msg := ⟨3, 2, 11, 9, 5, 0, 0, 3, hiP, 0, 0, [], [], 0⟩
def at5 : List Att := [⟨5, 11⟩]
def at9 : List Att := [⟨9, 11⟩]
theorem own_puts {s c t : Int} (hs : 1 ≤ s ∧ s ≤ 3) (hc : 1 ≤ t ∧ t ≤ c ∧ c ≤ 1000000) {x e : Ent} (hx : entB x = true) (he : entB e = true) (h1 : x.id = 11) (h2 : e.id = 11) : rputX (ownR s x c [⟨t, 11⟩]) e = 0 ∧ putE (ownR s x c [⟨t, 11⟩]).entries e = [e] :=
  one_put (ownRep hs hx (by rw [h1]; decide) hc) rfl (.inr ⟨x, rfl, by rw [h1, h2], hx⟩) he (by rw [h2]; exact ⟨by decide, show selfI 11 ≤ 3 by decide⟩) (by rw [h2]; rfl)
theorem g1 : onSta (oneR 2 eN 4) 11 = (ownR 2 eS 5 at5, [⟨1, m6⟩, ⟨3, m6⟩]) := by
  have hr := oneRep (s := 2) (e := eN) (c := 4) (by omega) aN (by decide) (by omega)
  obtain ⟨b1, b2, b3⟩ := p28_one (s := 2) (c := 4) (b := 5) (by omega) (by omega) g1b.2 g1b.1 aP5
  rw [show (4 : Int) + 1 = 5 from rfl] at b2 b3
  obtain ⟨i1, i2⟩ := g1a
  have hf : findT (oneR 2 eN 4).entries 11 = eN := rfl
  have hk : ackR (eP 5 5) (rscA 2 (eP 5 5)) = eS := rfl
  have hS : staE (oneR 2 eN 4) eN = eS := by
    unfold staE
    rw [i1, b3]
    exact hk
  obtain ⟨q1, q2⟩ := own_puts (s := 2) (c := 5) (t := 5) (x := eP 5 5) (e := eS) (by omega) (by omega) aP5 aS rfl rfl
  have hR : staR (oneR 2 eN 4) eN = ownR 2 eS 5 at5 := by
    unfold staR
    rw [i1, b2, hS, rputR_yes q1, q2]
    rfl
  have hr3 : repB (ownR 2 eS 5 at5) = true := ownRep (by omega) aS (by decide) (by omega)
  rw [sta_yes (by rw [hf]; exact ⟨hr, rfl, by decide, i2, by rw [i1]; exact b1, by rw [i1, b3]; decide, by rw [i1, b2, hS]; exact q1⟩), hf, hR, hS, i1]
  unfold allO
  rw [if_pos hr3]
  rfl
theorem g2 : onRsc (oneR 3 eN 8) m6 = (ownR 3 (eP 9 5) 9 at9, [⟨2, m7⟩]) := by
  have hr := oneRep (s := 3) (e := eN) (c := 8) (by omega) aN (by decide) (by omega)
  obtain ⟨b1, b2, b3⟩ := p28_one (s := 3) (c := 8) (b := 5) (by omega) (by omega) g2b.2 g2b.1 aP9
  rw [show (8 : Int) + 1 = 9 from rfl] at b2 b3
  obtain ⟨l1, l2, l3⟩ := lrn_old (r := oneR 3 eN 8) (id := m6.id) (q := m6.quorum) (p := m6.payload) (e := eN) hr rfl rfl rfl
  unfold onRsc
  rw [if_pos ⟨rfl, hears_of hr (by decide) (by decide), by decide, by decide, l1⟩]
  dsimp only
  rw [l2, l3, if_neg (by decide), if_neg (by decide), if_neg (by decide), show m6.bal = 5 from rfl, if_pos b1, b2, b3]
  rfl
theorem g3 : onRsd (ownR 2 eS 5 at5) m7 = (ownR 2 eT 9 at5, [⟨1, m3⟩, ⟨3, m3⟩]) := by
  have hr : repB (ownR 2 eS 5 at5) = true := ownRep (by omega) aS (by decide) (by omega)
  have hr2 : repB (ownR 2 eT 9 at5) = true := ownRep (by omega) aT (by decide) (by omega)
  obtain ⟨q1, q2⟩ := own_puts (s := 2) (c := 5) (t := 5) (x := eS) (e := eU) (by omega) (by omega) aS aU rfl rfl
  obtain ⟨p1, p2⟩ := own_puts (s := 2) (c := 5) (t := 5) (x := eU) (e := eT) (by omega) (by omega) aU aT rfl rfl
  have hf : findT (ownR 2 eS 5 at5).entries m7.id = eS := rfl
  have hk : ackR eS (rsdA m7) = eU := rfl
  have hput : rputR (ownR 2 eS 5 at5) eU = ownR 2 eU 5 at5 := (rputR_yes q1).trans (by rw [q2]; rfl)
  have hrdy : readyB 3 1 [⟨3, 2, 5, 5, 0, 4⟩, ⟨3, 3, 5, 9, 0, 4⟩] = true := readyB_iff.2 ⟨by decide, fun j hj _ => by
    match j, hj with
    | 0, _ => exact ⟨rfl, by simp⟩
    | 1, _ => exact ⟨rfl, by simp⟩
    | n + 2, h => exact absurd h (by simp), by decide⟩
  have hch : chooseR 3 1 3 11 [⟨3, 2, 5, 5, 0, 4⟩, ⟨3, 3, 5, 9, 0, 4⟩] = (9, 0) := by
    unfold chooseR
    rw [if_pos ⟨hrdy, by decide +kernel, by decide, by decide⟩, if_neg (by decide), if_pos (by decide +kernel)]
    decide
  have ht1 : accX eU 9 5 = 0 ∧ ackB (accE eU 9 5) (ackA (ownR 2 eU 5 at5) 5) = true := ⟨by decide, by decide⟩
  have hT : ackR (accE eU 9 5) (ackA (ownR 2 eU 5 at5) 5) = eT := rfl
  have htk : tkB (ownR 2 eU 5 at5) eU 9 5 = true := (if_pos ht1).trans (by
    unfold bmpB
    rw [hT]
    exact @decide_eq_true _ (_) p1)
  have htr : tkR (ownR 2 eU 5 at5) eU 9 5 = ownR 2 eT 9 at5 := (if_pos ht1).trans (by
    unfold bmpR
    rw [hT, if_pos (show rputX (ownR 2 eU 5 at5) eT = 0 from p1), show putE (ownR 2 eU 5 at5).entries eT = [eT] from p2]
    rfl)
  unfold onRsd
  rw [if_pos ⟨rfl, hears_of hr (by decide) (by decide), by decide, by decide, by decide⟩]
  dsimp only
  rw [hf, hk, if_pos ⟨by decide, by decide, by decide, by decide, q1⟩, hput, show ofL eU.acks 3 m7.bal = [⟨3, 2, 5, 5, 0, 4⟩, ⟨3, 3, 5, 9, 0, 4⟩] from rfl, show (ownR 2 eS 5 at5).n = 3 from rfl, show (ownR 2 eS 5 at5).f = 1 from rfl, show eU.quorum = 3 from rfl, show eU.id = 11 from rfl, if_pos hrdy, hch, show m7.bal = 5 from rfl, if_pos ⟨rfl, htk⟩, htr]
  unfold allO
  rw [if_pos hr2]
  rfl
theorem g4 : onRsd (ownR 2 eT 9 at5) m7 = (ownR 2 eT 9 at5, []) := by
  have hr2 : repB (ownR 2 eT 9 at5) = true := ownRep (by omega) aT (by decide) (by omega)
  unfold onRsd
  rw [if_pos ⟨rfl, hears_of hr2 (by decide) (by decide), by decide, by decide, by decide⟩]
  dsimp only
  rw [if_neg]
  rintro ⟨_, _, h, _⟩
  exact h rfl
theorem g5 : onRsc (ownR 3 (eP 9 5) 9 at9) m6 = (ownR 3 (eP 9 5) 9 at9, []) := by
  have hr : repB (ownR 3 (eP 9 5) 9 at9) = true := ownRep (by omega) aP9 (by decide) (by omega)
  obtain ⟨l1, l2, l3⟩ := lrn_old (r := ownR 3 (eP 9 5) 9 at9) (id := m6.id) (q := m6.quorum) (p := m6.payload) (e := eP 9 5) hr rfl rfl rfl
  unfold onRsc
  rw [if_pos ⟨rfl, hears_of hr (by decide) (by decide), by decide, by decide, l1⟩]
  dsimp only
  rw [l2, l3, if_neg (by decide), if_neg (by decide), if_pos (show m6.bal = (eP 9 5).bal from rfl)]
theorem g6 (r : Rpl) (b : Int) : p28B r Ent.zero b = false ∧ p28R r Ent.zero b = r ∧ p28E r Ent.zero b = Ent.zero := p28_no fun h => by
  have : entB Ent.zero = false := by decide
  rw [this] at h
  exact absurd h.2.1 (by simp)
end Go.Proofs.YtbjepdfnmbdplaaGreat
end
section
namespace Go.Proofs.YtbjepdfnmbdplaaGreat
open Go.RowKit
set_option linter.unusedSimpArgs false
set_option linter.unusedVariables false
set_option maxRecDepth 100000
set_option maxHeartbeats 4000000
instance awake28_spec : HasSpec Tryz.prog 33 [] (.v (.bool true)) := by
  have w2 := with28_spec 2 4 (by omega)
  have w3 := with28_spec 3 8 (by omega)
  have j1 : HasSpec Tryz.prog 34 [.agg (oneR 2 eN 4).cs, PV.int 11] (.tup [.agg [PV.int 3, PV.int 1, PV.int 2, PV.int 5, PV.int 0, PV.int 0, PV.int 0, .sl 10 [[PV.int 11, PV.int 4, PV.int 3, PV.int 5, PV.int 5, PV.int 0, PV.int 0, PV.int 0, .v (.string hiP), .sl 6 [[PV.int 3, PV.int 2, PV.int 5, PV.int 5, PV.int 0, PV.int 4]]]], .sl 2 [[PV.int 5, PV.int 11]], PV.knos [kno0, kno0, kno0], PV.tab tab3, PV.ints [0, 0, 0], PV.dons [[], [], []], PV.int 0, PV.int 0, PV.int 0, .sl 4 [], .sl 3 []], .sl 15 [[PV.int 1, PV.int 6, PV.int 2, PV.int 11, PV.int 0, PV.int 5, PV.int 0, PV.int 0, PV.int 3, .v (.string hiP), PV.int 0, PV.int 0, .sl 2 [], .sl 1 [], PV.int 0], [PV.int 3, PV.int 6, PV.int 2, PV.int 11, PV.int 0, PV.int 5, PV.int 0, PV.int 0, PV.int 3, .v (.string hiP), PV.int 0, PV.int 0, .sl 2 [], .sl 1 [], PV.int 0]]]) := by
    have := start28_spec (oneR 2 eN 4) 11
    rw [g1] at this
    exact this
  have j2 : HasSpec Tryz.prog 36 [.agg (oneR 3 eN 8).cs, .agg [PV.int 6, PV.int 2, PV.int 11, PV.int 0, PV.int 5, PV.int 0, PV.int 0, PV.int 3, .v (.string hiP), PV.int 0, PV.int 0, .sl 2 [], .sl 1 [], PV.int 0]] (.tup [.agg [PV.int 3, PV.int 1, PV.int 3, PV.int 9, PV.int 0, PV.int 0, PV.int 0, .sl 10 [[PV.int 11, PV.int 4, PV.int 3, PV.int 9, PV.int 5, PV.int 0, PV.int 0, PV.int 0, .v (.string hiP), .sl 6 []]], .sl 2 [[PV.int 9, PV.int 11]], PV.knos [kno0, kno0, kno0], PV.tab tab3, PV.ints [0, 0, 0], PV.dons [[], [], []], PV.int 0, PV.int 0, PV.int 0, .sl 4 [], .sl 3 []], .sl 15 [[PV.int 2, PV.int 7, PV.int 3, PV.int 11, PV.int 9, PV.int 5, PV.int 0, PV.int 4, PV.int 0, .v (.string noByte), PV.int 0, PV.int 0, .sl 2 [], .sl 1 [], PV.int 0]]]) := by
    have := rescue28_spec (oneR 3 eN 8) m6
    rw [g2] at this
    exact this
  have j3 : HasSpec Tryz.prog 38 [.agg [PV.int 3, PV.int 1, PV.int 2, PV.int 5, PV.int 0, PV.int 0, PV.int 0, .sl 10 [[PV.int 11, PV.int 4, PV.int 3, PV.int 5, PV.int 5, PV.int 0, PV.int 0, PV.int 0, .v (.string hiP), .sl 6 [[PV.int 3, PV.int 2, PV.int 5, PV.int 5, PV.int 0, PV.int 4]]]], .sl 2 [[PV.int 5, PV.int 11]], PV.knos [kno0, kno0, kno0], PV.tab tab3, PV.ints [0, 0, 0], PV.dons [[], [], []], PV.int 0, PV.int 0, PV.int 0, .sl 4 [], .sl 3 []], .agg [PV.int 7, PV.int 3, PV.int 11, PV.int 9, PV.int 5, PV.int 0, PV.int 4, PV.int 0, .v (.string noByte), PV.int 0, PV.int 0, .sl 2 [], .sl 1 [], PV.int 0]] (.tup [.agg [PV.int 3, PV.int 1, PV.int 2, PV.int 9, PV.int 0, PV.int 0, PV.int 0, .sl 10 [[PV.int 11, PV.int 4, PV.int 3, PV.int 9, PV.int 5, PV.int 5, PV.int 0, PV.int 0, .v (.string hiP), .sl 6 [[PV.int 2, PV.int 2, PV.int 5, PV.int 0, PV.int 0, PV.int 0]]]], .sl 2 [[PV.int 5, PV.int 11]], PV.knos [kno0, kno0, kno0], PV.tab tab3, PV.ints [0, 0, 0], PV.dons [[], [], []], PV.int 0, PV.int 0, PV.int 0, .sl 4 [], .sl 3 []], .sl 15 [[PV.int 1, PV.int 3, PV.int 2, PV.int 11, PV.int 9, PV.int 5, PV.int 0, PV.int 0, PV.int 3, .v (.string hiP), PV.int 0, PV.int 0, .sl 2 [], .sl 1 [], PV.int 0], [PV.int 3, PV.int 3, PV.int 2, PV.int 11, PV.int 9, PV.int 5, PV.int 0, PV.int 0, PV.int 3, .v (.string hiP), PV.int 0, PV.int 0, .sl 2 [], .sl 1 [], PV.int 0]]]) := by
    have := rescued28_spec (ownR 2 eS 5 at5) m7
    rw [g3] at this
    exact this
  have j4 : HasSpec Tryz.prog 38 [.agg [PV.int 3, PV.int 1, PV.int 2, PV.int 9, PV.int 0, PV.int 0, PV.int 0, .sl 10 [[PV.int 11, PV.int 4, PV.int 3, PV.int 9, PV.int 5, PV.int 5, PV.int 0, PV.int 0, .v (.string hiP), .sl 6 [[PV.int 2, PV.int 2, PV.int 5, PV.int 0, PV.int 0, PV.int 0]]]], .sl 2 [[PV.int 5, PV.int 11]], PV.knos [kno0, kno0, kno0], PV.tab tab3, PV.ints [0, 0, 0], PV.dons [[], [], []], PV.int 0, PV.int 0, PV.int 0, .sl 4 [], .sl 3 []], .agg [PV.int 7, PV.int 3, PV.int 11, PV.int 9, PV.int 5, PV.int 0, PV.int 4, PV.int 0, .v (.string noByte), PV.int 0, PV.int 0, .sl 2 [], .sl 1 [], PV.int 0]] (.tup [.agg [PV.int 3, PV.int 1, PV.int 2, PV.int 9, PV.int 0, PV.int 0, PV.int 0, .sl 10 [[PV.int 11, PV.int 4, PV.int 3, PV.int 9, PV.int 5, PV.int 5, PV.int 0, PV.int 0, .v (.string hiP), .sl 6 [[PV.int 2, PV.int 2, PV.int 5, PV.int 0, PV.int 0, PV.int 0]]]], .sl 2 [[PV.int 5, PV.int 11]], PV.knos [kno0, kno0, kno0], PV.tab tab3, PV.ints [0, 0, 0], PV.dons [[], [], []], PV.int 0, PV.int 0, PV.int 0, .sl 4 [], .sl 3 []], .sl 15 []]) := by
    have := rescued28_spec (ownR 2 eT 9 at5) m7
    rw [g4] at this
    exact this
  have j5 : HasSpec Tryz.prog 36 [.agg [PV.int 3, PV.int 1, PV.int 3, PV.int 9, PV.int 0, PV.int 0, PV.int 0, .sl 10 [[PV.int 11, PV.int 4, PV.int 3, PV.int 9, PV.int 5, PV.int 0, PV.int 0, PV.int 0, .v (.string hiP), .sl 6 []]], .sl 2 [[PV.int 9, PV.int 11]], PV.knos [kno0, kno0, kno0], PV.tab tab3, PV.ints [0, 0, 0], PV.dons [[], [], []], PV.int 0, PV.int 0, PV.int 0, .sl 4 [], .sl 3 []], .agg [PV.int 6, PV.int 2, PV.int 11, PV.int 0, PV.int 5, PV.int 0, PV.int 0, PV.int 3, .v (.string hiP), PV.int 0, PV.int 0, .sl 2 [], .sl 1 [], PV.int 0]] (.tup [.agg [PV.int 3, PV.int 1, PV.int 3, PV.int 9, PV.int 0, PV.int 0, PV.int 0, .sl 10 [[PV.int 11, PV.int 4, PV.int 3, PV.int 9, PV.int 5, PV.int 0, PV.int 0, PV.int 0, .v (.string hiP), .sl 6 []]], .sl 2 [[PV.int 9, PV.int 11]], PV.knos [kno0, kno0, kno0], PV.tab tab3, PV.ints [0, 0, 0], PV.dons [[], [], []], PV.int 0, PV.int 0, PV.int 0, .sl 4 [], .sl 3 []], .sl 15 []]) := by
    have := rescue28_spec (ownR 3 (eP 9 5) 9 at9) m6
    rw [g5] at this
    exact this
  have j6 : HasSpec Tryz.prog 40 [.agg [PV.int 3, PV.int 1, PV.int 3, PV.int 9, PV.int 0, PV.int 0, PV.int 0, .sl 10 [[PV.int 11, PV.int 4, PV.int 3, PV.int 9, PV.int 5, PV.int 0, PV.int 0, PV.int 0, .v (.string hiP), .sl 6 []]], .sl 2 [[PV.int 9, PV.int 11]], PV.knos [kno0, kno0, kno0], PV.tab tab3, PV.ints [0, 0, 0], PV.dons [[], [], []], PV.int 0, PV.int 0, PV.int 0, .sl 4 [], .sl 3 []], .agg [PV.int 0, PV.int 0, PV.int 0, PV.int 0, PV.int 0, PV.int 0, PV.int 0, PV.int 0, .v (.string noByte), .v (.slice none 0 0)], PV.int 9] (.tup [.agg [PV.int 3, PV.int 1, PV.int 3, PV.int 9, PV.int 0, PV.int 0, PV.int 0, .sl 10 [[PV.int 11, PV.int 4, PV.int 3, PV.int 9, PV.int 5, PV.int 0, PV.int 0, PV.int 0, .v (.string hiP), .sl 6 []]], .sl 2 [[PV.int 9, PV.int 11]], PV.knos [kno0, kno0, kno0], PV.tab tab3, PV.ints [0, 0, 0], PV.dons [[], [], []], PV.int 0, PV.int 0, PV.int 0, .sl 4 [], .sl 3 []], .agg [PV.int 0, PV.int 0, PV.int 0, PV.int 0, PV.int 0, PV.int 0, PV.int 0, PV.int 0, .v (.string noByte), .sl 6 []], .v (.bool false)]) := by
    have := promise28_spec (ownR 3 (eP 9 5) 9 at9) Ent.zero 9
    rw [(g6 _ _).1, (g6 _ _).2.1, (g6 _ _).2.2] at this
    exact HasSpec.sub (.cons (.refl _) (.cons (.agg (.cons (.refl _) (.cons (.refl _) (.cons (.refl _) (.cons (.refl _) (.cons (.refl _) (.cons (.refl _) (.cons (.refl _) (.cons (.refl _) (.cons (.refl _) (.cons (.nil _) .nil))))))))))) (.cons (.refl _) .nil))) this
  have q0 : ([[PV.int 1, PV.int 6, PV.int 2, PV.int 11, PV.int 0, PV.int 5, PV.int 0, PV.int 0, PV.int 3, .v (.string hiP), PV.int 0, PV.int 0, .sl 2 [], .sl 1 [], PV.int 0], [PV.int 3, PV.int 6, PV.int 2, PV.int 11, PV.int 0, PV.int 5, PV.int 0, PV.int 0, PV.int 3, .v (.string hiP), PV.int 0, PV.int 0, .sl 2 [], .sl 1 [], PV.int 0]] : List (List PV)).length = 2 := rfl
  have q1 : ([[PV.int 2, PV.int 7, PV.int 3, PV.int 11, PV.int 9, PV.int 5, PV.int 0, PV.int 4, PV.int 0, .v (.string noByte), PV.int 0, PV.int 0, .sl 2 [], .sl 1 [], PV.int 0]] : List (List PV)).length = 1 := rfl
  have q2 : ([[PV.int 1, PV.int 3, PV.int 2, PV.int 11, PV.int 9, PV.int 5, PV.int 0, PV.int 0, PV.int 3, .v (.string hiP), PV.int 0, PV.int 0, .sl 2 [], .sl 1 [], PV.int 0], [PV.int 3, PV.int 3, PV.int 2, PV.int 11, PV.int 9, PV.int 5, PV.int 0, PV.int 0, PV.int 3, .v (.string hiP), PV.int 0, PV.int 0, .sl 2 [], .sl 1 [], PV.int 0]] : List (List PV)).length = 2 := rfl
  have q3 : ([] : List (List PV)).length = 0 := rfl
  refine ⟨?_⟩; refine Spec.ofR (h := fun F w0 => ?_)
  repeat' ((conv => whnf); first | refine Q.E ?_ | (refine Stk.both (fun hb => ?_) (fun hb => ?_) <;> (try simp only [lE] at hb))); all_goals (conv => whnf)
  refine Stk.by j2 (h := ?_)
  repeat' ((conv => whnf); first | refine Q.E ?_ | (refine Stk.both (fun hb => ?_) (fun hb => ?_) <;> (try simp only [lE] at hb))); all_goals (conv => whnf)
  refine Stk.by j3 (h := ?_)
  repeat' ((conv => whnf); first | refine Q.E ?_ | (refine Stk.both (fun hb => ?_) (fun hb => ?_) <;> (try simp only [lE] at hb))); all_goals (conv => whnf)
  refine Stk.by j4 (h := ?_)
  repeat' ((conv => whnf); first | refine Q.E ?_ | (refine Stk.both (fun hb => ?_) (fun hb => ?_) <;> (try simp only [lE] at hb))); all_goals (conv => whnf)
  refine Stk.by j5 (h := ?_)
  repeat' ((conv => whnf); first | refine Q.E ?_ | (refine Stk.both (fun hb => ?_) (fun hb => ?_) <;> (try simp only [lE] at hb))); all_goals (conv => whnf)
  refine Stk.by j6 (h := ?_)
  repeat' ((conv => whnf); first | refine Q.E ?_ | (refine Stk.both (fun hb => ?_) (fun hb => ?_) <;> (try simp only [lE] at hb))); all_goals (conv => whnf)
  (refine Q.r6 (h := ?_); repeat' (first | exact Q.r0 | refine Q.r1 ?_ ?_ | refine Q.r2 ?_ | exact Q.r7 | refine Q.r3 ?_ | refine Q.r4 ?_ | refine Q.r5 ?_))
  all_goals first | exact tst_true.2 rfl | skip
end Go.Proofs.YtbjepdfnmbdplaaGreat
end
section

end
section
namespace Go.Proofs.YtbjepdfnmbdplaaGreat
set_option linter.unusedSectionVars false
open Go.RowKit
set_option linter.unusedSimpArgs false
set_option linter.unusedVariables false
theorem reads_ack {w : World} : Reads Tryz.prog w 86 (fun _ : Ack => True) Ack.cs :=
  Reads.map (reads_struct Tryz.underlying86 (by kernel_rfl) (by kernel_rfl) (readsL_cons (reads_int Tryz.underlying3) (readsL_cons (reads_int Tryz.underlying3) (readsL_cons (reads_int Tryz.underlying3) (readsL_cons (reads_int Tryz.underlying3) (readsL_cons (reads_int Tryz.underlying3) (readsL_cons (reads_int Tryz.underlying3) readsL_nil))))))) (fun x => Ack.mk x.1 x.2.1 x.2.2.1 x.2.2.2.1 x.2.2.2.2.1 x.2.2.2.2.2.1) (fun _ => rfl) (fun _ _ => trivial)
theorem reads_acks {w : World} : Reads Tryz.prog w 38 (fun l : List Ack => ∀ x ∈ l, True) (fun l => [.sl 6 (l.map Ack.cs)]) :=
  reads_slice (f := Ack.cs) Tryz.underlying38 (by kernel_rfl) (fun _ => rfl) reads_ack
theorem reads_ent {w : World} : Reads Tryz.prog w 40 (fun _ : Ent => True) Ent.cs :=
  Reads.map (reads_struct Tryz.underlying40 (by kernel_rfl) (by kernel_rfl) (readsL_cons (reads_int Tryz.underlying3) (readsL_cons (reads_int Tryz.underlying3) (readsL_cons (reads_int Tryz.underlying3) (readsL_cons (reads_int Tryz.underlying3) (readsL_cons (reads_int Tryz.underlying3) (readsL_cons (reads_int Tryz.underlying3) (readsL_cons (reads_int Tryz.underlying3) (readsL_cons (reads_int Tryz.underlying3) (readsL_cons (reads_string Tryz.underlying9) (readsL_cons reads_acks readsL_nil))))))))))) (fun x => Ent.mk x.1 x.2.1 x.2.2.1 x.2.2.2.1 x.2.2.2.2.1 x.2.2.2.2.2.1 x.2.2.2.2.2.2.1 x.2.2.2.2.2.2.2.1 x.2.2.2.2.2.2.2.2.1 x.2.2.2.2.2.2.2.2.2.1) (fun _ => rfl) (fun _ _ => trivial)
end Go.Proofs.YtbjepdfnmbdplaaGreat
end
section
namespace Go.Proofs.YtbjepdfnmbdplaaGreat
open Go.RowKit
set_option linter.unusedSimpArgs false
set_option linter.unusedVariables false
set_option linter.unusedSectionVars false
theorem reads_ints {w : World} : Reads Tryz.prog w 26 (fun l : List Int => ∀ x ∈ l, okI x) (fun l => [PV.ints l]) :=
  reads_slice (f := ics) Tryz.underlying26 (by kernel_rfl) (fun _ => rfl) (reads_int Tryz.underlying3)
theorem reads_tab {w : World} : Reads Tryz.prog w 25 (fun l : List (List Int) => ∀ x ∈ l, ∀ y ∈ x, okI y) (fun l => [PV.tab l]) :=
  reads_slice (f := rcs) Tryz.underlying25 (by kernel_rfl) (fun _ => rfl) reads_ints
theorem reads_att {w : World} : Reads Tryz.prog w 29 (fun _ : Att => True) Att.cs :=
  Reads.map (reads_struct Tryz.underlying29 (by kernel_rfl) (by kernel_rfl) (readsL_cons (reads_int Tryz.underlying3) (readsL_cons (reads_int Tryz.underlying3) readsL_nil))) (fun x => Att.mk x.1 x.2.1) (fun _ => rfl) (fun _ _ => trivial)
theorem reads_atts {w : World} : Reads Tryz.prog w 23 (fun l : List Att => ∀ x ∈ l, True) (fun l => [.sl 2 (l.map Att.cs)]) :=
  reads_slice (sz := 2) (f := Att.cs) Tryz.underlying23 (by kernel_rfl) (fun _ => rfl) reads_att
theorem reads_rng {w : World} : Reads Tryz.prog w 195 (fun _ : Rng => True) Rng.cs :=
  Reads.map (reads_struct Tryz.underlying195 (by kernel_rfl) (by kernel_rfl) (readsL_cons (reads_int Tryz.underlying3) (readsL_cons (reads_int Tryz.underlying3) readsL_nil))) (fun x => Rng.mk x.1 x.2.1) (fun _ => rfl) (fun _ _ => trivial)
theorem reads_rngs {w : World} : Reads Tryz.prog w 79 (fun l : List Rng => ∀ x ∈ l, True) (fun l => [.sl 2 (l.map Rng.cs)]) :=
  reads_slice (sz := 2) (f := Rng.cs) Tryz.underlying79 (by kernel_rfl) (fun _ => rfl) reads_rng
theorem reads_kno {w : World} : Reads Tryz.prog w 81 (fun _ : Kno => True) Kno.cs :=
  Reads.map (reads_struct Tryz.underlying81 (by kernel_rfl) (by kernel_rfl) (readsL_cons (reads_int Tryz.underlying3) (readsL_cons reads_rngs (readsL_cons reads_atts readsL_nil)))) (fun x => Kno.mk x.1 x.2.1 x.2.2.1) (fun _ => rfl) (fun _ _ => trivial)
theorem reads_knos {w : World} : Reads Tryz.prog w 24 (fun l : List Kno => ∀ x ∈ l, True) (fun l => [.sl 3 (l.map Kno.cs)]) :=
  reads_slice (sz := 3) (f := Kno.cs) Tryz.underlying24 (by kernel_rfl) (fun _ => rfl) reads_kno
theorem reads_dons {w : World} : Reads Tryz.prog w 27 (fun l : List (List Rng) => ∀ x ∈ l, ∀ y ∈ x, True) (fun l => [.sl 1 (l.map dcs)]) :=
  reads_slice (sz := 1) (f := dcs) Tryz.underlying27 (by kernel_rfl) (fun _ => rfl) reads_rngs
theorem reads_ents {w : World} : Reads Tryz.prog w 22 (fun l : List Ent => ∀ x ∈ l, True) (fun l => [.sl 10 (l.map Ent.cs)]) :=
  reads_slice (sz := 10) (f := Ent.cs) Tryz.underlying22 (by kernel_rfl) (fun _ => rfl) reads_ent
theorem reads_itm {w : World} : Reads Tryz.prog w 286 (fun _ : Itm => True) Itm.cs :=
  Reads.map (reads_struct Tryz.underlying286 (by kernel_rfl) (by kernel_rfl) (readsL_cons (reads_int Tryz.underlying3) (readsL_cons (reads_int Tryz.underlying3) (readsL_cons (reads_int Tryz.underlying3) (readsL_cons (reads_int Tryz.underlying3) readsL_nil))))) (fun x => Itm.mk x.1 x.2.1 x.2.2.1 x.2.2.2.1) (fun _ => rfl) (fun _ _ => trivial)
theorem reads_itms {w : World} : Reads Tryz.prog w 30 (fun l : List Itm => ∀ x ∈ l, True) (fun l => [.sl 4 (l.map Itm.cs)]) :=
  reads_slice (sz := 4) (f := Itm.cs) Tryz.underlying30 (by kernel_rfl) (fun _ => rfl) reads_itm
theorem reads_ses {w : World} : Reads Tryz.prog w 288 (fun _ : Ses => True) Ses.cs :=
  Reads.map (reads_struct Tryz.underlying288 (by kernel_rfl) (by kernel_rfl) (readsL_cons (reads_int Tryz.underlying3) (readsL_cons (reads_int Tryz.underlying3) (readsL_cons (reads_string Tryz.underlying9) readsL_nil)))) (fun x => Ses.mk x.1 x.2.1 x.2.2.1) (fun _ => rfl) (fun _ _ => trivial)
theorem reads_sess {w : World} : Reads Tryz.prog w 31 (fun l : List Ses => ∀ x ∈ l, True) (fun l => [.sl 3 (l.map Ses.cs)]) :=
  reads_slice (sz := 3) (f := Ses.cs) Tryz.underlying31 (by kernel_rfl) (fun _ => rfl) reads_ses
theorem reads_store {w : World} : Reads Tryz.prog w 33 (fun _ : List Itm × List Ses => True) (fun x => [.sl 4 (x.1.map Itm.cs), .sl 3 (x.2.map Ses.cs)]) :=
  Reads.map (reads_struct Tryz.underlying33 (by kernel_rfl) (by kernel_rfl) (readsL_cons reads_itms (readsL_cons reads_sess readsL_nil))) (fun x => (x.1, x.2.1)) (fun _ => rfl) (fun _ _ => trivial)
theorem reads_rpl {w : World} : Reads Tryz.prog w 35 (fun _ : Rpl => True) Rpl.cs :=
  Reads.map (reads_struct Tryz.underlying35 (by kernel_rfl) (by kernel_rfl) (readsL_cons (reads_int Tryz.underlying3) (readsL_cons (reads_int Tryz.underlying3) (readsL_cons (reads_int Tryz.underlying3) (readsL_cons (reads_int Tryz.underlying3) (readsL_cons (reads_int Tryz.underlying3) (readsL_cons (reads_int Tryz.underlying3) (readsL_cons (reads_int Tryz.underlying3) (readsL_cons reads_ents (readsL_cons reads_atts (readsL_cons reads_knos (readsL_cons reads_tab (readsL_cons reads_ints (readsL_cons reads_dons (readsL_cons reads_att (readsL_cons (reads_int Tryz.underlying3) (readsL_cons reads_store readsL_nil))))))))))))))))) (fun x => Rpl.mk x.1 x.2.1 x.2.2.1 x.2.2.2.1 x.2.2.2.2.1 x.2.2.2.2.2.1 x.2.2.2.2.2.2.1 x.2.2.2.2.2.2.2.1 x.2.2.2.2.2.2.2.2.1 x.2.2.2.2.2.2.2.2.2.1 x.2.2.2.2.2.2.2.2.2.2.1 x.2.2.2.2.2.2.2.2.2.2.2.1 x.2.2.2.2.2.2.2.2.2.2.2.2.1 x.2.2.2.2.2.2.2.2.2.2.2.2.2.1 x.2.2.2.2.2.2.2.2.2.2.2.2.2.2.1 x.2.2.2.2.2.2.2.2.2.2.2.2.2.2.2.1.1 x.2.2.2.2.2.2.2.2.2.2.2.2.2.2.2.1.2) (fun _ => rfl) (fun _ _ => trivial)
theorem reads_msg {w : World} : Reads Tryz.prog w 37 (fun _ : Msg => True) Msg.cs :=
  Reads.map (reads_struct Tryz.underlying37 (by kernel_rfl) (by kernel_rfl) (readsL_cons (reads_int Tryz.underlying3) (readsL_cons (reads_int Tryz.underlying3) (readsL_cons (reads_int Tryz.underlying3) (readsL_cons (reads_int Tryz.underlying3) (readsL_cons (reads_int Tryz.underlying3) (readsL_cons (reads_int Tryz.underlying3) (readsL_cons (reads_int Tryz.underlying3) (readsL_cons (reads_int Tryz.underlying3) (readsL_cons (reads_string Tryz.underlying9) (readsL_cons (reads_int Tryz.underlying3) (readsL_cons (reads_int Tryz.underlying3) (readsL_cons reads_atts (readsL_cons reads_ints (readsL_cons (reads_int Tryz.underlying3) readsL_nil))))))))))))))) (fun x => Msg.mk x.1 x.2.1 x.2.2.1 x.2.2.2.1 x.2.2.2.2.1 x.2.2.2.2.2.1 x.2.2.2.2.2.2.1 x.2.2.2.2.2.2.2.1 x.2.2.2.2.2.2.2.2.1 x.2.2.2.2.2.2.2.2.2.1 x.2.2.2.2.2.2.2.2.2.2.1 x.2.2.2.2.2.2.2.2.2.2.2.1 x.2.2.2.2.2.2.2.2.2.2.2.2.1 x.2.2.2.2.2.2.2.2.2.2.2.2.2.1) (fun _ => rfl) (fun _ _ => trivial)
theorem reads_msgs {w : World} : Reads Tryz.prog w 56 (fun l : List Msg => ∀ x ∈ l, True) (fun l => [.sl 14 (l.map Msg.cs)]) :=
  reads_slice (sz := 14) (f := Msg.cs) Tryz.underlying56 (by kernel_rfl) (fun _ => rfl) reads_msg
end Go.Proofs.YtbjepdfnmbdplaaGreat
end
