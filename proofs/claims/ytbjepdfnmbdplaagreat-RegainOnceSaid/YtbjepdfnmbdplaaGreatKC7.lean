/- Texts joined by wip/gen/kpack.py: D34 D26 U35 R15 U62. -/
import Derived.ChangeKeysEq
import Derived.Test.YtbjepdfnmbdplaaGreatKC6
section
namespace Go.Proofs.YtbjepdfnmbdplaaGreat
open Go.RowKit
set_option linter.unusedSimpArgs false
set_option linter.unusedVariables false
def Rise (r s : Rpl) : Prop := ∀ id, findB r.entries id = true → findB s.entries id = true ∧ (findT r.entries id).bal ≤ (findT s.entries id).bal ∧ (findT r.entries id).abal ≤ (findT s.entries id).abal
theorem Rise.refl (r : Rpl) : Rise r r := fun id h => ⟨h, Int.le_refl _, Int.le_refl _⟩
theorem Rise.trans {r s u : Rpl} (h : Rise r s) (k : Rise s u) : Rise r u := fun id hf => by
  obtain ⟨h1, h2, h3⟩ := h id hf
  obtain ⟨k1, k2, k3⟩ := k id h1
  exact ⟨k1, by omega, by omega⟩
theorem put_rise {r : Rpl} {e : Ent} {s : Rpl} (hr : entsB r.entries = true) (hs : s.entries = putE r.entries e) (he : findB r.entries e.id = true → (findT r.entries e.id).bal ≤ e.bal ∧ (findT r.entries e.id).abal ≤ e.abal) : Rise r s := fun id hf => by
  rw [hs]
  by_cases h : e.id = id
  · obtain ⟨h1, h2⟩ := (put_find hr id).1 h
    refine ⟨h1, ?_⟩
    rw [h2]
    subst h
    exact he hf
  · obtain ⟨h1, h2⟩ := (put_find hr id).2 h hf
    rw [h2]
    exact ⟨h1, Int.le_refl _, Int.le_refl _⟩
theorem rput_rise {r : Rpl} {e : Ent} (he : findB r.entries e.id = true → (findT r.entries e.id).bal ≤ e.bal ∧ (findT r.entries e.id).abal ≤ e.abal) : Rise r (rputR r e) := by
  by_cases h : rputX r e = 0
  · rw [rputR_yes h]
    exact put_rise (rep_ents (rput_parts h).1).1 rfl he
  · rw [rputR_no h]; exact .refl r
theorem bmp_rise {r : Rpl} {e : Ent} {t : Int} (he : findB r.entries e.id = true → (findT r.entries e.id).bal ≤ e.bal ∧ (findT r.entries e.id).abal ≤ e.abal) : Rise r (bmpR r e t) := by
  by_cases h : rputX r e = 0
  · rw [show bmpR r e t = { r with entries := putE r.entries e, clock := bumpI r.clock t } from if_pos h]
    exact put_rise (rep_ents (rput_parts h).1).1 rfl he
  · rw [show bmpR r e t = r from if_neg h]; exact .refl r
theorem lrn_rise (r : Rpl) (id q : Int) (p : ByteArray) : Rise r (lrnR r id q p) := by
  unfold lrnR
  split
  · split
    · exact .refl r
    · rename_i hf
      split
      · exact rput_rise fun h => absurd h hf
      · exact .refl r
  · exact .refl r
theorem rput_at {r : Rpl} {e : Ent} (h : rputX r e = 0) : findB (rputR r e).entries e.id = true ∧ findT (rputR r e).entries e.id = e := by
  rw [rputR_yes h]
  exact (put_find (rep_ents (rput_parts h).1).1 e.id).1 rfl
theorem bmp_at {r : Rpl} {e : Ent} {t : Int} (h : rputX r e = 0) : findB (bmpR r e t).entries e.id = true ∧ findT (bmpR r e t).entries e.id = e := by
  rw [show bmpR r e t = { r with entries := putE r.entries e, clock := bumpI r.clock t } from if_pos h]
  exact (put_find (rep_ents (rput_parts h).1).1 e.id).1 rfl
theorem p28S_ents (r : Rpl) (e : Ent) : (p28S r e).entries = r.entries := by
  unfold p28S timR
  split
  · split <;> rfl
  · rfl
theorem find_zero {l : List Ent} {id : Int} (h : findB l id = false) : findT l id = Ent.zero := by
  unfold findB at h
  unfold findT
  cases e : l.find? (isId id) with
  | none => rfl
  | some x =>
    exfalso
    have h1 := List.find?_some e
    have h2 := List.mem_of_find?_eq_some e
    have := List.any_eq_false.1 h x h2
    exact this h1
theorem was_le {r : Rpl} {id q : Int} {p : ByteArray} (h : lrnB r id q p = true) : (findT r.entries id).bal ≤ (lrnE r id q p).bal := by
  cases hf : findB r.entries id with
  | true =>
    obtain ⟨_, h1, _⟩ := lrn_rise r id q p id hf
    rw [(lrn_find h).2] at h1
    exact h1
  | false =>
    rw [find_zero hf]
    have := ent_facts (lrn_ent h)
    show (0 : Int) ≤ _
    omega
theorem ackR_bal (e : Ent) (a : Ack) : (ackR e a).bal = e.bal := by
  unfold ackR
  split <;> rfl
theorem p28_rise {r : Rpl} {e : Ent} {b : Int} (he : findB r.entries e.id = true → findT r.entries e.id = e) : Rise r (p28R r e b) := by
  by_cases h : p28B r e b = true
  · obtain ⟨k, _, h3, h4, h5, _⟩ := prom_tells h
    obtain ⟨hc, e1, e2⟩ := p28_all h
    rw [e1]
    rw [e2] at k h4 h5
    intro id hf
    have hf2 : findB (p28S r e).entries id = true := by rw [p28S_ents]; exact hf
    have := rput_rise (r := p28S r e) (e := p28P r e b) (fun hx => by
      rw [p28S_ents, k.id] at hx ⊢
      rw [he hx, h4, h5]
      exact ⟨by omega, Int.le_refl _⟩) id hf2
    rw [p28S_ents] at this
    exact this
  · have : p28B r e b = false := by simpa using h
    rw [show p28R r e b = r from if_neg (by rw [this]; simp)]
    exact .refl r
theorem p28_at {r : Rpl} {e : Ent} {b : Int} (h : p28B r e b = true) : findB (p28R r e b).entries e.id = true ∧ findT (p28R r e b).entries e.id = p28E r e b := by
  obtain ⟨k, _⟩ := prom_tells h
  obtain ⟨hc, e1, e2⟩ := p28_all h
  rw [← k.id, e1, e2]
  exact rput_at hc.2.2.2.2
noncomputable def goP (r : Rpl) (m : Msg) : Rpl × List Out := if m.kind = 6 then onRsc r m else if m.kind = 7 then onRsd r m else onSta r m.id
def Tells (r s : Rpl) (o : Out) : Prop := (o.m.kind = 3 → (findT r.entries o.m.id).abal < o.m.bal ∧ findB s.entries o.m.id = true ∧ o.m.bal ≤ (findT s.entries o.m.id).abal) ∧ (o.m.kind = 7 ∨ o.m.kind = 6 → 1 ≤ o.m.bal ∧ (findT r.entries o.m.id).bal < o.m.bal ∧ findB s.entries o.m.id = true ∧ o.m.bal ≤ (findT s.entries o.m.id).bal)
theorem sta_once (r : Rpl) (id : Int) : Rise r (onSta r id).1 ∧ ∀ o ∈ (onSta r id).2, Tells r (onSta r id).1 o := by
  unfold onSta
  split
  · rename_i h
    obtain ⟨hr, hf, ho, hX, hB, hA, hQ⟩ := h
    have hi := (find_mem hf).2
    obtain ⟨a1, a2⟩ := staE_ent hB
    obtain ⟨k, hb, h3, h4, h5, _⟩ := prom_tells hB
    have g1 := p28_rise (r := r) (e := findT r.entries id) (b := rscI r (findT r.entries id)) (fun _ => by rw [hi])
    obtain ⟨f1, f2⟩ := p28_at hB
    have hsb : (staE r (findT r.entries id)).bal = rscI r (findT r.entries id) := (ackR_bal _ _).trans h4
    have hsa : (staE r (findT r.entries id)).abal = (p28E r (findT r.entries id) (rscI r (findT r.entries id))).abal := (ackR_facts k.ent).2.2.1
    have g2 : Rise (p28R r (findT r.entries id) (rscI r (findT r.entries id))) (staR r (findT r.entries id)) := rput_rise fun hx => by
      rw [a2, f2, hsb, hsa, h4]
      exact ⟨Int.le_refl _, Int.le_refl _⟩
    refine ⟨g1.trans g2, fun o ho => ?_⟩
    obtain ⟨w1, w2⟩ := rput_at hQ
    rw [a2, hi] at w1 w2
    unfold allO at ho
    split at ho
    · rw [List.mem_map] at ho
      obtain ⟨d, hd, rfl⟩ := ho
      refine ⟨fun hk => absurd (show (6 : Int) = 3 from hk) (by decide), fun _ => ⟨hb.1, h3, w1, ?_⟩⟩
      show rscI r (findT r.entries id) ≤ (findT (rputR (p28R r (findT r.entries id) (rscI r (findT r.entries id))) (staE r (findT r.entries id))).entries id).bal
      rw [w2, hsb]
      exact Int.le_refl _
    · cases ho
  · exact ⟨.refl r, by simp⟩
theorem rsc_once (r : Rpl) (m : Msg) : Rise r (onRsc r m).1 ∧ ∀ o ∈ (onRsc r m).2, Tells r (onRsc r m).1 o := by
  unfold onRsc
  split
  · rename_i h
    obtain ⟨hk, hh, _, _, hl⟩ := h
    have he := lrn_ent hl
    have hi := lrn_id hl
    have hw := was_le hl
    obtain ⟨f1, f2⟩ := lrn_find hl
    have g := lrn_rise r m.id m.quorum m.payload
    dsimp only
    split
    · refine ⟨g, fun o ho => ?_⟩
      unfold helpO at ho
      split at ho
      · rw [List.mem_singleton] at ho
        subst ho
        exact ⟨fun hk => absurd (show (5 : Int) = 3 from hk) (by decide), fun hk => absurd (show (5 : Int) = 7 ∨ (5 : Int) = 6 from hk) (by decide)⟩
      · cases ho
    · split
      · refine ⟨g, fun o ho => ?_⟩
        unfold ansO at ho
        rw [List.mem_singleton] at ho
        subst ho
        exact ⟨fun hk => absurd (show (8 : Int) = 3 from hk) (by decide), fun hk => absurd (show (8 : Int) = 7 ∨ (8 : Int) = 6 from hk) (by decide)⟩
      · split
        · exact ⟨.refl r, by simp⟩
        · split
          · rename_i hB
            obtain ⟨k, hb, h3, h4, h5, _⟩ := prom_tells hB
            obtain ⟨w1, w2⟩ := p28_at hB
            refine ⟨g.trans (p28_rise fun _ => by rw [hi, f2]), fun o ho => ?_⟩
            rw [List.mem_singleton] at ho
            subst ho
            refine ⟨fun hk => absurd (show (7 : Int) = 3 from hk) (by decide), fun _ => ?_⟩
            show 1 ≤ (p28E (lrnR r m.id m.quorum m.payload) (lrnE r m.id m.quorum m.payload) m.bal).bal ∧ (findT r.entries m.id).bal < (p28E (lrnR r m.id m.quorum m.payload) (lrnE r m.id m.quorum m.payload) m.bal).bal ∧ findB (p28R (lrnR r m.id m.quorum m.payload) (lrnE r m.id m.quorum m.payload) m.bal).entries m.id = true ∧ (p28E (lrnR r m.id m.quorum m.payload) (lrnE r m.id m.quorum m.payload) m.bal).bal ≤ (findT (p28R (lrnR r m.id m.quorum m.payload) (lrnE r m.id m.quorum m.payload) m.bal).entries m.id).bal
            rw [hi] at w1 w2
            rw [w2, h4]
            exact ⟨hb.1, by omega, w1, Int.le_refl _⟩
          · exact ⟨.refl r, by simp⟩
  · exact ⟨.refl r, by simp⟩
theorem accE_yes {e : Ent} {t b : Int} (h : accX e t b = 0) : accE e t b = e.up e.phase t b b [] := if_pos h
theorem rsd_once (r : Rpl) (m : Msg) : Rise r (onRsd r m).1 ∧ ∀ o ∈ (onRsd r m).2, Tells r (onRsd r m).1 o := by
  unfold onRsd
  split
  · rename_i h
    obtain ⟨hk, hh, _, _, hf⟩ := h
    have hr := (hears_rep hh).1
    have he := find_ent hr hf
    have hi := (find_mem hf).2
    dsimp only
    split
    · rename_i hc
      obtain ⟨c1, c2, c3, c4, c5⟩ := hc
      obtain ⟨a1, a2, a3, a4, _⟩ := ackR_facts (a := rsdA m) he
      have a5 := ackR_bal (findT r.entries m.id) (rsdA m)
      have g : Rise r (rputR r (ackR (findT r.entries m.id) (rsdA m))) := rput_rise fun _ => by
        rw [a4, hi, a5, a3]
        exact ⟨Int.le_refl _, Int.le_refl _⟩
      obtain ⟨w1, w2⟩ := rput_at c5
      rw [a4, hi] at w1 w2
      split
      · split
        · rename_i ht
          obtain ⟨t1, t2, t3⟩ := tk_parts ht.2
          generalize (chooseR r.n r.f (ackR (findT r.entries m.id) (rsdA m)).quorum (ackR (findT r.entries m.id) (rsdA m)).id (ofL (ackR (findT r.entries m.id) (rsdA m)).acks 3 m.bal)).1 = t at *
          clear ht
          generalize rputR r (ackR (findT r.entries m.id) (rsdA m)) = s at *
          have f := ent_facts he
          generalize ackR (findT r.entries m.id) (rsdA m) = e at *
          have hx : (ackR (accE e t m.bal) (ackA s m.bal)).id = m.id ∧ (ackR (accE e t m.bal) (ackA s m.bal)).bal = m.bal ∧ (ackR (accE e t m.bal) (ackA s m.bal)).abal = m.bal := by
            have k := acc_kept (t := t) (b := m.bal) a1
            obtain ⟨_, _, b3, b4, _⟩ := ackR_facts (a := ackA s m.bal) k.ent
            refine ⟨b4.trans (k.id.trans (a4.trans hi)), (ackR_bal _ _).trans ?_, b3.trans ?_⟩
            · rw [accE_yes t1]; rfl
            · rw [accE_yes t1]; rfl
          obtain ⟨x1, x2, x3⟩ := hx
          have et : tkR s e t m.bal = bmpR s (ackR (accE e t m.bal) (ackA s m.bal)) t := if_pos ⟨t1, t2⟩
          rw [et]
          obtain ⟨u1, u2⟩ := bmp_at (t := t) t3
          generalize ackR (accE e t m.bal) (ackA s m.bal) = x at *
          rw [x1] at u1 u2
          have g2 : Rise s (bmpR s x t) := bmp_rise fun _ => by
            rw [x1, w2, x2, x3, a5, a3]
            omega
          refine ⟨g.trans g2, fun o ho => ?_⟩
          unfold allO at ho
          split at ho
          · rw [List.mem_map] at ho
            obtain ⟨d, hd, rfl⟩ := ho
            refine ⟨fun _ => ?_, fun hk => absurd (show (3 : Int) = 7 ∨ (3 : Int) = 6 from hk) (by decide)⟩
            show (findT r.entries e.id).abal < m.bal ∧ findB (bmpR s x t).entries e.id = true ∧ m.bal ≤ (findT (bmpR s x t).entries e.id).abal
            rw [a4, hi, u2, x3]
            exact ⟨by omega, u1, Int.le_refl _⟩
          · cases ho
        · exact ⟨.refl r, by simp⟩
      · exact ⟨g, by simp⟩
    · exact ⟨.refl r, by simp⟩
  · exact ⟨.refl r, by simp⟩
theorem go_once (r : Rpl) (m : Msg) : Rise r (goP r m).1 ∧ ∀ o ∈ (goP r m).2, Tells r (goP r m).1 o := by
  unfold goP
  split
  · exact rsc_once r m
  · split
    · exact rsd_once r m
    · exact sta_once r m.id
theorem go_keeps (r : Rpl) (m : Msg) : Stays r (goP r m).1 := by
  unfold goP
  split
  · exact (onRsc_keeps r m).1
  · split
    · exact (onRsd_keeps r m).1
    · exact (onSta_keeps r m.id).1
end Go.Proofs.YtbjepdfnmbdplaaGreat
end
section
namespace Go.Proofs.YtbjepdfnmbdplaaGreat
open Go.RowKit
set_option linter.unusedSimpArgs false
set_option linter.unusedVariables false
structure Fix (e x : Ent) : Prop where
  id : x.id = e.id
  payload : x.payload = e.payload
  settled : 5 ≤ e.phase → x.t = e.t ∧ e.phase ≤ x.phase
end Go.Proofs.YtbjepdfnmbdplaaGreat
end
section
namespace Go.Proofs.YtbjepdfnmbdplaaGreat
open Go.RowKit
set_option linter.unusedSimpArgs false
set_option linter.unusedVariables false
set_option maxRecDepth 100000
set_option maxHeartbeats 4000000
abbrev PV.msgs (l : List Msg) : PV := .sl 14 (l.map Msg.cs)
end Go.Proofs.YtbjepdfnmbdplaaGreat
end
section
namespace Go.Proofs.YtbjepdfnmbdplaaGreat
set_option linter.unusedSimpArgs false
set_option linter.unusedVariables false
set_option linter.unusedSectionVars false
open Go.RowKit Go.MapKept
def keyP (k : Int × Int) : Value := .agg #[.int .i64 k.1, .int .i64 k.2]
theorem keyP_inj {a b : Int × Int} : keyP a = keyP b ↔ a = b := by
  obtain ⟨a1, a2⟩ := a
  obtain ⟨b1, b2⟩ := b
  unfold keyP
  simp
def kvP (m : List ((Int × Int) × Bool)) : List (Value × Value) := m.map fun x => (keyP x.1, .bool x.2)
def lookP : List ((Int × Int) × Bool) → Int × Int → Option Bool
  | [], _ => none
  | x :: m, k => if x.1 = k then some x.2 else lookP m k
theorem lookP_none : ∀ {m : List ((Int × Int) × Bool)} {k : Int × Int}, lookP m k = none ↔ ∀ x ∈ m, x.1 ≠ k
  | [], k => by simp [lookP]
  | x :: m, k => by
    unfold lookP
    split
    · rename_i e
      simp [e]
    · rename_i e
      rw [lookP_none]
      simp [e]
theorem lookP_of {m : List ((Int × Int) × Bool)} (hn : (m.map Prod.fst).Nodup) : ∀ {k : Int × Int} {v : Bool}, (k, v) ∈ m → lookP m k = some v := by
  induction m with
  | nil => intro k v h; cases h
  | cons x m ih =>
    intro k v h
    rw [List.map_cons, List.nodup_cons] at hn
    unfold lookP
    rcases List.mem_cons.1 h with h | h
    · rw [← h]
      simp
    · rw [if_neg (fun e => hn.1 (by rw [e]; exact List.mem_map.2 ⟨_, h, rfl⟩))]
      exact ih hn.2 h
class MapTP (P : Program) (t : TypeId) (kt et it : outParam TypeId) : Prop where
  h1 : P.underlying t = some (.map kt et)
  h2 : P.underlying kt = some (.array 2 it)
  h3 : tyB P it = some (false, 1)
  h4 : P.underlying it = some (.int .i64)
  h5 : (P.info? et).map (·.zero) = some (some (.bool false))
section
variable {P : Program} {t kt et it : TypeId}
theorem run_checkKeyP [h : MapTP P t kt et it] (em : Bool) (d : Nat) (k : Int × Int) (w : World) : (Instr.checkKey em (d + 2) kt (keyP k)).run P w = .ok () w := by
  have h0 : (part it #[.int .i64 k.1, .int .i64 k.2] 0).run P w = .ok (.int .i64 k.1) w := run_part1 h.h3 rfl w
  have h1 : (part it #[.int .i64 k.1, .int .i64 k.2] 1).run P w = .ok (.int .i64 k.2) w := run_part1 h.h3 rfl w
  have hc : ∀ z : Int, (Instr.checkKey em (d + 1) it (.int .i64 z)).run P w = .ok () w := fun z => by
    rw [Instr.checkKey]
    simp only [Sem.run_bind, run_underlying h.h4, Result.andThen_ok]
    rfl
  unfold keyP
  rw [Instr.checkKey]
  simp only [Sem.run_bind, run_underlying h.h2, Result.andThen_ok]
  simp only [Std.Legacy.Range.forIn_eq_forIn_range', Std.Legacy.Range.size, Nat.sub_zero, Nat.add_one_sub_one, Nat.div_one, show List.range' 0 2 = [0, 1] from rfl]
  simp only [List.forIn_cons, List.forIn_nil, Sem.run_bind, run_size h.h3, Result.andThen_ok, Nat.zero_mul, Nat.one_mul, h0, h1, hc, Sem.run_pure]
theorem cells_one (h : tyB P it = some (false, 1)) : P.cellsOf it = 1 ∧ ∃ i, P.info? it = some i := by
  unfold tyB at h
  obtain ⟨d, hd, h1⟩ := Option.bind_eq_some_iff.1 h
  obtain ⟨i, hi, h2⟩ := Option.map_eq_some_iff.1 h1
  injection h2 with h2 h3
  exact ⟨by simp [Program.cellsOf, hi, h3], i, hi⟩
theorem run_equalP [h : MapTP P t kt et it] (a b : Int × Int) (w : World) : (Op.equal kt (keyP a) (keyP b)).run P w = .ok (decide (a = b)) w := by
  obtain ⟨hc, i, hi⟩ := cells_one h.h3
  have e : (Op.equal kt (keyP a) (keyP b)).run P w = (Op.equalIn (9999 + 1) kt (.agg #[.int .i64 a.1, .int .i64 a.2]) (.agg #[.int .i64 b.1, .int .i64 b.2])).run P w := rfl
  rw [e, run_equalIn_array w 9999 _ _ h.h2 hi, hc, show List.range 2 = [0, 1] from rfl]
  have p0 : ∀ x y : Int, (part it #[.int .i64 x, .int .i64 y] 0).run P w = .ok (.int .i64 x) w := fun x y => run_part1 h.h3 rfl w
  have p1 : ∀ x y : Int, (part it #[.int .i64 x, .int .i64 y] 1).run P w = .ok (.int .i64 y) w := fun x y => run_part1 h.h3 rfl w
  have q : ∀ x y : Int, (Op.equalIn 9999 it (.int .i64 x) (.int .i64 y)).run P w = .ok (x == y) w := fun x y => run_equalIn_int w 9998 it .i64 .i64 x y h.h4
  simp only [Op.eqItems, Sem.run_bind, Nat.zero_mul, Nat.one_mul, p0, p1, Result.andThen_ok, q]
  obtain ⟨a1, a2⟩ := a
  obtain ⟨b1, b2⟩ := b
  by_cases e1 : a1 = b1
  · by_cases e2 : a2 = b2
    · subst e1 e2
      simp [p1, q]
    · simp [e1, e2, p1, q]
  · simp [e1]
theorem findAskP [h : MapTP P t kt et it] (k : Int × Int) (w : World) : ∀ (l : List MapEntry) (i : Nat), (∀ x ∈ l, ∃ a : Int × Int, x.key = keyP a) →
    ((Instr.findAsking kt (keyP k) l i).run P w = .ok none w ∧ ∀ x ∈ l, x.key ≠ keyP k) ∨ ∃ j e, (Instr.findAsking kt (keyP k) l i).run P w = .ok (some (i + j, e.val)) w ∧ l[j]? = some e ∧ e.key = keyP k
  | [], i, _ => .inl ⟨by simp [Instr.findAsking], by simp⟩
  | e :: es, i, hl => by
    obtain ⟨a, ha⟩ := hl e (by simp)
    have hr := run_equalP (h := h) k a w
    rw [← ha] at hr
    by_cases hk : k = a
    · rw [decide_eq_true hk] at hr
      exact .inr ⟨0, e, by simp [Instr.findAsking, hr], rfl, by rw [ha, hk]⟩
    · rw [decide_eq_false hk] at hr
      have hne : e.key ≠ keyP k := fun q => hk (keyP_inj.1 (by rw [← q, ha]))
      rcases findAskP (h := h) k w es (i + 1) (fun x hx => hl x (by simp [hx])) with ⟨h1, h2⟩ | ⟨j, e', h1, h2, h3⟩
      · exact .inl ⟨by simp [Instr.findAsking, hr, h1], fun x hx => by
          rcases List.mem_cons.1 hx with rfl | hx
          · exact hne
          · exact h2 x hx⟩
      · exact .inr ⟨j + 1, e', by simp [Instr.findAsking, hr, h1, Nat.add_assoc, Nat.add_comm 1 j], by simpa using h2, h3⟩
theorem findNowP {n : Nat} {e : TypeId} (k : Int × Int) : ∀ (l : List MapEntry) (i : Nat), (∀ x ∈ l, ∃ a : Int × Int, x.key = keyP a) → l ≠ [] → Instr.findNow (.array n e) (keyP k) l i = none
  | [], i, _, h => absurd rfl h
  | x :: l, i, hl, _ => by
    obtain ⟨a, ha⟩ := hl x (by simp)
    unfold Instr.findNow
    rw [ha]
    rfl
theorem run_findKeyP [h : MapTP P t kt et it] (k : Int × Int) (w : World) (l : List MapEntry) (hl : ∀ x ∈ l, ∃ a : Int × Int, x.key = keyP a) :
    ((Instr.findKey kt (keyP k) l).run P w = .ok none w ∧ ∀ x ∈ l, x.key ≠ keyP k) ∨ ∃ j e, (Instr.findKey kt (keyP k) l).run P w = .ok (some (j, e.val)) w ∧ l[j]? = some e ∧ e.key = keyP k := by
  cases hn : l with
  | nil =>
    refine .inl ⟨?_, by simp⟩
    unfold Instr.findKey
    simp only [Sem.run_bind, run_underlying h.h2, Result.andThen_ok, Instr.findNow]
    rfl
  | cons x xs =>
    rw [← hn]
    have hne : l ≠ [] := by rw [hn]; simp
    have e : (Instr.findKey kt (keyP k) l).run P w = (Instr.findAsking kt (keyP k) l 0).run P w := by
      unfold Instr.findKey
      simp only [Sem.run_bind, run_underlying h.h2, Result.andThen_ok, findNowP k l 0 hl hne]
    rw [e]
    rcases findAskP (h := h) k w l 0 hl with h1 | ⟨j, e', h1, h2⟩
    · exact .inl h1
    · rw [Nat.zero_add] at h1
      exact .inr ⟨j, e', h1, h2⟩
end
section
variable {es : Array MapEntry} {clk : Nat} {m : List ((Int × Int) × Bool)}
theorem MapIs.keysP (h : MapIs es clk (kvP m)) : (m.map Prod.fst).Nodup := by
  have h1 := h.st.2.2
  have h2 : es.toList.map (·.key) = (kvP m).map Prod.fst := by rw [← h.kv, List.map_map]; rfl
  rw [h2] at h1
  unfold kvP at h1
  rw [List.map_map] at h1
  unfold List.Nodup at h1 ⊢
  rw [List.pairwise_map] at h1 ⊢
  exact h1.imp fun h e => h (by simp only [Function.comp, e])
theorem MapIs.atP (h : MapIs es clk (kvP m)) {j : Nat} {e : MapEntry} (he : es.toList[j]? = some e) : ∃ k v, m[j]? = some (k, v) ∧ e.key = keyP k ∧ e.val = .bool v := by
  have h1 : (es.toList.map fun e => (e.key, e.val))[j]? = some (e.key, e.val) := by rw [List.getElem?_map, he]; rfl
  rw [h.kv] at h1
  unfold kvP at h1
  rw [List.getElem?_map] at h1
  cases hm : m[j]? with
  | none => rw [hm] at h1; cases h1
  | some x =>
    rw [hm] at h1
    simp only [Option.map_some, Option.some.injEq, Prod.mk.injEq] at h1
    exact ⟨x.1, x.2, rfl, h1.1.symm, h1.2.symm⟩
theorem MapIs.isKeyP (h : MapIs es clk (kvP m)) : ∀ x ∈ es.toList, ∃ a : Int × Int, x.key = keyP a := by
  intro x hx
  obtain ⟨j, hj⟩ := List.getElem?_of_mem hx
  obtain ⟨k, v, _, hk, _⟩ := h.atP hj
  exact ⟨k, hk⟩
theorem MapIs.findP {P : Program} {t kt et it : TypeId} [hT : MapTP P t kt et it] (h : MapIs es clk (kvP m)) (k : Int × Int) (w : World) :
    ((Instr.findKey kt (keyP k) es.toList).run P w = .ok none w ∧ (∀ x ∈ es.toList, x.key ≠ keyP k) ∧ lookP m k = none) ∨
    ∃ j e v, (Instr.findKey kt (keyP k) es.toList).run P w = .ok (some (j, .bool v)) w ∧ es.toList[j]? = some e ∧ e.key = keyP k ∧ m[j]? = some (k, v) ∧ lookP m k = some v := by
  rcases run_findKeyP (h := hT) k w es.toList h.isKeyP with ⟨h1, h2⟩ | ⟨j, e, h1, h2, h3⟩
  · refine .inl ⟨h1, h2, lookP_none.2 fun x hx hk => ?_⟩
    obtain ⟨j, hj⟩ := List.getElem?_of_mem hx
    have hl : j < es.toList.length := by
      have e1 := congrArg List.length h.kv
      rw [List.length_map] at e1
      unfold kvP at e1
      rw [List.length_map] at e1
      rw [e1]
      exact (List.getElem?_eq_some_iff.1 hj).1
    obtain ⟨k', v', hm, hk', _⟩ := h.atP (List.getElem?_eq_getElem hl)
    rw [hj] at hm
    injection hm with hm
    subst hm
    exact h2 _ (List.getElem_mem hl) (by rw [hk', ← hk])
  · obtain ⟨k', v, hm, hk, hv⟩ := h.atP h2
    rw [h3] at hk
    have hk := keyP_inj.1 hk
    subst hk
    rw [hv] at h1
    exact .inr ⟨j, e, v, h1, h2, h3, hm, lookP_of h.keysP (List.mem_of_getElem? hm)⟩
end
section
variable {P : Program} {w : World} {g : Nat} {es : Array MapEntry} {clk : Nat} {m : List ((Int × Int) × Bool)} {t kt et it : TypeId}
theorem run_look_kvP [h : MapTP P t kt et it] (hb : w.heap[g]? = some (.map es clk)) (hi : MapIs es clk (kvP m)) (k : Int × Int) : (Instr.lookup t (.map (some g)) (keyP k) false).run P w = .ok (.bool ((lookP m k).getD false)) w := by
  have hz : (zeroValue et).run P w = .ok (.bool false) w := by
    have := h.h5
    cases hi : P.info? et with
    | none => rw [hi] at this; cases this
    | some i =>
      rw [hi] at this
      simp only [Option.map_some, Option.some.injEq] at this
      simp [zeroValue, typeInfo, hi, this]
  have hc : (Instr.checkKey es.isEmpty 10000 kt (keyP k)).run P w = .ok () w := run_checkKeyP (h := h) es.isEmpty 9998 k w
  rcases hi.findP (hT := h) k w with ⟨h1, _, h3⟩ | ⟨j, e, v, h1, _, _, _, h3⟩
  · simp [Instr.lookup, run_underlying h.h1, MapKept.run_getObj_map hb, hc, h1, hz, Result.andThen, h3]
  · simp [Instr.lookup, run_underlying h.h1, MapKept.run_getObj_map hb, hc, h1, Result.andThen, h3]
end
section
variable {P : Program} {σ : St} {dst : Option Tmp} {ty : TypeId} {pos : String} {after : Array Edge} {guard : Option (Nat × Bool)} {t kt et it : TypeId}
theorem keyP_of {w : World} {μ : LMap} {k : Int × Int} {v : Value} (h : Rep w μ (.agg [.v (.int .i64 k.1), .v (.int .i64 k.2)]) v) : v = keyP k := by
  simp only [Rep, RepL] at h
  obtain ⟨vs, e, ⟨u1, us1, e1, r1, u2, us2, e2, r2, e3⟩, _⟩ := h
  subst e1 e2 e3 r1 r2
  exact e
theorem ok_look_moP [h : MapTP P t kt et it] {x y : Operand} {id : Nat} {m : List ((Int × Int) × Bool)} {k1 k2 : Int} (hx : σ.ev x = some (.mo id)) (hb : σ.blk id = some (.mp (kvP m))) (hy : σ.ev y = some (.agg [.v (.int .i64 k1), .v (.int .i64 k2)])) (hd : inB σ dst = true) : OpOK P ⟨dst, .lookup t x y false, ty, pos, after, guard⟩ σ (.v (.bool ((lookP m (k1, k2)).getD false))) [] :=
  OpOK.val hd fun X w0 σ' a w μ hag s => by
    have h1 := eval_tmp s (hag.ev x (by simp [Op.operands]) _ hx)
    have h2 : a.eval y = keyP (k1, k2) := keyP_of (eval_tmp s (hag.ev y (by simp [Op.operands]) _ hy))
    obtain ⟨g, es, clk, hm', hg, hm⟩ := s.blk id _ (hag.blk x (by simp [Op.operands]) _ id _ hx rfl hb)
    simp only [Rep] at h1
    obtain ⟨g', hm2, e⟩ := h1
    rw [hm'] at hm2
    injection hm2 with hm2
    injection hm2 with hm2
    subst hm2
    exact ⟨_, by simp [execOp, e, h2, run_look_kvP hg hm (k1, k2)], rfl⟩
theorem eff_mapNewP [h : MapTP P t kt et it] {x y z : Operand} {id : Nat} {m : List ((Int × Int) × Bool)} {k1 k2 : Int} {v : Bool} (hx : σ.ev x = some (.mo id)) (hb : σ.blk id = some (.mp (kvP m))) (hy : σ.ev y = some (.agg [.v (.int .i64 k1), .v (.int .i64 k2)])) (hz : σ.ev z = some (.v (.bool v))) (hn : lookP m (k1, k2) = none) :
    OpEff P ⟨none, .mapUpdate t x y z, ty, pos, after, guard⟩ σ (σ.setB id (.mp (kvP (m ++ [((k1, k2), v)])))) := by
  refine ⟨fun X w0 a w μ K Q s hK => ?_⟩
  have h1 := eval_tmp s hx
  have h2 : a.eval y = keyP (k1, k2) := keyP_of (eval_tmp s hy)
  have h3 := eval_v s hz
  obtain ⟨g, es, clk, hm', hg, hm⟩ := s.blk id _ hb
  simp only [Rep] at h1
  obtain ⟨g', hm2, e⟩ := h1
  rw [hm'] at hm2
  injection hm2 with hm2
  injection hm2 with hm2
  subst hm2
  have hc : (Instr.checkKey false 10000 kt (keyP (k1, k2))).run P w = .ok () w := run_checkKeyP (h := h) false 9998 (k1, k2) w
  rcases hm.findP (hT := h) (k1, k2) w with ⟨f1, f2, _⟩ | ⟨_, _, _, _, _, _, _, f3⟩
  · have hrun : (execOp a.eval ⟨none, .mapUpdate t x y z, ty, pos, after, guard⟩).run P w = .ok .skip { w with heap := w.heap.setIfInBounds g (.map (es.push { key := keyP (k1, k2), val := .bool v, born := clk }) (clk + 1)) } := by
      simp [execOp, e, h2, h3, Instr.mapUpdate, run_underlying h.h1, MapKept.run_getObj_map hg, hc, f1, MapKept.run_setObj_map _ hg, Result.andThen]
    unfold Oper.wp
    rw [hrun]
    obtain ⟨_, sm⟩ := s.relay hm' rfl (grown_set _) (b' := .mp (kvP (m ++ [((k1, k2), v)]))) (fun hl => ⟨g, _, _, hm', (heap_set hg).1, by
      rw [Array.toList_push, List.map_append, hm.kv]
      simp [kvP], stamped_push (key := keyP (k1, k2)) (val := .bool v) hm.st f2⟩)
    exact hK _ _ μ sm
  · rw [hn] at f3; cases f3
end
end Go.Proofs.YtbjepdfnmbdplaaGreat
end
section
namespace Go.Proofs.YtbjepdfnmbdplaaGreat
open Go.RowKit
set_option linter.unusedSimpArgs false
set_option linter.unusedVariables false
set_option maxRecDepth 100000
set_option maxHeartbeats 4000000
instance mapPP : MapTP Tryz.prog 73 75 4 3 := ⟨by kernel_rfl, by kernel_rfl, by kernel_rfl, by kernel_rfl, by kernel_rfl⟩
instance mapII : MapT Tryz.prog 74 3 3 := ⟨by kernel_rfl, by kernel_rfl, by kernel_rfl⟩
theorem goP6 {r : Rpl} {m : Msg} (h : m.kind = 6) : goP r m = onRsc r m := if_pos h
theorem goP7 {r : Rpl} {m : Msg} (h : m.kind = 7) : goP r m = onRsd r m := (if_neg (by omega)).trans (if_pos h)
theorem goP0 {r : Rpl} {m : Msg} (h : m.kind ≠ 6) (h2 : m.kind ≠ 7) : goP r m = onSta r m.id := (if_neg h).trans (if_neg h2)
def AskI (q : Rpl) (l : List ((Int × Int) × Bool)) : Prop := ∀ id b, lookP l (id, b) ≠ none → findB q.entries id = true ∧ b ≤ (findT q.entries id).abal
def AnsI (q : Rpl) (l : List (Int × Int)) : Prop := ∀ id b, lookI l id = some b → findB q.entries id = true ∧ b ≤ (findT q.entries id).bal
theorem AskI.rise {q s : Rpl} {l : List ((Int × Int) × Bool)} (h : AskI q l) (hr : Rise q s) : AskI s l := fun id b hl => by
  obtain ⟨h1, h2⟩ := h id b hl
  obtain ⟨h3, _, h4⟩ := hr id h1
  exact ⟨h3, by omega⟩
theorem AnsI.rise {q s : Rpl} {l : List (Int × Int)} (h : AnsI q l) (hr : Rise q s) : AnsI s l := fun id b hl => by
  obtain ⟨h1, h2⟩ := h id b hl
  obtain ⟨h3, h4, _⟩ := hr id h1
  exact ⟨h3, by omega⟩
theorem lookP_app (l : List ((Int × Int) × Bool)) (k k' : Int × Int) (v : Bool) (h : lookP (l ++ [(k, v)]) k' ≠ none) : lookP l k' ≠ none ∨ k = k' := by
  induction l with
  | nil =>
    by_cases e : k = k'
    · exact .inr e
    · exfalso
      apply h
      show (if k = k' then some v else none) = none
      rw [if_neg e]
  | cons x l ih =>
    by_cases e : x.1 = k'
    · left
      show (if x.1 = k' then some x.2 else lookP l k') ≠ none
      rw [if_pos e]
      simp
    · have h' : lookP (l ++ [(k, v)]) k' ≠ none := by
        intro h0
        apply h
        show (if x.1 = k' then some x.2 else lookP (l ++ [(k, v)]) k') = none
        rw [if_neg e, h0]
      rcases ih h' with h1 | h1
      · left
        show (if x.1 = k' then some x.2 else lookP l k') ≠ none
        rw [if_neg e]
        exact h1
      · exact .inr h1
theorem AskI.new {s : Rpl} {l : List ((Int × Int) × Bool)} (h : AskI s l) {id b : Int} (h1 : findB s.entries id = true) (h2 : b ≤ (findT s.entries id).abal) : AskI s (l ++ [((id, b), true)]) := fun id' b' hl => by
  rcases lookP_app l _ _ _ hl with hl | e
  · exact h id' b' hl
  · injection e with e1 e2
    subst e1 e2
    exact ⟨h1, h2⟩
theorem AnsI.new {s : Rpl} {l : List (Int × Int)} (h : AnsI s l) {id b : Int} (h1 : findB s.entries id = true) (h2 : b ≤ (findT s.entries id).bal) : AnsI s (updI l id b) := fun id' b' hl => by
  rw [lookI_upd] at hl
  split at hl
  · rename_i e
    injection hl with hl
    subst e hl
    exact ⟨h1, h2⟩
  · exact h id' b' hl
theorem ask_none {q : Rpl} {l : List ((Int × Int) × Bool)} (h : AskI q l) {id b : Int} (h1 : (findT q.entries id).abal < b) : lookP l (id, b) = none := by
  cases e : lookP l (id, b) with
  | none => rfl
  | some v =>
    have := (h id b (by rw [e]; simp)).2
    omega
theorem ans_lt {q : Rpl} {l : List (Int × Int)} (h : AnsI q l) {id b : Int} (h0 : 1 ≤ b) (h1 : (findT q.entries id).bal < b) : (lookI l id).getD 0 < b := by
  cases e : lookI l id with
  | none => show (0 : Int) < b; omega
  | some v =>
    have := (h id v e).2
    show v < b
    omega
theorem ronce_loop (r : Rpl) (l : List Msg) (h1 : fewR r = true) (hl30 : l.length ≤ 30) (hr0 : repB r = true) : HasSpec Tryz.prog 9 [.agg r.cs, PV.msgs l] (.v (.bool true)) := by
  have k1 := fewrep_spec r
  rw [h1] at k1
  have k3 := stk_yes hr0
  refine ⟨?_⟩; refine Spec.ofR (h := fun F w0 => ?_)
  repeat' ((conv => whnf); first | refine Q.E ?_ | (refine Stk.both (fun hb => ?_) (fun hb => ?_) <;> (try simp only [lE] at hb))); all_goals (conv => whnf)
  refine Stk.opB (ok_makeMap rfl) rfl ?_
  repeat' ((conv => whnf); first | refine Q.E ?_ | (refine Stk.both (fun hb => ?_) (fun hb => ?_) <;> (try simp only [lE] at hb))); all_goals (conv => whnf)
  refine Stk.opB (ok_makeMap rfl) rfl ?_
  repeat' ((conv => whnf); first | refine Q.E ?_ | (refine Stk.both (fun hb => ?_) (fun hb => ?_) <;> (try simp only [lE] at hb))); all_goals (conv => whnf)
  refine Stk.loop (ι := Nat × Rpl × List ((Int × Int) × Bool) × List (Int × Int)) (fun i => [(1, PV.msgs l), (2, .lp 2 0), (5, .mo 27), (6, .mo 28), (7, PV.int (i.1 : Nat))]) (fun i => [(2, .box i.2.1.cs), (27, .mp (kvP i.2.2.1)), (28, .mp (kvI i.2.2.2))]) (fun i => i.1 ≤ l.length ∧ repB i.2.1 = true ∧ AskI i.2.1 i.2.2.1 ∧ AnsI i.2.1 i.2.2.2) (fun i => l.length - i.1) (0, r, [], []) ⟨Nat.zero_le _, hr0, fun id b h => absurd rfl h, fun id b h => by cases h⟩ (Weak.gc ⟨rfl, rfl, rfl, rfl, rfl, trivial⟩ ⟨rfl, rfl, rfl, trivial⟩ rfl rfl rfl) (fun i hi => ?_)
  obtain ⟨i, q, ma, mb⟩ := i
  simp only at hi
  obtain ⟨hi, hq, ha, hb⟩ := hi
  dsimp only
  clear k1 k3
  by_cases hlt : i < l.length
  · have k2 := fewmsg_spec l[i]
    cases h2 : fewM l[i] with
    | false =>
      rw [h2] at k2
      repeat' ((conv => whnf); first | refine Q.E ?_ | (refine Stk.both (fun hb => ?_) (fun hb => ?_) <;> (try simp only [lE] at hb))); all_goals (conv => whnf)
      (refine Q.r6 (h := ?_); repeat' (first | exact Q.r0 | refine Q.r1 ?_ ?_ | refine Q.r2 ?_ | exact Q.r7 | refine Q.r3 ?_ | refine Q.r4 ?_ | refine Q.r5 ?_))
    | true =>
      rw [h2] at k2
      have k6 := rescue28_spec q l[i]
      have k7 := rescued28_spec q l[i]
      have k0 := start28_spec q l[i].id
      have hs := (go_keeps q l[i]).rep hq
      obtain ⟨hrise, htl⟩ := go_once q l[i]
      have hk : (l[i].kind = 6 ∧ goP q l[i] = onRsc q l[i]) ∨ (l[i].kind = 7 ∧ goP q l[i] = onRsd q l[i]) ∨ ((l[i].kind ≠ 6 ∧ l[i].kind ≠ 7) ∧ goP q l[i] = onSta q l[i].id) := by
        by_cases h6 : l[i].kind = 6
        · exact .inl ⟨h6, goP6 h6⟩
        · by_cases h7 : l[i].kind = 7
          · exact .inr (.inl ⟨h7, goP7 h7⟩)
          · exact .inr (.inr ⟨⟨h6, h7⟩, goP0 h6 h7⟩)
      have ha2 := ha.rise hrise
      have hb2 := hb.rise hrise
      rcases hk with ⟨hk, e⟩ | ⟨hk, e⟩ | ⟨⟨hk, hk2⟩, e⟩
      · rw [← e] at k6
        clear e k7 k0
        generalize (goP q l[i]).1 = s at *
        generalize (goP q l[i]).2 = o at *
        by_cases ho : 0 < o.length
        · obtain ⟨hx3, hx7⟩ := htl o[0] (List.getElem_mem ho)
          have j1 := tablefind_spec q.entries o[0].m.id
          by_cases h3 : o[0].m.kind = 3
          · obtain ⟨x1, x2, x3⟩ := hx3 h3
            have hn := ask_none ha x1
            have y1 : (lookP ma (o[0].m.id, o[0].m.bal)).getD false = false := by rw [hn]; rfl
            clear hx3 hx7 htl
            generalize findT q.entries o[0].m.id = w at *
            repeat' ((conv => whnf); first | refine Q.E ?_ | (refine Stk.both (fun hb => ?_) (fun hb => ?_) <;> (try simp only [lE] at hb))); all_goals (conv => whnf)
            refine Stk.op (ok_buildA rfl rfl rfl rfl) ?_
            repeat' ((conv => whnf); first | refine Q.E ?_ | (refine Stk.both (fun hb => ?_) (fun hb => ?_) <;> (try simp only [lE] at hb))); all_goals (conv => whnf)
            refine Stk.op (ok_look_moP rfl rfl rfl rfl) ?_
            repeat' ((conv => whnf); first | refine Q.E ?_ | (refine Stk.both (fun hb => ?_) (fun hb => ?_) <;> (try simp only [lE] at hb))); all_goals (conv => whnf)
            refine Stk.op (ok_buildA rfl rfl rfl rfl) ?_
            repeat' ((conv => whnf); first | refine Q.E ?_ | (refine Stk.both (fun hb => ?_) (fun hb => ?_) <;> (try simp only [lE] at hb))); all_goals (conv => whnf)
            refine Stk.eff (h := eff_mapNewP rfl rfl rfl rfl hn) (k := ?_)
            repeat' ((conv => whnf); first | refine Q.E ?_ | (refine Stk.both (fun hb => ?_) (fun hb => ?_) <;> (try simp only [lE] at hb))); all_goals (conv => whnf)
            exact ⟨(i + 1, s, ma ++ [((o[0].m.id, o[0].m.bal), true)], mb), ⟨by show i + 1 ≤ l.length; omega, hs, ha2.new x2 x3, hb2⟩, by show l.length - (i + 1) < l.length - i; omega, Weak.gc ⟨rfl, rfl, rfl, rfl, rfl, trivial⟩ ⟨rfl, rfl, rfl, trivial⟩ rfl rfl rfl⟩
          · by_cases h7 : o[0].m.kind = 7 ∨ o[0].m.kind = 6
            · obtain ⟨x0, x1, x2, x3⟩ := hx7 h7
              have y1 := ans_lt hb x0 x1
              clear hx3 hx7 htl
              generalize findT q.entries o[0].m.id = w at *
              rcases h7 with h7 | h7
              all_goals repeat' ((conv => whnf); first | refine Q.E ?_ | (refine Stk.both (fun hb => ?_) (fun hb => ?_) <;> (try simp only [lE] at hb))); all_goals (conv => whnf)
              all_goals refine Stk.op (ok_look_mo rfl rfl rfl rfl) ?_
              all_goals repeat' ((conv => whnf); first | refine Q.E ?_ | (refine Stk.both (fun hb => ?_) (fun hb => ?_) <;> (try simp only [lE] at hb))); all_goals (conv => whnf)
              all_goals refine Stk.eff (h := eff_mapSet rfl rfl rfl rfl) (k := ?_)
              all_goals repeat' ((conv => whnf); first | refine Q.E ?_ | (refine Stk.both (fun hb => ?_) (fun hb => ?_) <;> (try simp only [lE] at hb))); all_goals (conv => whnf)
              all_goals exact ⟨(i + 1, s, ma, updI mb o[0].m.id o[0].m.bal), ⟨by show i + 1 ≤ l.length; omega, hs, ha2, hb2.new x2 x3⟩, by show l.length - (i + 1) < l.length - i; omega, Weak.gc ⟨rfl, rfl, rfl, rfl, rfl, trivial⟩ ⟨rfl, rfl, rfl, trivial⟩ rfl rfl rfl⟩
            · repeat' ((conv => whnf); first | refine Q.E ?_ | (refine Stk.both (fun hb => ?_) (fun hb => ?_) <;> (try simp only [lE] at hb))); all_goals (conv => whnf)
              exact ⟨(i + 1, s, ma, mb), ⟨by show i + 1 ≤ l.length; omega, hs, ha2, hb2⟩, by show l.length - (i + 1) < l.length - i; omega, Weak.gc ⟨rfl, rfl, rfl, rfl, rfl, trivial⟩ ⟨rfl, rfl, rfl, trivial⟩ rfl rfl rfl⟩
        · repeat' ((conv => whnf); first | refine Q.E ?_ | (refine Stk.both (fun hb => ?_) (fun hb => ?_) <;> (try simp only [lE] at hb))); all_goals (conv => whnf)
          exact ⟨(i + 1, s, ma, mb), ⟨by show i + 1 ≤ l.length; omega, hs, ha2, hb2⟩, by show l.length - (i + 1) < l.length - i; omega, Weak.gc ⟨rfl, rfl, rfl, rfl, rfl, trivial⟩ ⟨rfl, rfl, rfl, trivial⟩ rfl rfl rfl⟩
      · rw [← e] at k7
        clear e k6 k0
        generalize (goP q l[i]).1 = s at *
        generalize (goP q l[i]).2 = o at *
        by_cases ho : 0 < o.length
        · obtain ⟨hx3, hx7⟩ := htl o[0] (List.getElem_mem ho)
          have j1 := tablefind_spec q.entries o[0].m.id
          by_cases h3 : o[0].m.kind = 3
          · obtain ⟨x1, x2, x3⟩ := hx3 h3
            have hn := ask_none ha x1
            have y1 : (lookP ma (o[0].m.id, o[0].m.bal)).getD false = false := by rw [hn]; rfl
            clear hx3 hx7 htl
            generalize findT q.entries o[0].m.id = w at *
            repeat' ((conv => whnf); first | refine Q.E ?_ | (refine Stk.both (fun hb => ?_) (fun hb => ?_) <;> (try simp only [lE] at hb))); all_goals (conv => whnf)
            refine Stk.op (ok_buildA rfl rfl rfl rfl) ?_
            repeat' ((conv => whnf); first | refine Q.E ?_ | (refine Stk.both (fun hb => ?_) (fun hb => ?_) <;> (try simp only [lE] at hb))); all_goals (conv => whnf)
            refine Stk.op (ok_look_moP rfl rfl rfl rfl) ?_
            repeat' ((conv => whnf); first | refine Q.E ?_ | (refine Stk.both (fun hb => ?_) (fun hb => ?_) <;> (try simp only [lE] at hb))); all_goals (conv => whnf)
            refine Stk.op (ok_buildA rfl rfl rfl rfl) ?_
            repeat' ((conv => whnf); first | refine Q.E ?_ | (refine Stk.both (fun hb => ?_) (fun hb => ?_) <;> (try simp only [lE] at hb))); all_goals (conv => whnf)
            refine Stk.eff (h := eff_mapNewP rfl rfl rfl rfl hn) (k := ?_)
            repeat' ((conv => whnf); first | refine Q.E ?_ | (refine Stk.both (fun hb => ?_) (fun hb => ?_) <;> (try simp only [lE] at hb))); all_goals (conv => whnf)
            exact ⟨(i + 1, s, ma ++ [((o[0].m.id, o[0].m.bal), true)], mb), ⟨by show i + 1 ≤ l.length; omega, hs, ha2.new x2 x3, hb2⟩, by show l.length - (i + 1) < l.length - i; omega, Weak.gc ⟨rfl, rfl, rfl, rfl, rfl, trivial⟩ ⟨rfl, rfl, rfl, trivial⟩ rfl rfl rfl⟩
          · by_cases h7 : o[0].m.kind = 7 ∨ o[0].m.kind = 6
            · obtain ⟨x0, x1, x2, x3⟩ := hx7 h7
              have y1 := ans_lt hb x0 x1
              clear hx3 hx7 htl
              generalize findT q.entries o[0].m.id = w at *
              rcases h7 with h7 | h7
              all_goals repeat' ((conv => whnf); first | refine Q.E ?_ | (refine Stk.both (fun hb => ?_) (fun hb => ?_) <;> (try simp only [lE] at hb))); all_goals (conv => whnf)
              all_goals refine Stk.op (ok_look_mo rfl rfl rfl rfl) ?_
              all_goals repeat' ((conv => whnf); first | refine Q.E ?_ | (refine Stk.both (fun hb => ?_) (fun hb => ?_) <;> (try simp only [lE] at hb))); all_goals (conv => whnf)
              all_goals refine Stk.eff (h := eff_mapSet rfl rfl rfl rfl) (k := ?_)
              all_goals repeat' ((conv => whnf); first | refine Q.E ?_ | (refine Stk.both (fun hb => ?_) (fun hb => ?_) <;> (try simp only [lE] at hb))); all_goals (conv => whnf)
              all_goals exact ⟨(i + 1, s, ma, updI mb o[0].m.id o[0].m.bal), ⟨by show i + 1 ≤ l.length; omega, hs, ha2, hb2.new x2 x3⟩, by show l.length - (i + 1) < l.length - i; omega, Weak.gc ⟨rfl, rfl, rfl, rfl, rfl, trivial⟩ ⟨rfl, rfl, rfl, trivial⟩ rfl rfl rfl⟩
            · repeat' ((conv => whnf); first | refine Q.E ?_ | (refine Stk.both (fun hb => ?_) (fun hb => ?_) <;> (try simp only [lE] at hb))); all_goals (conv => whnf)
              exact ⟨(i + 1, s, ma, mb), ⟨by show i + 1 ≤ l.length; omega, hs, ha2, hb2⟩, by show l.length - (i + 1) < l.length - i; omega, Weak.gc ⟨rfl, rfl, rfl, rfl, rfl, trivial⟩ ⟨rfl, rfl, rfl, trivial⟩ rfl rfl rfl⟩
        · repeat' ((conv => whnf); first | refine Q.E ?_ | (refine Stk.both (fun hb => ?_) (fun hb => ?_) <;> (try simp only [lE] at hb))); all_goals (conv => whnf)
          exact ⟨(i + 1, s, ma, mb), ⟨by show i + 1 ≤ l.length; omega, hs, ha2, hb2⟩, by show l.length - (i + 1) < l.length - i; omega, Weak.gc ⟨rfl, rfl, rfl, rfl, rfl, trivial⟩ ⟨rfl, rfl, rfl, trivial⟩ rfl rfl rfl⟩
      · rw [← e] at k0
        clear e k6 k7
        generalize (goP q l[i]).1 = s at *
        generalize (goP q l[i]).2 = o at *
        by_cases ho : 0 < o.length
        · obtain ⟨hx3, hx7⟩ := htl o[0] (List.getElem_mem ho)
          have j1 := tablefind_spec q.entries o[0].m.id
          by_cases h3 : o[0].m.kind = 3
          · obtain ⟨x1, x2, x3⟩ := hx3 h3
            have hn := ask_none ha x1
            have y1 : (lookP ma (o[0].m.id, o[0].m.bal)).getD false = false := by rw [hn]; rfl
            clear hx3 hx7 htl
            generalize findT q.entries o[0].m.id = w at *
            repeat' ((conv => whnf); first | refine Q.E ?_ | (refine Stk.both (fun hb => ?_) (fun hb => ?_) <;> (try simp only [lE] at hb))); all_goals (conv => whnf)
            refine Stk.op (ok_buildA rfl rfl rfl rfl) ?_
            repeat' ((conv => whnf); first | refine Q.E ?_ | (refine Stk.both (fun hb => ?_) (fun hb => ?_) <;> (try simp only [lE] at hb))); all_goals (conv => whnf)
            refine Stk.op (ok_look_moP rfl rfl rfl rfl) ?_
            repeat' ((conv => whnf); first | refine Q.E ?_ | (refine Stk.both (fun hb => ?_) (fun hb => ?_) <;> (try simp only [lE] at hb))); all_goals (conv => whnf)
            refine Stk.op (ok_buildA rfl rfl rfl rfl) ?_
            repeat' ((conv => whnf); first | refine Q.E ?_ | (refine Stk.both (fun hb => ?_) (fun hb => ?_) <;> (try simp only [lE] at hb))); all_goals (conv => whnf)
            refine Stk.eff (h := eff_mapNewP rfl rfl rfl rfl hn) (k := ?_)
            repeat' ((conv => whnf); first | refine Q.E ?_ | (refine Stk.both (fun hb => ?_) (fun hb => ?_) <;> (try simp only [lE] at hb))); all_goals (conv => whnf)
            exact ⟨(i + 1, s, ma ++ [((o[0].m.id, o[0].m.bal), true)], mb), ⟨by show i + 1 ≤ l.length; omega, hs, ha2.new x2 x3, hb2⟩, by show l.length - (i + 1) < l.length - i; omega, Weak.gc ⟨rfl, rfl, rfl, rfl, rfl, trivial⟩ ⟨rfl, rfl, rfl, trivial⟩ rfl rfl rfl⟩
          · by_cases h7 : o[0].m.kind = 7 ∨ o[0].m.kind = 6
            · obtain ⟨x0, x1, x2, x3⟩ := hx7 h7
              have y1 := ans_lt hb x0 x1
              clear hx3 hx7 htl
              generalize findT q.entries o[0].m.id = w at *
              rcases h7 with h7 | h7
              all_goals repeat' ((conv => whnf); first | refine Q.E ?_ | (refine Stk.both (fun hb => ?_) (fun hb => ?_) <;> (try simp only [lE] at hb))); all_goals (conv => whnf)
              all_goals refine Stk.op (ok_look_mo rfl rfl rfl rfl) ?_
              all_goals repeat' ((conv => whnf); first | refine Q.E ?_ | (refine Stk.both (fun hb => ?_) (fun hb => ?_) <;> (try simp only [lE] at hb))); all_goals (conv => whnf)
              all_goals refine Stk.eff (h := eff_mapSet rfl rfl rfl rfl) (k := ?_)
              all_goals repeat' ((conv => whnf); first | refine Q.E ?_ | (refine Stk.both (fun hb => ?_) (fun hb => ?_) <;> (try simp only [lE] at hb))); all_goals (conv => whnf)
              all_goals exact ⟨(i + 1, s, ma, updI mb o[0].m.id o[0].m.bal), ⟨by show i + 1 ≤ l.length; omega, hs, ha2, hb2.new x2 x3⟩, by show l.length - (i + 1) < l.length - i; omega, Weak.gc ⟨rfl, rfl, rfl, rfl, rfl, trivial⟩ ⟨rfl, rfl, rfl, trivial⟩ rfl rfl rfl⟩
            · repeat' ((conv => whnf); first | refine Q.E ?_ | (refine Stk.both (fun hb => ?_) (fun hb => ?_) <;> (try simp only [lE] at hb))); all_goals (conv => whnf)
              exact ⟨(i + 1, s, ma, mb), ⟨by show i + 1 ≤ l.length; omega, hs, ha2, hb2⟩, by show l.length - (i + 1) < l.length - i; omega, Weak.gc ⟨rfl, rfl, rfl, rfl, rfl, trivial⟩ ⟨rfl, rfl, rfl, trivial⟩ rfl rfl rfl⟩
        · repeat' ((conv => whnf); first | refine Q.E ?_ | (refine Stk.both (fun hb => ?_) (fun hb => ?_) <;> (try simp only [lE] at hb))); all_goals (conv => whnf)
          exact ⟨(i + 1, s, ma, mb), ⟨by show i + 1 ≤ l.length; omega, hs, ha2, hb2⟩, by show l.length - (i + 1) < l.length - i; omega, Weak.gc ⟨rfl, rfl, rfl, rfl, rfl, trivial⟩ ⟨rfl, rfl, rfl, trivial⟩ rfl rfl rfl⟩
  · repeat' ((conv => whnf); first | refine Q.E ?_ | (refine Stk.both (fun hb => ?_) (fun hb => ?_) <;> (try simp only [lE] at hb))); all_goals (conv => whnf)
    (refine Q.r6 (h := ?_); repeat' (first | exact Q.r0 | refine Q.r1 ?_ ?_ | refine Q.r2 ?_ | exact Q.r7 | refine Q.r3 ?_ | refine Q.r4 ?_ | refine Q.r5 ?_))
instance regainonce_spec (r : Rpl) (l : List Msg) : HasSpec Tryz.prog 9 [.agg r.cs, PV.msgs l] (.v (.bool true)) := by
  have k1 := fewrep_spec r
  have k3 := statecheck_spec r
  cases h1 : fewR r with
  | false =>
    rw [h1] at k1
    refine ⟨?_⟩; refine Spec.ofR (h := fun F w0 => ?_)
    repeat' ((conv => whnf); first | refine Q.E ?_ | (refine Stk.both (fun hb => ?_) (fun hb => ?_) <;> (try simp only [lE] at hb))); all_goals (conv => whnf)
    (refine Q.r6 (h := ?_); repeat' (first | exact Q.r0 | refine Q.r1 ?_ ?_ | refine Q.r2 ?_ | exact Q.r7 | refine Q.r3 ?_ | refine Q.r4 ?_ | refine Q.r5 ?_))
  | true =>
    rw [h1] at k1
    by_cases hl : l.length ≤ 30
    · cases hr : repB r with
      | true => exact ronce_loop r l h1 hl hr
      | false =>
        rw [hr] at k3
        have k3 : HasSpec Tryz.prog 26 [.agg r.cs] (PV.int 2) := k3
        refine ⟨?_⟩; refine Spec.ofR (h := fun F w0 => ?_)
        repeat' ((conv => whnf); first | refine Q.E ?_ | (refine Stk.both (fun hb => ?_) (fun hb => ?_) <;> (try simp only [lE] at hb))); all_goals (conv => whnf)
        (refine Q.r6 (h := ?_); repeat' (first | exact Q.r0 | refine Q.r1 ?_ ?_ | refine Q.r2 ?_ | exact Q.r7 | refine Q.r3 ?_ | refine Q.r4 ?_ | refine Q.r5 ?_))
    · refine ⟨?_⟩; refine Spec.ofR (h := fun F w0 => ?_)
      repeat' ((conv => whnf); first | refine Q.E ?_ | (refine Stk.both (fun hb => ?_) (fun hb => ?_) <;> (try simp only [lE] at hb))); all_goals (conv => whnf)
      (refine Q.r6 (h := ?_); repeat' (first | exact Q.r0 | refine Q.r1 ?_ ?_ | refine Q.r2 ?_ | exact Q.r7 | refine Q.r3 ?_ | refine Q.r4 ?_ | refine Q.r5 ?_))
end Go.Proofs.YtbjepdfnmbdplaaGreat
end
