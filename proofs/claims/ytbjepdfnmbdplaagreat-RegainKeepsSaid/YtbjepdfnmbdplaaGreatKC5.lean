/- Texts joined by wip/gen/kpack.py: R12 R13 U09 U10 U11 U04 U05 W04 W05 W06 U12 U13 U14 U15 U16 U17 U18 U19 U20 U22 U21 U23 U40 D23. -/
import Derived.MapKept
import Derived.WideLaws
import Derived.Test.YtbjepdfnmbdplaaGreatKC4
section
namespace Go.Proofs.YtbjepdfnmbdplaaGreat
set_option linter.unusedSimpArgs false
set_option linter.unusedVariables false
set_option linter.unusedSectionVars false
open Go.RowKit Go.MapKept
def kvB (m : List (Int × Bool)) : List (Value × Value) := m.map fun x => (.int .i64 x.1, .bool x.2)
def lookB : List (Int × Bool) → Int → Option Bool
  | [], _ => none
  | x :: m, k => if x.1 = k then some x.2 else lookB m k
theorem lookB_none : ∀ {m : List (Int × Bool)} {k : Int}, lookB m k = none ↔ ∀ x ∈ m, x.1 ≠ k
  | [], k => by simp [lookB]
  | x :: m, k => by
    unfold lookB
    split
    · rename_i e
      simp [e]
    · rename_i e
      rw [lookB_none]
      simp [e]
theorem lookB_of {m : List (Int × Bool)} (hn : (m.map Prod.fst).Nodup) : ∀ {k : Int} {v : Bool}, (k, v) ∈ m → lookB m k = some v := by
  induction m with
  | nil => intro k v h; cases h
  | cons x m ih =>
    intro k v h
    rw [List.map_cons, List.nodup_cons] at hn
    unfold lookB
    rcases List.mem_cons.1 h with h | h
    · rw [← h]
      simp
    · rw [if_neg (fun e => hn.1 (by rw [e]; exact List.mem_map.2 ⟨_, h, rfl⟩))]
      exact ih hn.2 h
section
variable {es : Array MapEntry} {clk : Nat} {m : List (Int × Bool)}
theorem MapIs.keysB (h : MapIs es clk (kvB m)) : (m.map Prod.fst).Nodup := by
  have h1 := h.st.2.2
  have h2 : es.toList.map (·.key) = (kvB m).map Prod.fst := by rw [← h.kv, List.map_map]; rfl
  rw [h2] at h1
  unfold kvB at h1
  rw [List.map_map] at h1
  unfold List.Nodup at h1 ⊢
  rw [List.pairwise_map] at h1 ⊢
  exact h1.imp fun h e => h (by simp only [Function.comp, e])
theorem MapIs.atB (h : MapIs es clk (kvB m)) {j : Nat} {e : MapEntry} (he : es.toList[j]? = some e) : ∃ k v, m[j]? = some (k, v) ∧ e.key = .int .i64 k ∧ e.val = .bool v := by
  have h1 : (es.toList.map fun e => (e.key, e.val))[j]? = some (e.key, e.val) := by rw [List.getElem?_map, he]; rfl
  rw [h.kv] at h1
  unfold kvB at h1
  rw [List.getElem?_map] at h1
  cases hm : m[j]? with
  | none => rw [hm] at h1; cases h1
  | some x =>
    rw [hm] at h1
    simp only [Option.map_some, Option.some.injEq, Prod.mk.injEq] at h1
    exact ⟨x.1, x.2, rfl, h1.1.symm, h1.2.symm⟩
theorem MapIs.isKeyB (h : MapIs es clk (kvB m)) : ∀ x ∈ es.toList, IsKey (.int .i64) x.key := by
  intro x hx
  obtain ⟨j, hj⟩ := List.getElem?_of_mem hx
  obtain ⟨k, v, _, hk, _⟩ := h.atB hj
  rw [hk]
  rfl
theorem MapIs.findB (h : MapIs es clk (kvB m)) (k : Int) :
    (Instr.findNow (.int .i64) (.int .i64 k) es.toList 0 = some none ∧ (∀ x ∈ es.toList, x.key ≠ .int .i64 k) ∧ lookB m k = none) ∨
    ∃ j e v, Instr.findNow (.int .i64) (.int .i64 k) es.toList 0 = some (some (j, .bool v)) ∧ es.toList[j]? = some e ∧ e.key = .int .i64 k ∧ m[j]? = some (k, v) ∧ lookB m k = some v := by
  rcases findNow_spec (d := .int .i64) (k := .int .i64 k) rfl es.toList 0 h.isKeyB with ⟨h1, h2⟩ | ⟨j, e, h1, h2, h3⟩
  · refine .inl ⟨h1, h2, lookB_none.2 fun x hx hk => ?_⟩
    obtain ⟨j, hj⟩ := List.getElem?_of_mem hx
    have hl : j < es.toList.length := by
      have e1 := congrArg List.length h.kv
      rw [List.length_map] at e1
      unfold kvB at e1
      rw [List.length_map] at e1
      rw [e1]
      exact (List.getElem?_eq_some_iff.1 hj).1
    obtain ⟨k', v', hm, hk', _⟩ := h.atB (List.getElem?_eq_getElem hl)
    rw [hj] at hm
    injection hm with hm
    subst hm
    exact h2 _ (List.getElem_mem hl) (by rw [hk', ← hk])
  · obtain ⟨k', v, hm, hk, hv⟩ := h.atB h2
    rw [h3] at hk
    injection hk with _ hk
    subst hk
    rw [Nat.zero_add, hv] at h1
    exact .inr ⟨j, e, v, h1, h2, h3, hm, lookB_of h.keysB (List.mem_of_getElem? hm)⟩
end
class MapTB (P : Program) (t : TypeId) (kt et : outParam TypeId) : Prop where
  h1 : P.underlying t = some (.map kt et)
  h2 : P.underlying kt = some (.int .i64)
  h3 : (P.info? et).map (·.zero) = some (some (.bool false))
section
variable {P : Program} {w : World} {g : Nat} {es : Array MapEntry} {clk : Nat} {m : List (Int × Bool)} {t kt et : TypeId}
theorem run_look_kvB [h : MapTB P t kt et] (hb : w.heap[g]? = some (.map es clk)) (hi : MapIs es clk (kvB m)) (k : Int) (ok : Bool) : (Instr.lookup t (.map (some g)) (.int .i64 k) ok).run P w = .ok (if ok then .tuple #[.bool ((lookB m k).getD false), .bool (lookB m k).isSome] else .bool ((lookB m k).getD false)) w := by
  have hz : (zeroValue et).run P w = .ok (.bool false) w := by
    have := h.h3
    cases hi : P.info? et with
    | none => rw [hi] at this; cases this
    | some i =>
      rw [hi] at this
      simp only [Option.map_some, Option.some.injEq] at this
      simp [zeroValue, typeInfo, hi, this]
  rcases hi.findB k with ⟨h1, _, h3⟩ | ⟨j, e, v, h1, _, _, _, h3⟩
  · cases ok <;> simp [Instr.lookup, run_underlying h.h1, MapKept.run_getObj_map hb, run_checkKey (d := .int .i64) (k := .int .i64 k) h.h2 rfl, run_findKey h.h2 h1, hz, Result.andThen, h3]
  · cases ok <;> simp [Instr.lookup, run_underlying h.h1, MapKept.run_getObj_map hb, run_checkKey (d := .int .i64) (k := .int .i64 k) h.h2 rfl, run_findKey h.h2 h1, Result.andThen, h3]
end
def mapRB (m : List (Int × Bool)) (k : Int) (ok : Bool) : PV := bif ok then .tup [.v (.bool ((lookB m k).getD false)), .v (.bool (lookB m k).isSome)] else .v (.bool ((lookB m k).getD false))
section
variable {P : Program} {σ : St} {dst : Option Tmp} {ty : TypeId} {pos : String} {after : Array Edge} {guard : Option (Nat × Bool)} {t kt et : TypeId}
theorem mapRB_rep {w : World} {μ : LMap} (m : List (Int × Bool)) (k : Int) (ok : Bool) : Rep w μ (mapRB m k ok) (if ok then .tuple #[.bool ((lookB m k).getD false), .bool (lookB m k).isSome] else .bool ((lookB m k).getD false)) := by
  cases ok with
  | false => exact rfl
  | true => exact ⟨_, rfl, _, _, rfl, rfl, _, _, rfl, rfl, rfl⟩
theorem ok_look_moB [h : MapTB P t kt et] {x y : Operand} {id : Nat} {m : List (Int × Bool)} {k : Int} {ok : Bool} (hx : σ.ev x = some (.mo id)) (hb : σ.blk id = some (.mp (kvB m))) (hy : σ.ev y = some (.v (.int .i64 k))) (hd : inB σ dst = true) : OpOK P ⟨dst, .lookup t x y ok, ty, pos, after, guard⟩ σ (mapRB m k ok) [] :=
  OpOK.val hd fun X w0 σ' a w μ hag s => by
    have h1 := eval_tmp s (hag.ev x (by simp [Op.operands]) _ hx)
    have h2 := eval_v s (hag.ev y (by simp [Op.operands]) _ hy)
    obtain ⟨g, es, clk, hm', hg, hm⟩ := s.blk id _ (hag.blk x (by simp [Op.operands]) _ id _ hx rfl hb)
    simp only [Rep] at h1
    obtain ⟨g', hm2, e⟩ := h1
    rw [hm'] at hm2
    injection hm2 with hm2
    injection hm2 with hm2
    subst hm2
    exact ⟨_, by simp [execOp, e, h2, run_look_kvB hg hm k ok], mapRB_rep m k ok⟩
theorem eff_mapNewB [h : MapTB P t kt et] {x y z : Operand} {id : Nat} {m : List (Int × Bool)} {k : Int} {v : Bool} (hx : σ.ev x = some (.mo id)) (hb : σ.blk id = some (.mp (kvB m))) (hy : σ.ev y = some (.v (.int .i64 k))) (hz : σ.ev z = some (.v (.bool v))) (hn : lookB m k = none) :
    OpEff P ⟨none, .mapUpdate t x y z, ty, pos, after, guard⟩ σ (σ.setB id (.mp (kvB (m ++ [(k, v)])))) := by
  refine ⟨fun X w0 a w μ K Q s hK => ?_⟩
  have h1 := eval_tmp s hx
  have h2 := eval_v s hy
  have h3 := eval_v s hz
  obtain ⟨g, es, clk, hm', hg, hm⟩ := s.blk id _ hb
  simp only [Rep] at h1
  obtain ⟨g', hm2, e⟩ := h1
  rw [hm'] at hm2
  injection hm2 with hm2
  injection hm2 with hm2
  subst hm2
  rcases hm.findB k with ⟨f1, f2, _⟩ | ⟨_, _, _, _, _, _, _, f3⟩
  · have hrun : (execOp a.eval ⟨none, .mapUpdate t x y z, ty, pos, after, guard⟩).run P w = .ok .skip { w with heap := w.heap.setIfInBounds g (.map (es.push { key := .int .i64 k, val := .bool v, born := clk }) (clk + 1)) } := by
      simp [execOp, e, h2, h3, Instr.mapUpdate, run_underlying h.h1, MapKept.run_getObj_map hg, run_checkKey (d := .int .i64) (k := .int .i64 k) h.h2 rfl, run_findKey h.h2 f1, MapKept.run_setObj_map _ hg, Result.andThen]
    unfold Oper.wp
    rw [hrun]
    obtain ⟨_, sm⟩ := s.relay hm' rfl (grown_set _) (b' := .mp (kvB (m ++ [(k, v)]))) (fun hl => ⟨g, _, _, hm', (heap_set hg).1, by
      rw [Array.toList_push, List.map_append, hm.kv]
      simp [kvB], stamped_push (key := .int .i64 k) (val := .bool v) hm.st f2⟩)
    exact hK _ _ μ sm
  · rw [hn] at f3; cases f3
class ConcT (P : Program) (t : TypeId) : Prop where
  h : P.concrete t = true
class IfcT (P : Program) (t : TypeId) : Prop where
  h : P.underlying t = some (.interface (P.methodsAt t))
theorem ok_mkIfc {t : TypeId} {x : Operand} {p : PV} [h : ConcT P t] (hx : σ.ev x = some p) (hd : inB σ dst = true) : OpOK P ⟨dst, .makeInterface t x, ty, pos, after, guard⟩ σ (.ifc t p) [] :=
  OpOK.val hd fun X w0 σ' a w μ hag s => by
    have h1 := eval_tmp s (hag.ev x (by simp [Op.operands]) _ hx)
    refine ⟨.iface t (a.eval x), ?_, a.eval x, rfl, h1⟩
    show ((do pure (Next.value (← Instr.makeInterface t (a.eval x)))) : Go.Sem Next).run P w = _
    rw [Sem.run_bind, run_makeInterface w t _ h.h, Result.andThen_ok]
    rfl
theorem ok_ifcNe {t t' yt : TypeId} {x : Operand} {p : PV} [h : IfcT P t] (hx : σ.ev x = some (.ifc t' p)) (hd : inB σ dst = true) : OpOK P ⟨dst, .binOp .neq t x (.const .nilIface) yt, ty, pos, after, guard⟩ σ (.v (.bool true)) [] :=
  OpOK.val hd fun X w0 σ' a w μ hag s => by
    have h1 := eval_tmp s (hag.ev x (by simp [Op.operands]) _ hx)
    simp only [Rep] at h1
    obtain ⟨z, e, _⟩ := h1
    refine ⟨.bool true, ?_, rfl⟩
    show ((do pure (Next.value (← (do eqGuard .neq t x (.const .nilIface) (a.eval x) .nilIface; binOp .neq t (a.eval x) .nilIface)))) : Go.Sem Next).run P w = _
    rw [e]
    show ((do pure (Next.value (← (do pure (); binOp .neq t (.iface t' z) .nilIface)))) : Go.Sem Next).run P w = _
    rw [Sem.run_bind, run_neq_held_nil w t t' z h.h, Result.andThen_ok]
    rfl
theorem ok_nilNe {t yt : TypeId} {x : Operand} [h : IfcT P t] (hx : σ.ev x = some (.v .nilIface)) (hd : inB σ dst = true) : OpOK P ⟨dst, .binOp .neq t x (.const .nilIface) yt, ty, pos, after, guard⟩ σ (.v (.bool false)) [] :=
  OpOK.val hd fun X w0 σ' a w μ hag s => by
    have e := eval_v s (hag.ev x (by simp [Op.operands]) _ hx)
    refine ⟨.bool false, ?_, rfl⟩
    show ((do pure (Next.value (← (do eqGuard .neq t x (.const .nilIface) (a.eval x) .nilIface; binOp .neq t (a.eval x) .nilIface)))) : Go.Sem Next).run P w = _
    rw [e, eqGuard_nil_constR]
    show ((do pure (Next.value (← (do pure (); binOp .neq t .nilIface .nilIface)))) : Go.Sem Next).run P w = _
    rw [Sem.run_bind, run_neq_nil_nil w t h.h, Result.andThen_ok]
    rfl
end
section
variable {X : XF} {w0 : World}
theorem Weak.hide {nt d : Nat} {t : TypeId} {p : PV} {env : List (Nat × PV)} {lh : List (Nat × LB)} : Weak X w0 ⟨nt, (d, .ifc t p) :: env, lh⟩ ⟨nt, (d, .ifc t .any) :: env, lh⟩ := ⟨fun a w μ s => ⟨μ, s.nt, s.defers, s.keep, s.F, s.hF, s.hX, s.fr, fun t' q hq => by
  by_cases e : t' = d
  · subst e
    have h1 := s.env t' (.ifc t p) (look_cons_eq t' _ env)
    obtain ⟨y, hy, r⟩ := h1
    have hq' : look t' ((t', PV.ifc t .any) :: env) = some q := hq
    rw [look_cons_eq] at hq'
    injection hq' with hq'
    subst hq'
    simp only [Rep] at r ⊢
    obtain ⟨z, e, _⟩ := r
    exact ⟨y, hy, z, e, trivial⟩
  · have hq' : look t' ((d, PV.ifc t .any) :: env) = some q := hq
    rw [look_cons_ne e] at hq'
    exact s.env t' q (by show look t' ((d, PV.ifc t p) :: env) = some q; rw [look_cons_ne e]; exact hq'), s.blk, s.dom, s.apart, s.fresh⟩⟩
end
section
variable {P : Program} {X : XF} {w0 : World} {T : TT} [tb : TabT P T] {K : Exit → St → Prop}
theorem Stk.appC {g d' : Nat} {args : List PV} {A : PV → Option LB → StepR} {nt d id : Nat} {b : LB} {p : PV} {env : List (Nat × PV)} {lh : List (Nat × LB)} {fs : List Fr} {o : Oper} {ops : Array Oper} {l : List Oper} (hg : o.guard = none) (h : OpEff P o ⟨nt, env, lh⟩ ((St.setB ⟨nt, env, lh⟩ id b).put (some d) p)) (k : GoR P X w0 T (.next ⟨.ops ops l, nt, (d, p) :: env, (id, b) :: lh, fs⟩) K) :
    Stk P X w0 T (.call g args d' A ⟨.ops ops (o :: l), nt, env, lh, fs⟩) K := ⟨.inr (.inr (RW.stA hg h (k.sem tb.ok tb.mixed)))⟩
end
end Go.Proofs.YtbjepdfnmbdplaaGreat
end
section
namespace Go.Proofs.YtbjepdfnmbdplaaGreat
set_option linter.unusedSimpArgs false
set_option linter.unusedVariables false
set_option linter.unusedSectionVars false
open Go.RowKit
def LMap.rst (μ : LMap) (id : Nat) (z : Value) : LMap := ⟨μ.F, fun k => if k = id then some (.row z 0) else μ.m k⟩
theorem LMap.rst_ne (μ : LMap) {id k : Nat} {z : Value} (h : k ≠ id) : (μ.rst id z).m k = μ.m k := if_neg h
theorem LMap.rst_eq (μ : LMap) (id : Nat) (z : Value) : (μ.rst id z).m id = some (.row z 0) := if_pos rfl
theorem LMap.rst_owns {μ : LMap} {id ver : Nat} {z : Value} (hm : μ.m id = some (.row z ver)) : (μ.rst id z).owns = μ.owns := by
  funext g
  refine propext ⟨fun h => ?_, fun h => ?_⟩
  · rcases h with h | ⟨k, l, hl, hb⟩
    · exact .inl h
    · by_cases e : k = id
      · subst e
        rw [LMap.rst_eq] at hl
        injection hl with hl
        subst hl
        exact .inr ⟨k, _, hm, hb⟩
      · rw [LMap.rst_ne _ e] at hl
        exact .inr ⟨k, l, hl, hb⟩
  · rcases h with h | ⟨k, l, hl, hb⟩
    · exact .inl h
    · by_cases e : k = id
      · subst e
        rw [hm] at hl
        injection hl with hl
        subst hl
        exact .inr ⟨k, _, LMap.rst_eq _ _ _, hb⟩
      · exact .inr ⟨k, l, by rw [LMap.rst_ne _ e]; exact hl, hb⟩
theorem LMap.rst_shut {μ : LMap} {id ver : Nat} {z : Value} (hm : μ.m id = some (.row z ver)) : (μ.rst id z).shut = μ.shut := by
  unfold LMap.shut
  rw [LMap.rst_owns hm]
mutual
theorem Rep.rst {w : World} {μ : LMap} {id ver : Nat} {z : Value} (hm : μ.m id = some (.row z ver)) : ∀ (p : PV) (y : Value), p.noId id = true → Rep w μ p y → Rep w (μ.rst id z) p y
  | .v _, _, _, r => r
  | .any, _, _, _ => trivial
  | .agg cs, _, h, ⟨vs, e, r, h1⟩ => ⟨vs, e, RepL.rst hm cs vs (by simpa [PV.noId] using h) r, h1⟩
  | .tup cs, _, h, ⟨vs, e, r⟩ => ⟨vs, e, RepL.rst hm cs vs (by simpa [PV.noId] using h) r⟩
  | .sl sz xs, _, _, ⟨A, c, e, h1, h2, r⟩ => ⟨A, c, e, h1, h2, by rw [LMap.rst_shut hm]; exact r⟩
  | .ptr cs, _, _, ⟨a, e, r⟩ => ⟨a, e, by rw [LMap.rst_shut hm]; exact r⟩
  | .lp i o, _, h, ⟨g, hg, e⟩ => ⟨g, by rw [LMap.rst_ne _ (beq_ne h)]; exact hg, e⟩
  | .row i ver, _, h, ⟨z, k, hz, r⟩ => ⟨z, k, by rw [LMap.rst_ne _ (beq_ne h)]; exact hz, r⟩
  | .rp i ver _ _ _, _, h, ⟨z, k, hz, r⟩ => ⟨z, k, by rw [LMap.rst_ne _ (beq_ne h)]; exact hz, r⟩
  | .own _ _ _, _, _, r => r
  | .fn _ first caps, _, h, ⟨vs, us, e, r1, r2⟩ => by
    simp only [PV.noId, Bool.and_eq_true] at h
    exact ⟨vs, us, e, RepL.rst hm first vs h.1 r1, RepL.rst hm caps us h.2 r2⟩
  | .ifc _ x, _, h, ⟨z, e, r⟩ => ⟨z, e, Rep.rst hm x z (by simpa [PV.noId] using h) r⟩
  | .rs i ver _ _ _, _, h, ⟨z, k, hz, r⟩ => ⟨z, k, by rw [LMap.rst_ne _ (beq_ne h)]; exact hz, r⟩
  | .mp _, _, _, ⟨g, es, clk, e, hg, ho, hm'⟩ => ⟨g, es, clk, e, hg, by rw [LMap.rst_owns hm]; exact ho, hm'⟩
  | .mo i, _, h, ⟨g, hg, e⟩ => ⟨g, by rw [LMap.rst_ne _ (beq_ne h)]; exact hg, e⟩
theorem RepL.rst {w : World} {μ : LMap} {id ver : Nat} {z : Value} (hm : μ.m id = some (.row z ver)) : ∀ (cs : List PV) (vs : List Value), noIdL id cs = true → RepL w μ cs vs → RepL w (μ.rst id z) cs vs
  | [], _, _, r => r
  | c :: cs, _, h, ⟨u, us, e, r1, r2⟩ => by
    simp only [noIdL, Bool.and_eq_true] at h
    exact ⟨u, us, e, Rep.rst hm c u h.1 r1, RepL.rst hm cs us h.2 r2⟩
end
mutual
theorem noId_closed {id : Nat} : ∀ (p : PV), p.closed = true → p.noId id = true
  | .v _, _ | .any, _ | .sl _ _, _ | .ptr _, _ | .mp _, _ => rfl
  | .agg cs, h => by simp only [PV.closed] at h; simp only [PV.noId]; exact noIdL_closed cs h
  | .tup cs, h => by simp only [PV.closed] at h; simp only [PV.noId]; exact noIdL_closed cs h
  | .lp _ _, h => by cases h
  | .row _ _, h => by cases h
  | .rp _ _ _ _ _, h => by cases h
  | .own _ _ _, _ => rfl
  | .rs _ _ _ _ _, h => by cases h
  | .mo _, h => by cases h
  | .fn _ a b, h => by
    simp only [PV.closed, Bool.and_eq_true] at h
    simp only [PV.noId, Bool.and_eq_true]
    exact ⟨noIdL_closed a h.1, noIdL_closed b h.2⟩
  | .ifc _ x, h => by simp only [PV.closed] at h; simp only [PV.noId]; exact noId_closed x h
theorem noIdL_closed {id : Nat} : ∀ (cs : List PV), closedL cs = true → noIdL id cs = true
  | [], _ => rfl
  | c :: cs, h => by
    simp only [closedL, Bool.and_eq_true] at h
    simp only [noIdL, Bool.and_eq_true]
    exact ⟨noId_closed c h.1, noIdL_closed cs h.2⟩
end
theorem Weak.rever {X : XF} {w0 : World} {nt : Nat} {env env' : List (Nat × PV)} {lh lh' : List (Nat × LB)} {id ver rt sz : Nat} {xs : List (List PV)} (hb : look id lh = some (.row rt sz ver xs)) (hc : xs.all closedL = true) (he : frzE ⟨nt, env, lh⟩ id (.row id ver) (.row id 0) env') (hb1 : frzB ⟨nt, env, lh⟩ id lh') (hb2 : keepsB lh lh' id = true) (hfr : frNo id X.fr = true := by rfl) :
    Weak X w0 ⟨nt, env, lh⟩ ⟨nt, env', (id, .row rt sz 0 xs) :: lh'⟩ := by
  refine ⟨fun a w μ s => ?_⟩
  obtain ⟨y, vs, hm, hown, r, hl, h1⟩ := s.blk id _ hb
  refine ⟨μ.rst id y, s.nt, s.defers, s.keep, s.F, s.hF, ?_, ?_, ?_, ?_, ?_, ?_, ?_⟩
  · exact s.hX
  · intro e he' t p hp
    obtain ⟨z, hz, rz⟩ := s.fr e he' t p hp
    exact ⟨z, hz, Rep.rst hm p z (List.all_eq_true.1 (List.all_eq_true.1 hfr e he') (t, p) (look_mem hp)) rz⟩
  · intro t p hp
    rcases frzE_get he t p hp with ⟨hg, hno⟩ | ⟨hg, rfl⟩
    · obtain ⟨z, hz, rz⟩ := s.env t p hg
      exact ⟨z, hz, Rep.rst hm p z hno rz⟩
    · obtain ⟨z, hz, rz⟩ := s.env t _ hg
      refine ⟨z, hz, ?_⟩
      simp only [Rep] at rz ⊢
      obtain ⟨z', k, hz', _, ho, e⟩ := rz
      rw [hm] at hz'
      injection hz' with hz'
      injection hz' with e1 e2
      subst e1 e2
      exact ⟨y, 0, LMap.rst_eq _ _ _, Nat.le_refl _, ho, fun _ => e rfl⟩
  · intro k b hk
    have hk : look k ((id, .row rt sz 0 xs) :: lh') = some b := hk
    by_cases e : k = id
    · subst e
      rw [look_cons_eq] at hk
      injection hk with hk
      subst hk
      exact ⟨y, vs, LMap.rst_eq _ _ _, hown, RepL.rst hm _ _ (noIdL_closed _ (closedL_flatten hc)) r, hl, h1⟩
    · rw [look_cons_ne e] at hk
      obtain ⟨hne, hno, hkb⟩ := frzB_get hb1 k b hk
      have hok := s.blk k b hkb
      cases b with
      | box cells =>
        obtain ⟨g, cs, ty, hm', hg, r', h1'⟩ := hok
        exact ⟨g, cs, ty, by rw [LMap.rst_ne _ hne]; exact hm', hg, RepL.rst hm _ _ hno r', h1'⟩
      | row ty sz' ver' xs' =>
        obtain ⟨y', vs', hm', hown', r', h1', h2'⟩ := hok
        exact ⟨y', vs', by rw [LMap.rst_ne _ hne]; exact hm', hown', RepL.rst hm _ _ (noIdL_flatten hno) r', h1', h2'⟩
      | mp kv =>
        obtain ⟨g, es, clk, hm', r'⟩ := hok
        exact ⟨g, es, clk, by rw [LMap.rst_ne _ hne]; exact hm', r'⟩
      | it kv seen =>
        obtain ⟨g, gm, es, clk, bs, hm', hg, hgm, ho, r'⟩ := hok
        exact ⟨g, gm, es, clk, bs, by rw [LMap.rst_ne _ hne]; exact hm', hg, hgm, by rw [LMap.rst_owns hm]; exact ho, r'⟩
  · intro k l hk
    show ∃ b, look k ((id, .row rt sz 0 xs) :: lh') = some b
    by_cases e : k = id
    · subst e; exact ⟨_, look_cons_eq _ _ _⟩
    · rw [LMap.rst_ne _ e] at hk
      obtain ⟨b, hkb⟩ := s.dom k l hk
      rw [look_cons_ne e]
      cases hl' : look k lh' with
      | none =>
        have : look k lh = some b := hkb
        rw [keepsB_spec hb2 k e hl'] at this
        cases this
      | some b' => exact ⟨b', rfl⟩
  · intro k k' l l' g h1 h2 g1 g2
    by_cases e : k = id
    · by_cases e' : k' = id
      · rw [e, e']
      · subst e
        rw [LMap.rst_eq] at h1
        injection h1 with h1
        subst h1
        rw [LMap.rst_ne _ e'] at h2
        exact s.apart k k' _ l' g hm h2 g1 g2
    · rw [LMap.rst_ne _ e] at h1
      by_cases e' : k' = id
      · subst e'
        rw [LMap.rst_eq] at h2
        injection h2 with h2
        subst h2
        exact s.apart k k' l _ g h1 hm g1 g2
      · rw [LMap.rst_ne _ e'] at h2
        exact s.apart k k' l l' g h1 h2 g1 g2
  · intro k l g hk hg
    by_cases e : k = id
    · subst e
      rw [LMap.rst_eq] at hk
      injection hk with hk
      subst hk
      exact s.fresh k _ g hm hg
    · rw [LMap.rst_ne _ e] at hk
      exact s.fresh k l g hk hg
end Go.Proofs.YtbjepdfnmbdplaaGreat
end
section
namespace Go.Proofs.YtbjepdfnmbdplaaGreat
open Go.RowKit
set_option linter.unusedSimpArgs false
set_option linter.unusedVariables false
set_option maxRecDepth 100000
set_option maxHeartbeats 1000000
instance mapIB : MapTB Tryz.prog 238 3 4 := ⟨by kernel_rfl, by kernel_rfl, by kernel_rfl⟩
def seenM (l : List Att) : List (Int × Bool) := l.map fun a => (a.id, true)
theorem look_seen : ∀ (l : List Att) (id : Int), lookB (seenM l) id = if l.any (sameId id) then some true else none
  | [], _ => rfl
  | a :: l, id => by
    show (if a.id = id then some true else lookB (seenM l) id) = _
    rw [look_seen l id, List.any_cons]
    by_cases h : a.id = id
    · rw [if_pos h, show sameId id a = true from decide_eq_true h]
      rfl
    · rw [if_neg h, show sameId id a = false from decide_eq_false h]
      rfl
theorem ok_seen {P : Program} {σ : St} {dst : Option Tmp} {ty : TypeId} {pos : String} {after : Array Edge} {guard : Option (Nat × Bool)} {t kt et : TypeId} [h : MapTB P t kt et] {x y : Operand} {id : Nat} {l : List Att} {k : Int} {b : Bool} (hx : σ.ev x = some (.mo id)) (hb : σ.blk id = some (.mp (kvB (seenM l)))) (hy : σ.ev y = some (.v (.int .i64 k))) (hs : l.any (sameId k) = b) (hd : inB σ dst = true) : OpOK P ⟨dst, .lookup t x y false, ty, pos, after, guard⟩ σ (.v (.bool b)) [] := by
  have h1 := ok_look_moB (P := P) (σ := σ) (dst := dst) (ty := ty) (pos := pos) (after := after) (guard := guard) (t := t) (ok := false) hx hb hy hd
  have h2 : mapRB (seenM l) k false = .v (.bool b) := by
    show PV.v (.bool ((lookB (seenM l) k).getD false)) = _
    rw [look_seen, hs]
    cases b <;> rfl
  rw [h2] at h1
  exact h1
theorem own_att {lo hi : Int} {l : List Att} {i : Nat} (h : prefTo (ownP lo hi) l i = true) (hi' : i ≤ l.length) : lo ≤ lastI Att.t lo (l.take i) ∧ (0 < i → lastI Att.t lo (l.take i) ≤ hi) := by
  by_cases h0 : 0 < i
  · have h1 := (ownP_iff.1 (prefTo_at h (show i - 1 < i by omega) (by omega))).1
    rw [lastI_pos Att.t lo hi' h0]
    omega
  · obtain rfl : i = 0 := by omega
    rw [lastI_zero]
    omega
theorem clk_no1 {now floor : Int} {own : List Att} (h : ¬ (0 ≤ floor ∧ floor ≤ now ∧ now ≤ 1000000)) : clkB now floor own = false := by unfold clkB; rw [decide_eq_false h]; rfl
theorem clk_no2 {now floor : Int} {own : List Att} {i : Nat} (hi : i < own.length) (h : ownP floor now (own.take i) own[i] = false) : clkB now floor own = false := by unfold clkB; rw [pref_bad hi h, Bool.and_false]
theorem clk_yes {now floor : Int} {own : List Att} {i : Nat} (h0 : 0 ≤ floor ∧ floor ≤ now ∧ now ≤ 1000000) (h1 : ¬ i < own.length) (h2 : i ≤ own.length) (h : prefTo (ownP floor now) own i = true) : clkB now floor own = true := by unfold clkB; rw [decide_eq_true h0, pref_end (by omega) h2 h]; rfl
instance clkcheck_spec (now floor : Int) (own : List Att) : HasSpec Tryz.prog 166 [PV.int now, PV.int floor, PV.atts own] (PV.int (errI (clkB now floor own) 2)) := by
  by_cases h0 : 0 ≤ floor ∧ floor ≤ now ∧ now ≤ 1000000
  · refine ⟨Spec.bound 2 rfl fun hl => ?_⟩; rw [List.length_map] at hl; refine Spec.ofR (h := fun F w0 => ?_)
    repeat' ((conv => whnf); first | refine Q.E ?_ | (refine Stk.both (fun hb => ?_) (fun hb => ?_) <;> (try simp only [lE] at hb))); all_goals (conv => whnf)
    refine Stk.opB (ok_makeMap rfl) rfl ?_
    repeat' ((conv => whnf); first | refine Q.E ?_ | (refine Stk.both (fun hb => ?_) (fun hb => ?_) <;> (try simp only [lE] at hb))); all_goals (conv => whnf)
    refine Stk.loop (ι := Nat) (fun i => [(0, PV.int now), (7, PV.int (lastI Att.t floor (own.take i))), (8, .mo 23), (24, PV.atts own), (25, PV.int (own.length : Nat)), (26, PV.int (i : Nat))]) (fun i => [(23, .mp (kvB (seenM (own.take i))))]) (fun i => i ≤ own.length ∧ prefTo (ownP floor now) own i = true) (fun i => own.length - i) 0 ⟨Nat.zero_le _, rfl⟩ (Weak.gc ⟨rfl, rfl, rfl, rfl, rfl, rfl, trivial⟩ ⟨rfl, trivial⟩ rfl rfl rfl) (fun i hi => ?_)
    obtain ⟨hi, hp⟩ := hi
    have hb := (own_att hp hi).1
    by_cases hlt : i < own.length
    · have hs := lastI_succ Att.t floor hlt
      have hm : seenM (own.take (i + 1)) = seenM (own.take i) ++ [(own[i].id, true)] := by
        unfold seenM
        rw [take_snoc' own i hlt, List.map_append]
        rfl
      have hlk := look_seen (own.take i) own[i].id
      cases hid : idB own[i].id with
      | false =>
        have ji := idchk_no hid
        rw [clk_no2 hlt (ownP_f fun h => by rw [hid] at h; exact absurd h.1.2.2.2 (by simp))]
        generalize lastI Att.t floor (own.take i) = la at *
        repeat' ((conv => whnf); first | refine Q.E ?_ | (refine Stk.both (fun hb => ?_) (fun hb => ?_) <;> (try simp only [lE] at hb))); all_goals (conv => whnf)
        all_goals (refine Q.r6 (h := ?_); repeat' (first | exact Q.r0 | refine Q.r1 ?_ ?_ | refine Q.r2 ?_ | exact Q.r7 | refine Q.r3 ?_ | refine Q.r4 ?_ | refine Q.r5 ?_))
      | true =>
        have ji := idchk_yes hid
        cases hd : (own.take i).any (sameId own[i].id) with
        | true =>
          rw [clk_no2 hlt (ownP_f fun h => by rw [hd] at h; exact absurd h.2 (by simp))]
          generalize lastI Att.t floor (own.take i) = la at *
          repeat' ((conv => whnf); first | refine Q.E ?_ | (refine Stk.both (fun hb => ?_) (fun hb => ?_) <;> (try simp only [lE] at hb))); all_goals (conv => whnf)
          all_goals first | (refine Stk.op (ok_seen rfl rfl rfl hd rfl) ?_) | skip
          all_goals repeat' ((conv => whnf); first | refine Q.E ?_ | (refine Stk.both (fun hb => ?_) (fun hb => ?_) <;> (try simp only [lE] at hb))); all_goals (conv => whnf)
          all_goals (refine Q.r6 (h := ?_); repeat' (first | exact Q.r0 | refine Q.r1 ?_ ?_ | refine Q.r2 ?_ | exact Q.r7 | refine Q.r3 ?_ | refine Q.r4 ?_ | refine Q.r5 ?_))
        | false =>
          rw [hd, if_neg (by simp)] at hlk
          by_cases hq : floor < own[i].t ∧ lastI Att.t floor (own.take i) < own[i].t ∧ own[i].t ≤ now
          · have hq2 : ownP floor now (own.take i) own[i] = true := ownP_iff.2 ⟨⟨hq.1, hq.2.1, hq.2.2, hid⟩, hd⟩
            have hp2 := prefTo_next hlt hp hq2
            generalize lastI Att.t floor (own.take i) = la at *
            repeat' ((conv => whnf); first | refine Q.E ?_ | (refine Stk.both (fun hb => ?_) (fun hb => ?_) <;> (try simp only [lE] at hb))); all_goals (conv => whnf)
            refine Stk.op (ok_seen rfl rfl rfl hd rfl) ?_
            repeat' ((conv => whnf); first | refine Q.E ?_ | (refine Stk.both (fun hb => ?_) (fun hb => ?_) <;> (try simp only [lE] at hb))); all_goals (conv => whnf)
            refine Stk.eff (h := eff_mapNewB rfl rfl rfl rfl hlk) (k := ?_)
            repeat' ((conv => whnf); first | refine Q.E ?_ | (refine Stk.both (fun hb => ?_) (fun hb => ?_) <;> (try simp only [lE] at hb))); all_goals (conv => whnf)
            refine ⟨i + 1, ⟨by omega, hp2⟩, by omega, ?_⟩
            rw [hs, hm]
            exact Weak.gc ⟨rfl, rfl, rfl, rfl, rfl, rfl, trivial⟩ ⟨rfl, trivial⟩ rfl rfl rfl
          · rw [clk_no2 hlt (ownP_f fun h => hq ⟨h.1.1, h.1.2.1, h.1.2.2.1⟩)]
            generalize lastI Att.t floor (own.take i) = la at *
            repeat' ((conv => whnf); first | refine Q.E ?_ | (refine Stk.both (fun hb => ?_) (fun hb => ?_) <;> (try simp only [lE] at hb))); all_goals (conv => whnf)
            all_goals first | (exfalso; omega) | (refine Q.r6 (h := ?_); repeat' (first | exact Q.r0 | refine Q.r1 ?_ ?_ | refine Q.r2 ?_ | exact Q.r7 | refine Q.r3 ?_ | refine Q.r4 ?_ | refine Q.r5 ?_))
    · rw [clk_yes h0 hlt hi hp]
      repeat' ((conv => whnf); first | refine Q.E ?_ | (refine Stk.both (fun hb => ?_) (fun hb => ?_) <;> (try simp only [lE] at hb))); all_goals (conv => whnf)
      (refine Q.r6 (h := ?_); repeat' (first | exact Q.r0 | refine Q.r1 ?_ ?_ | refine Q.r2 ?_ | exact Q.r7 | refine Q.r3 ?_ | refine Q.r4 ?_ | refine Q.r5 ?_))
  · rw [clk_no1 h0]
    refine ⟨Spec.bound 2 rfl fun hl => ?_⟩; rw [List.length_map] at hl; refine Spec.ofR (h := fun F w0 => ?_)
    repeat' ((conv => whnf); first | refine Q.E ?_ | (refine Stk.both (fun hb => ?_) (fun hb => ?_) <;> (try simp only [lE] at hb))); all_goals (conv => whnf)
    all_goals first | (exfalso; omega) | (refine Q.r6 (h := ?_); repeat' (first | exact Q.r0 | refine Q.r1 ?_ ?_ | refine Q.r2 ?_ | exact Q.r7 | refine Q.r3 ?_ | refine Q.r4 ?_ | refine Q.r5 ?_))
instance bump_spec (now t : Int) : HasSpec Tryz.prog 55 [PV.int now, PV.int t] (PV.int (bumpI now t)) := by
  unfold bumpI
  by_cases h : t ≤ 1000000
  · rw [if_pos h]
    refine ⟨?_⟩; refine Spec.ofR (h := fun F w0 => ?_)
    repeat' ((conv => whnf); first | refine Q.E ?_ | (refine Stk.both (fun hb => ?_) (fun hb => ?_) <;> (try simp only [lE] at hb))); all_goals (conv => whnf)
    (refine Q.r6 (h := ?_); repeat' (first | exact Q.r0 | refine Q.r1 ?_ ?_ | refine Q.r2 ?_ | exact Q.r7 | refine Q.r3 ?_ | refine Q.r4 ?_ | refine Q.r5 ?_))
  · rw [if_neg h]
    refine ⟨?_⟩; refine Spec.ofR (h := fun F w0 => ?_)
    repeat' ((conv => whnf); first | refine Q.E ?_ | (refine Stk.both (fun hb => ?_) (fun hb => ?_) <;> (try simp only [lE] at hb))); all_goals (conv => whnf)
    (refine Q.r6 (h := ?_); repeat' (first | exact Q.r0 | refine Q.r1 ?_ ?_ | refine Q.r2 ?_ | exact Q.r7 | refine Q.r3 ?_ | refine Q.r4 ?_ | refine Q.r5 ?_))
end Go.Proofs.YtbjepdfnmbdplaaGreat
end
section
namespace Go.Proofs.YtbjepdfnmbdplaaGreat
open Go.RowKit
set_option linter.unusedSimpArgs false
set_option linter.unusedVariables false
set_option maxRecDepth 100000
set_option maxHeartbeats 1000000
instance swithin_spec (n top : Int) : HasSpec Tryz.prog 165 [PV.int n, PV.int top] (.v (.bool (within n top))) := by
  refine ⟨?_⟩; refine Spec.ofR (h := fun F w0 => ?_)
  repeat' ((conv => whnf); first | refine Q.N ?_ | (refine Stk.both (fun hb => ?_) (fun hb => ?_) <;> (try simp only [lE] at hb) <;> (try (exfalso; omega)))); all_goals (conv => whnf)
  all_goals ((refine Q.r6 (h := ?_); repeat' (first | exact Q.r0 | refine Q.r1 ?_ ?_ | refine Q.r2 ?_ | exact Q.r7 | refine Q.r3 ?_ | refine Q.r4 ?_ | refine Q.r5 ?_)))
  all_goals ((first | rfl | (rw [Bool.eq_iff_iff]; simp only [tst_true, tst_false, within, decide_eq_true_eq, decide_eq_false_iff_not, Bool.and_eq_true, Bool.or_eq_true, Bool.not_eq_true', Bool.not_eq_false', Bool.false_eq_true, Bool.true_eq_false, true_iff, iff_true, false_iff, iff_false, true_and, and_true, false_and, and_false, not_false_eq_true, not_true_eq_false]; try omega)))
theorem clkok {n f : Int} {own : List Att} (h : clkB n f own = true) : HasSpec Tryz.prog 166 [PV.int n, PV.int f, PV.atts own] (PV.int 0) := by have := clkcheck_spec n f own; rw [h] at this; exact this
theorem clkbad {n f : Int} {own : List Att} (h : clkB n f own = false) : HasSpec Tryz.prog 166 [PV.int n, PV.int f, PV.atts own] (PV.int 2) := by have := clkcheck_spec n f own; rw [h] at this; exact this
abbrev numsP (r : Rpl) : Prop := 3 ≤ r.n ∧ r.n ≤ 9 ∧ 1 ≤ r.f ∧ 2 * r.f ≤ r.n - 1 ∧ 1 ≤ r.self ∧ r.self ≤ r.n ∧ 0 ≤ r.seq ∧ r.seq ≤ 99999 ∧ 0 ≤ r.ticks ∧ r.ticks ≤ 1000000 ∧ 0 ≤ r.count ∧ r.count ≤ 1000000
theorem nums_no {r : Rpl} (h : ¬ numsP r) : numsB r = false := by unfold numsB; rw [decide_eq_false h]; rfl
theorem nums_yes {r : Rpl} (h : numsP r) : numsB r = clkB r.clock r.floor r.own := by unfold numsB; rw [decide_eq_true h]; rfl
theorem sizeok {n f : Int} (h : sizeB n f = true) : HasSpec Tryz.prog 164 [PV.int n, PV.int f] (PV.int 0) := by have := sizecheck_spec n f; rw [h] at this; exact this
theorem sizebad {n f : Int} (h : sizeB n f = false) : HasSpec Tryz.prog 164 [PV.int n, PV.int f] (PV.int 2) := by have := sizecheck_spec n f; rw [h] at this; exact this
theorem sizeB_p {n f : Int} : sizeB n f = true ↔ (3 ≤ n ∧ n ≤ 9 ∧ 1 ≤ f ∧ 2 * f ≤ n - 1) := by simp only [lC]; try omega
instance counts_spec (r : Rpl) : HasSpec Tryz.prog 86 [.agg r.cs] (.v (.bool (numsB r))) := by
  by_cases h : numsP r
  · rw [nums_yes h]
    have js := sizeok (sizeB_p.2 ⟨h.1, h.2.1, h.2.2.1, h.2.2.2.1⟩)
    unfold numsP at h
    cases hk : clkB r.clock r.floor r.own with
    | true =>
      have jc := clkok hk
      refine ⟨?_⟩; refine Spec.ofR (h := fun F w0 => ?_)
      repeat' ((conv => whnf); first | refine Q.E ?_ | (refine Stk.both (fun hb => ?_) (fun hb => ?_) <;> (try simp only [lE] at hb))); all_goals (conv => whnf)
      (refine Q.r6 (h := ?_); repeat' (first | exact Q.r0 | refine Q.r1 ?_ ?_ | refine Q.r2 ?_ | exact Q.r7 | refine Q.r3 ?_ | refine Q.r4 ?_ | refine Q.r5 ?_))
      all_goals (exact tst_true.2 rfl)
    | false =>
      have jc := clkbad hk
      refine ⟨?_⟩; refine Spec.ofR (h := fun F w0 => ?_)
      repeat' ((conv => whnf); first | refine Q.E ?_ | (refine Stk.both (fun hb => ?_) (fun hb => ?_) <;> (try simp only [lE] at hb))); all_goals (conv => whnf)
      (refine Q.r6 (h := ?_); repeat' (first | exact Q.r0 | refine Q.r1 ?_ ?_ | refine Q.r2 ?_ | exact Q.r7 | refine Q.r3 ?_ | refine Q.r4 ?_ | refine Q.r5 ?_))
      all_goals (exact tst_false.2 (by decide))
  · rw [nums_no h]
    unfold numsP at h
    cases hs : sizeB r.n r.f with
    | false =>
      have js := sizebad hs
      refine ⟨?_⟩; refine Spec.ofR (h := fun F w0 => ?_)
      repeat' ((conv => whnf); first | refine Q.E ?_ | (refine Stk.both (fun hb => ?_) (fun hb => ?_) <;> (try simp only [lE] at hb))); all_goals (conv => whnf)
      all_goals (refine Q.r6 (h := ?_); repeat' (first | exact Q.r0 | refine Q.r1 ?_ ?_ | refine Q.r2 ?_ | exact Q.r7 | refine Q.r3 ?_ | refine Q.r4 ?_ | refine Q.r5 ?_))
    | true =>
      have js := sizeok hs
      have hs2 := sizeB_p.1 hs
      refine ⟨?_⟩; refine Spec.ofR (h := fun F w0 => ?_)
      repeat' ((conv => whnf); first | refine Q.E ?_ | (refine Stk.both (fun hb => ?_) (fun hb => ?_) <;> (try simp only [lE] at hb))); all_goals (conv => whnf)
      all_goals first | (exfalso; omega) | (refine Q.r6 (h := ?_); repeat' (first | exact Q.r0 | refine Q.r1 ?_ ?_ | refine Q.r2 ?_ | exact Q.r7 | refine Q.r3 ?_ | refine Q.r4 ?_ | refine Q.r5 ?_))
theorem tabok {l : List Ent} (h : entsB l = true) : HasSpec Tryz.prog 168 [PV.ents l] (PV.int 0) := by have := tablecheck_spec l; rw [h] at this; exact this
theorem tabbad {l : List Ent} (h : entsB l = false) : HasSpec Tryz.prog 168 [PV.ents l] (PV.int 2) := by have := tablecheck_spec l; rw [h] at this; exact this
instance commands_spec (r : Rpl) : HasSpec Tryz.prog 87 [.agg r.cs] (.v (.bool (cmdB r))) := by
  cases he : entsB r.entries with
  | false =>
    have jt := tabbad he
    rw [show cmdB r = false by unfold cmdB; rw [he]; rfl]
    refine ⟨?_⟩; refine Spec.ofR (h := fun F w0 => ?_)
    repeat' ((conv => whnf); first | refine Q.E ?_ | (refine Stk.both (fun hb => ?_) (fun hb => ?_) <;> (try simp only [lE] at hb))); all_goals (conv => whnf)
    (refine Q.r6 (h := ?_); repeat' (first | exact Q.r0 | refine Q.r1 ?_ ?_ | refine Q.r2 ?_ | exact Q.r7 | refine Q.r3 ?_ | refine Q.r4 ?_ | refine Q.r5 ?_))
  | true =>
    have jt := tabok he
    have hl := (entsB_iff.1 he).1
    rw [show cmdB r = !r.entries.any (farB r.n) by unfold cmdB; rw [he]; rfl]
    refine ⟨?_⟩; refine Spec.ofR (h := fun F w0 => ?_)
    repeat' ((conv => whnf); first | refine Q.a ?_ | refine Q.b ?_ | refine Q.c ?_ | refine Stk.is (by first | assumption | ((try simp only [lE]); first | done | assumption | omega)) ?_ | refine Stk.isnt (by first | assumption | ((try simp only [lE]); first | done | assumption | omega)) ?_ | (refine Stk.both (fun hb => ?_) (fun hb => ?_) <;> (try simp only [lE] at hb)) | refine Q.d ?_ | refine Q.e ?_ | refine Q.f ?_ | refine Q.g ?_ | refine Q.h ?_ | refine Q.i ?_ | refine Q.j ?_ | refine Q.k ?_ | refine Q.l ?_ | refine Q.m ?_ | refine Q.n ?_ | refine Q.o (h := ?_) | refine Q.p (h := ?_) | refine Q.q ?_ | refine Q.r ?_ | refine Q.s ?_ | refine Q.t ?_ | refine Q.u ?_ | refine Q.v ?_ | refine Q.w ?_ | refine Q.x ?_ | refine Q.y ?_ | refine Q.z ?_ | refine Stk.inl (h := fun tm => ?_) | refine Stk.inl0 (h := fun tm => ?_) | refine DefG.go (h := fun vs us => ?_) | intro (tm : Array Value) | refine Stk.op (ok_buildA rfl rfl rfl rfl) ?_ | refine Stk.scope ?_); all_goals (conv => whnf)
    refine Stk.loop (ι := Nat) (fun i => [(0, PV.ents r.entries), (1, .fn (.func 167) [] [.lp 1 0]), (7, PV.int (r.entries.length : Nat)), (8, PV.int (i : Nat))]) (fun i => [(1, .box r.cs)]) (fun i => i ≤ r.entries.length ∧ ∀ x ∈ r.entries.take i, farB r.n x = false) (fun i => r.entries.length - i) 0 ⟨Nat.zero_le _, by simp⟩ (Weak.gc ⟨rfl, rfl, rfl, rfl, trivial⟩ ⟨rfl, trivial⟩ rfl rfl rfl) (fun i hi => ?_)
    obtain ⟨hi, hno⟩ := hi
    by_cases hlt : i < r.entries.length
    · by_cases hq : r.n < selfI r.entries[i].id
      · rw [any_at hlt (decide_eq_true hq)]
        repeat' ((conv => whnf); first | refine Q.a ?_ | refine Q.b ?_ | refine Q.c ?_ | refine Stk.is (by first | assumption | ((try simp only [lE]); first | done | assumption | omega)) ?_ | refine Stk.isnt (by first | assumption | ((try simp only [lE]); first | done | assumption | omega)) ?_ | (refine Stk.both (fun hb => ?_) (fun hb => ?_) <;> (try simp only [lE] at hb)) | refine Q.d ?_ | refine Q.e ?_ | refine Q.f ?_ | refine Q.g ?_ | refine Q.h ?_ | refine Q.i ?_ | refine Q.j ?_ | refine Q.k ?_ | refine Q.l ?_ | refine Q.m ?_ | refine Q.n ?_ | refine Q.o (h := ?_) | refine Q.p (h := ?_) | refine Q.q ?_ | refine Q.r ?_ | refine Q.s ?_ | refine Q.t ?_ | refine Q.u ?_ | refine Q.v ?_ | refine Q.w ?_ | refine Q.x ?_ | refine Q.y ?_ | refine Q.z ?_ | refine Stk.inl (h := fun tm => ?_) | refine Stk.inl0 (h := fun tm => ?_) | refine DefG.go (h := fun vs us => ?_) | intro (tm : Array Value) | refine Stk.op (ok_buildA rfl rfl rfl rfl) ?_ | refine Stk.scope ?_); all_goals (conv => whnf)
        (refine Q.r6 (h := ?_); repeat' (first | exact Q.r0 | refine Q.r1 ?_ ?_ | refine Q.r2 ?_ | exact Q.r7 | refine Q.r3 ?_ | refine Q.r4 ?_ | refine Q.r5 ?_))
        all_goals first | rfl | rw [tst_true.2 (by omega)]
      · repeat' ((conv => whnf); first | refine Q.a ?_ | refine Q.b ?_ | refine Q.c ?_ | refine Stk.is (by first | assumption | ((try simp only [lE]); first | done | assumption | omega)) ?_ | refine Stk.isnt (by first | assumption | ((try simp only [lE]); first | done | assumption | omega)) ?_ | (refine Stk.both (fun hb => ?_) (fun hb => ?_) <;> (try simp only [lE] at hb)) | refine Q.d ?_ | refine Q.e ?_ | refine Q.f ?_ | refine Q.g ?_ | refine Q.h ?_ | refine Q.i ?_ | refine Q.j ?_ | refine Q.k ?_ | refine Q.l ?_ | refine Q.m ?_ | refine Q.n ?_ | refine Q.o (h := ?_) | refine Q.p (h := ?_) | refine Q.q ?_ | refine Q.r ?_ | refine Q.s ?_ | refine Q.t ?_ | refine Q.u ?_ | refine Q.v ?_ | refine Q.w ?_ | refine Q.x ?_ | refine Q.y ?_ | refine Q.z ?_ | refine Stk.inl (h := fun tm => ?_) | refine Stk.inl0 (h := fun tm => ?_) | refine DefG.go (h := fun vs us => ?_) | intro (tm : Array Value) | refine Stk.op (ok_buildA rfl rfl rfl rfl) ?_ | refine Stk.scope ?_); all_goals (conv => whnf)
        exact ⟨i + 1, ⟨by omega, take_no hlt hno (decide_eq_false hq)⟩, by omega, Weak.gc ⟨rfl, rfl, rfl, rfl, trivial⟩ ⟨rfl, trivial⟩ rfl rfl rfl⟩
    · rw [any_none hlt hno]
      repeat' ((conv => whnf); first | refine Q.a ?_ | refine Q.b ?_ | refine Q.c ?_ | refine Stk.is (by first | assumption | ((try simp only [lE]); first | done | assumption | omega)) ?_ | refine Stk.isnt (by first | assumption | ((try simp only [lE]); first | done | assumption | omega)) ?_ | (refine Stk.both (fun hb => ?_) (fun hb => ?_) <;> (try simp only [lE] at hb)) | refine Q.d ?_ | refine Q.e ?_ | refine Q.f ?_ | refine Q.g ?_ | refine Q.h ?_ | refine Q.i ?_ | refine Q.j ?_ | refine Q.k ?_ | refine Q.l ?_ | refine Q.m ?_ | refine Q.n ?_ | refine Q.o (h := ?_) | refine Q.p (h := ?_) | refine Q.q ?_ | refine Q.r ?_ | refine Q.s ?_ | refine Q.t ?_ | refine Q.u ?_ | refine Q.v ?_ | refine Q.w ?_ | refine Q.x ?_ | refine Q.y ?_ | refine Q.z ?_ | refine Stk.inl (h := fun tm => ?_) | refine Stk.inl0 (h := fun tm => ?_) | refine DefG.go (h := fun vs us => ?_) | intro (tm : Array Value) | refine Stk.op (ok_buildA rfl rfl rfl rfl) ?_ | refine Stk.scope ?_); all_goals (conv => whnf)
      (refine Q.r6 (h := ?_); repeat' (first | exact Q.r0 | refine Q.r1 ?_ ?_ | refine Q.r2 ?_ | exact Q.r7 | refine Q.r3 ?_ | refine Q.r4 ?_ | refine Q.r5 ?_))
      all_goals first | rfl | rw [tst_false.2 (by omega)]
end Go.Proofs.YtbjepdfnmbdplaaGreat
end
section
namespace Go.Proofs.YtbjepdfnmbdplaaGreat
open Go.RowKit
set_option linter.unusedSimpArgs false
set_option linter.unusedVariables false
set_option maxRecDepth 100000
set_option maxHeartbeats 1000000
theorem kck_yes {k : Kno} (h : knoB k = true) : HasSpec Tryz.prog 171 [.agg k.cs] (PV.int 0) := by have := knocheck_spec k; rw [h] at this; exact this
theorem kck_no {k : Kno} (h : knoB k = false) : HasSpec Tryz.prog 171 [.agg k.cs] (PV.int 2) := by have := knocheck_spec k; rw [h] at this; exact this
theorem swok {m : List (List Int)} {n : Int} (h : tableB m n = true) : HasSpec Tryz.prog 173 [PV.tab m, PV.int n] (PV.int 0) := by have := tabcheck_spec m n; rw [h] at this; exact this
theorem swbad {m : List (List Int)} {n : Int} (h : tableB m n = false) : HasSpec Tryz.prog 173 [PV.tab m, PV.int n] (PV.int 2) := by have := tabcheck_spec m n; rw [h] at this; exact this
theorem stok {m : List Int} {n : Int} (h : marksB m n = true) : HasSpec Tryz.prog 174 [PV.ints m, PV.int n] (PV.int 0) := by have := stablecheck_spec m n; rw [h] at this; exact this
theorem stbad {m : List Int} {n : Int} (h : marksB m n = false) : HasSpec Tryz.prog 174 [PV.ints m, PV.int n] (PV.int 2) := by have := stablecheck_spec m n; rw [h] at this; exact this
instance hears1_spec (k : Kno) : HasSpec Tryz.prog 170 [.agg k.cs] (.v (.bool (!knoB k))) := by
  cases h : knoB k with
  | true =>
    have j := kck_yes h
    refine ⟨?_⟩; refine Spec.ofR (h := fun F w0 => ?_)
    repeat' ((conv => whnf); first | refine Q.E ?_ | (refine Stk.both (fun hb => ?_) (fun hb => ?_) <;> (try simp only [lE] at hb))); all_goals (conv => whnf)
    (refine Q.r6 (h := ?_); repeat' (first | exact Q.r0 | refine Q.r1 ?_ ?_ | refine Q.r2 ?_ | exact Q.r7 | refine Q.r3 ?_ | refine Q.r4 ?_ | refine Q.r5 ?_))
    all_goals (first | rfl | exact tst_true.2 (by omega) | exact tst_false.2 (by omega) | (simp [tst_eq]; done) | (simp only [Bool.not_true, Bool.not_false, Bool.and_true, Bool.true_and, Bool.and_false, Bool.false_and]; first | done | exact tst_true.2 (by omega) | exact tst_false.2 (by omega) | (rw [tst_true.2 (by omega)]; done) | (rw [tst_false.2 (by omega)]; done)))
  | false =>
    have j := kck_no h
    refine ⟨?_⟩; refine Spec.ofR (h := fun F w0 => ?_)
    repeat' ((conv => whnf); first | refine Q.E ?_ | (refine Stk.both (fun hb => ?_) (fun hb => ?_) <;> (try simp only [lE] at hb))); all_goals (conv => whnf)
    (refine Q.r6 (h := ?_); repeat' (first | exact Q.r0 | refine Q.r1 ?_ ?_ | refine Q.r2 ?_ | exact Q.r7 | refine Q.r3 ?_ | refine Q.r4 ?_ | refine Q.r5 ?_))
    all_goals (first | rfl | exact tst_true.2 (by omega) | exact tst_false.2 (by omega) | (simp [tst_eq]; done) | (simp only [Bool.not_true, Bool.not_false, Bool.and_true, Bool.true_and, Bool.and_false, Bool.false_and]; first | done | exact tst_true.2 (by omega) | exact tst_false.2 (by omega) | (rw [tst_true.2 (by omega)]; done) | (rw [tst_false.2 (by omega)]; done)))
theorem anyk_spec (l : List Kno) (hl : l.length ≤ 1000) : HasSpec Tryz.prog 172 [PV.knos l, .fn (.func 170) [] []] (.v (.bool (l.any fun k => !knoB k))) := by
  refine ⟨?_⟩; refine Spec.ofR (h := fun F w0 => ?_)
  repeat' ((conv => whnf); first | refine Q.a ?_ | refine Q.b ?_ | refine Q.c ?_ | refine Stk.is (by first | assumption | ((try simp only [lE]); first | done | assumption | omega)) ?_ | refine Stk.isnt (by first | assumption | ((try simp only [lE]); first | done | assumption | omega)) ?_ | (refine Stk.both (fun hb => ?_) (fun hb => ?_) <;> (try simp only [lE] at hb)) | refine Q.d ?_ | refine Q.e ?_ | refine Q.f ?_ | refine Q.g ?_ | refine Q.h ?_ | refine Q.i ?_ | refine Q.j ?_ | refine Q.k ?_ | refine Q.l ?_ | refine Q.m ?_ | refine Q.n ?_ | refine Q.o (h := ?_) | refine Q.p (h := ?_) | refine Q.q ?_ | refine Q.r ?_ | refine Q.s ?_ | refine Q.t ?_ | refine Q.u ?_ | refine Q.v ?_ | refine Q.w ?_ | refine Q.x ?_ | refine Q.y ?_ | refine Q.z ?_ | refine Stk.inl (h := fun tm => ?_) | refine Stk.inl0 (h := fun tm => ?_) | refine DefG.go (h := fun vs us => ?_) | intro (tm : Array Value) | refine Stk.op (ok_buildA rfl rfl rfl rfl) ?_ | refine Stk.scope ?_); all_goals (conv => whnf)
  refine Stk.loop (ι := Nat) (fun i => [(0, PV.knos l), (1, .fn (.func 170) [] []), (7, PV.int (l.length : Nat)), (8, PV.int (i : Nat))]) (fun i => []) (fun i => i ≤ l.length ∧ ∀ x ∈ l.take i, (!knoB x) = false) (fun i => l.length - i) 0 ⟨Nat.zero_le _, by simp⟩ (Weak.gc ⟨rfl, rfl, rfl, rfl, trivial⟩ trivial rfl rfl rfl) (fun i hi => ?_)
  obtain ⟨hi, hno⟩ := hi
  by_cases hlt : i < l.length
  · have j1 := hears1_spec l[i]
    cases hq : knoB l[i] with
    | false =>
      rw [hq] at j1
      rw [any_at (p := fun k => !knoB k) hlt (by show (!knoB l[i]) = true; rw [hq]; rfl)]
      repeat' ((conv => whnf); first | refine Q.E ?_ | (refine Stk.both (fun hb => ?_) (fun hb => ?_) <;> (try simp only [lE] at hb))); all_goals (conv => whnf)
      (refine Q.r6 (h := ?_); repeat' (first | exact Q.r0 | refine Q.r1 ?_ ?_ | refine Q.r2 ?_ | exact Q.r7 | refine Q.r3 ?_ | refine Q.r4 ?_ | refine Q.r5 ?_))
      all_goals (first | rfl | exact tst_true.2 (by omega) | exact tst_false.2 (by omega) | (simp [tst_eq]; done) | (simp only [Bool.not_true, Bool.not_false, Bool.and_true, Bool.true_and, Bool.and_false, Bool.false_and]; first | done | exact tst_true.2 (by omega) | exact tst_false.2 (by omega) | (rw [tst_true.2 (by omega)]; done) | (rw [tst_false.2 (by omega)]; done)))
    | true =>
      rw [hq] at j1
      repeat' ((conv => whnf); first | refine Q.E ?_ | (refine Stk.both (fun hb => ?_) (fun hb => ?_) <;> (try simp only [lE] at hb))); all_goals (conv => whnf)
      exact ⟨i + 1, ⟨by omega, take_no (p := fun k => !knoB k) hlt hno (by show (!knoB l[i]) = false; rw [hq]; rfl)⟩, by omega, Weak.gc ⟨rfl, rfl, rfl, rfl, trivial⟩ trivial rfl rfl rfl⟩
  · rw [any_none (p := fun k => !knoB k) hlt hno]
    repeat' ((conv => whnf); first | refine Q.E ?_ | (refine Stk.both (fun hb => ?_) (fun hb => ?_) <;> (try simp only [lE] at hb))); all_goals (conv => whnf)
    (refine Q.r6 (h := ?_); repeat' (first | exact Q.r0 | refine Q.r1 ?_ ?_ | refine Q.r2 ?_ | exact Q.r7 | refine Q.r3 ?_ | refine Q.r4 ?_ | refine Q.r5 ?_))
    all_goals (first | rfl | exact tst_true.2 (by omega) | exact tst_false.2 (by omega) | (simp [tst_eq]; done) | (simp only [Bool.not_true, Bool.not_false, Bool.and_true, Bool.true_and, Bool.and_false, Bool.false_and]; first | done | exact tst_true.2 (by omega) | exact tst_false.2 (by omega) | (rw [tst_true.2 (by omega)]; done) | (rw [tst_false.2 (by omega)]; done)))
theorem hears_spec (r : Rpl) (h9 : r.n ≤ 9) : HasSpec Tryz.prog 88 [.agg r.cs] (.v (.bool (hrsB r))) := by
  by_cases hn : (r.known.length : Int) = r.n
  · cases ht : tableB r.marks r.n with
    | false =>
      have jt := swbad ht
      rw [show hrsB r = false by unfold hrsB; rw [ht]; simp]
      have jk := anyk_spec r.known (by omega)
      cases ha : r.known.any (fun k => !knoB k) with
      | true =>
        rw [ha] at jk
        refine ⟨?_⟩; refine Spec.ofR (h := fun F w0 => ?_)
        repeat' ((conv => whnf); first | refine Q.E ?_ | (refine Stk.both (fun hb => ?_) (fun hb => ?_) <;> (try simp only [lE] at hb))); all_goals (conv => whnf)
        (refine Q.r6 (h := ?_); repeat' (first | exact Q.r0 | refine Q.r1 ?_ ?_ | refine Q.r2 ?_ | exact Q.r7 | refine Q.r3 ?_ | refine Q.r4 ?_ | refine Q.r5 ?_))
      | false =>
        rw [ha] at jk
        refine ⟨?_⟩; refine Spec.ofR (h := fun F w0 => ?_)
        repeat' ((conv => whnf); first | refine Q.E ?_ | (refine Stk.both (fun hb => ?_) (fun hb => ?_) <;> (try simp only [lE] at hb))); all_goals (conv => whnf)
        (refine Q.r6 (h := ?_); repeat' (first | exact Q.r0 | refine Q.r1 ?_ ?_ | refine Q.r2 ?_ | exact Q.r7 | refine Q.r3 ?_ | refine Q.r4 ?_ | refine Q.r5 ?_))
        all_goals (first | rfl | exact tst_true.2 (by omega) | exact tst_false.2 (by omega) | (simp [tst_eq]; done) | (simp only [Bool.not_true, Bool.not_false, Bool.and_true, Bool.true_and, Bool.and_false, Bool.false_and]; first | done | exact tst_true.2 (by omega) | exact tst_false.2 (by omega) | (rw [tst_true.2 (by omega)]; done) | (rw [tst_false.2 (by omega)]; done)))
    | true =>
      have jt := swok ht
      have h39 : 3 ≤ r.n ∧ r.n ≤ 9 := by
        have h := ht
        unfold tableB at h
        rw [Bool.and_eq_true] at h
        simpa [manyB] using h.1
      have jk := anyk_spec r.known (by omega)
      cases ha : r.known.any (fun k => !knoB k) with
      | true =>
        rw [ha] at jk
        rw [show hrsB r = false by unfold hrsB; rw [ha]; simp]
        refine ⟨?_⟩; refine Spec.ofR (h := fun F w0 => ?_)
        repeat' ((conv => whnf); first | refine Q.E ?_ | (refine Stk.both (fun hb => ?_) (fun hb => ?_) <;> (try simp only [lE] at hb))); all_goals (conv => whnf)
        (refine Q.r6 (h := ?_); repeat' (first | exact Q.r0 | refine Q.r1 ?_ ?_ | refine Q.r2 ?_ | exact Q.r7 | refine Q.r3 ?_ | refine Q.r4 ?_ | refine Q.r5 ?_))
      | false =>
        rw [ha] at jk
        rw [show hrsB r = marksB r.fronts r.n by unfold hrsB; rw [ha, ht, decide_eq_true hn]; rfl]
        cases hm : marksB r.fronts r.n with
        | true =>
          have jm := stok hm
          refine ⟨?_⟩; refine Spec.ofR (h := fun F w0 => ?_)
          repeat' ((conv => whnf); first | refine Q.E ?_ | (refine Stk.both (fun hb => ?_) (fun hb => ?_) <;> (try simp only [lE] at hb))); all_goals (conv => whnf)
          (refine Q.r6 (h := ?_); repeat' (first | exact Q.r0 | refine Q.r1 ?_ ?_ | refine Q.r2 ?_ | exact Q.r7 | refine Q.r3 ?_ | refine Q.r4 ?_ | refine Q.r5 ?_))
          all_goals (first | rfl | exact tst_true.2 (by omega) | exact tst_false.2 (by omega) | (simp [tst_eq]; done) | (simp only [Bool.not_true, Bool.not_false, Bool.and_true, Bool.true_and, Bool.and_false, Bool.false_and]; first | done | exact tst_true.2 (by omega) | exact tst_false.2 (by omega) | (rw [tst_true.2 (by omega)]; done) | (rw [tst_false.2 (by omega)]; done)))
        | false =>
          have jm := stbad hm
          refine ⟨?_⟩; refine Spec.ofR (h := fun F w0 => ?_)
          repeat' ((conv => whnf); first | refine Q.E ?_ | (refine Stk.both (fun hb => ?_) (fun hb => ?_) <;> (try simp only [lE] at hb))); all_goals (conv => whnf)
          (refine Q.r6 (h := ?_); repeat' (first | exact Q.r0 | refine Q.r1 ?_ ?_ | refine Q.r2 ?_ | exact Q.r7 | refine Q.r3 ?_ | refine Q.r4 ?_ | refine Q.r5 ?_))
          all_goals (first | rfl | exact tst_true.2 (by omega) | exact tst_false.2 (by omega) | (simp [tst_eq]; done) | (simp only [Bool.not_true, Bool.not_false, Bool.and_true, Bool.true_and, Bool.and_false, Bool.false_and]; first | done | exact tst_true.2 (by omega) | exact tst_false.2 (by omega) | (rw [tst_true.2 (by omega)]; done) | (rw [tst_false.2 (by omega)]; done)))
  · rw [show hrsB r = false by unfold hrsB; rw [decide_eq_false hn]; rfl]
    refine ⟨?_⟩; refine Spec.ofR (h := fun F w0 => ?_)
    repeat' ((conv => whnf); first | refine Q.E ?_ | (refine Stk.both (fun hb => ?_) (fun hb => ?_) <;> (try simp only [lE] at hb))); all_goals (conv => whnf)
    (refine Q.r6 (h := ?_); repeat' (first | exact Q.r0 | refine Q.r1 ?_ ?_ | refine Q.r2 ?_ | exact Q.r7 | refine Q.r3 ?_ | refine Q.r4 ?_ | refine Q.r5 ?_))
theorem lastHi_pos {l : List Rng} (h : 0 < l.length) {k : Nat} (hk : k < l.length) (e : k = l.length - 1) : lastHi l = l[k].hi := by
  subst e
  have := lastI_pos Rng.hi 0 (Nat.le_refl l.length) h
  rw [List.take_length] at this
  exact this
instance fin1_spec (l : List Rng) : HasSpec Tryz.prog 175 [PV.rngs l] (.v (.bool (!donB l))) := by
  cases hr : rngB l with
  | false =>
    have j := rck_no hr
    rw [show donB l = false by unfold donB; rw [hr]; rfl]
    refine ⟨?_⟩; refine Spec.ofR (h := fun F w0 => ?_)
    repeat' ((conv => whnf); first | refine Q.E ?_ | (refine Stk.both (fun hb => ?_) (fun hb => ?_) <;> (try simp only [lE] at hb))); all_goals (conv => whnf)
    (refine Q.r6 (h := ?_); repeat' (first | exact Q.r0 | refine Q.r1 ?_ ?_ | refine Q.r2 ?_ | exact Q.r7 | refine Q.r3 ?_ | refine Q.r4 ?_ | refine Q.r5 ?_))
    all_goals (first | rfl | exact tst_true.2 (by omega) | exact tst_false.2 (by omega) | (simp [tst_eq]; done) | (simp only [Bool.not_true, Bool.not_false, Bool.and_true, Bool.true_and, Bool.and_false, Bool.false_and]; first | done | exact tst_true.2 (by omega) | exact tst_false.2 (by omega) | (rw [tst_true.2 (by omega)]; done) | (rw [tst_false.2 (by omega)]; done)))
  | true =>
    have j := rck_yes hr
    rw [show donB l = decide (lastHi l ≤ 99999) by unfold donB; rw [hr]; rfl]
    by_cases h0 : 0 < l.length
    · have hk : ((l.length : Int) - 1).toNat < l.length := by omega
      have hl := lastHi_pos h0 hk (by omega)
      rw [hl]
      by_cases h9 : (l[((l.length : Int) - 1).toNat]'hk).hi ≤ 99999
      · rw [decide_eq_true h9]
        refine ⟨Spec.bound 0 rfl fun hl => ?_⟩; rw [List.length_map] at hl; refine Spec.ofR (h := fun F w0 => ?_)
        repeat' ((conv => whnf); first | refine Q.E ?_ | (refine Stk.both (fun hb => ?_) (fun hb => ?_) <;> (try simp only [lE] at hb))); all_goals (conv => whnf)
        (refine Q.r6 (h := ?_); repeat' (first | exact Q.r0 | refine Q.r1 ?_ ?_ | refine Q.r2 ?_ | exact Q.r7 | refine Q.r3 ?_ | refine Q.r4 ?_ | refine Q.r5 ?_))
        all_goals (first | rfl | exact tst_true.2 (by omega) | exact tst_false.2 (by omega) | (simp [tst_eq]; done) | (simp only [Bool.not_true, Bool.not_false, Bool.and_true, Bool.true_and, Bool.and_false, Bool.false_and]; first | done | exact tst_true.2 (by omega) | exact tst_false.2 (by omega) | (rw [tst_true.2 (by omega)]; done) | (rw [tst_false.2 (by omega)]; done)))
      · rw [decide_eq_false h9]
        refine ⟨Spec.bound 0 rfl fun hl => ?_⟩; rw [List.length_map] at hl; refine Spec.ofR (h := fun F w0 => ?_)
        repeat' ((conv => whnf); first | refine Q.E ?_ | (refine Stk.both (fun hb => ?_) (fun hb => ?_) <;> (try simp only [lE] at hb))); all_goals (conv => whnf)
        (refine Q.r6 (h := ?_); repeat' (first | exact Q.r0 | refine Q.r1 ?_ ?_ | refine Q.r2 ?_ | exact Q.r7 | refine Q.r3 ?_ | refine Q.r4 ?_ | refine Q.r5 ?_))
        all_goals (first | rfl | exact tst_true.2 (by omega) | exact tst_false.2 (by omega) | (simp [tst_eq]; done) | (simp only [Bool.not_true, Bool.not_false, Bool.and_true, Bool.true_and, Bool.and_false, Bool.false_and]; first | done | exact tst_true.2 (by omega) | exact tst_false.2 (by omega) | (rw [tst_true.2 (by omega)]; done) | (rw [tst_false.2 (by omega)]; done)))
    · have : l = [] := List.eq_nil_of_length_eq_zero (by omega)
      subst this
      rw [show decide (lastHi [] ≤ 99999) = true from rfl]
      have h00 : (([] : List Rng).length : Int) = 0 := rfl
      refine ⟨?_⟩; refine Spec.ofR (h := fun F w0 => ?_)
      repeat' ((conv => whnf); first | refine Q.E ?_ | (refine Stk.both (fun hb => ?_) (fun hb => ?_) <;> (try simp only [lE] at hb))); all_goals (conv => whnf)
      (refine Q.r6 (h := ?_); repeat' (first | exact Q.r0 | refine Q.r1 ?_ ?_ | refine Q.r2 ?_ | exact Q.r7 | refine Q.r3 ?_ | refine Q.r4 ?_ | refine Q.r5 ?_))
      all_goals (first | rfl | exact tst_true.2 (by omega) | exact tst_false.2 (by omega) | (simp [tst_eq]; done) | (simp only [Bool.not_true, Bool.not_false, Bool.and_true, Bool.true_and, Bool.and_false, Bool.false_and]; first | done | exact tst_true.2 (by omega) | exact tst_false.2 (by omega) | (rw [tst_true.2 (by omega)]; done) | (rw [tst_false.2 (by omega)]; done)))
theorem anyd_spec (l : List (List Rng)) (hl : l.length ≤ 1000) : HasSpec Tryz.prog 177 [PV.dons l, .fn (.func 175) [] []] (.v (.bool (l.any fun k => !donB k))) := by
  refine ⟨?_⟩; refine Spec.ofR (h := fun F w0 => ?_)
  repeat' ((conv => whnf); first | refine Q.a ?_ | refine Q.b ?_ | refine Q.c ?_ | refine Stk.is (by first | assumption | ((try simp only [lE]); first | done | assumption | omega)) ?_ | refine Stk.isnt (by first | assumption | ((try simp only [lE]); first | done | assumption | omega)) ?_ | (refine Stk.both (fun hb => ?_) (fun hb => ?_) <;> (try simp only [lE] at hb)) | refine Q.d ?_ | refine Q.e ?_ | refine Q.f ?_ | refine Q.g ?_ | refine Q.h ?_ | refine Q.i ?_ | refine Q.j ?_ | refine Q.k ?_ | refine Q.l ?_ | refine Q.m ?_ | refine Q.n ?_ | refine Q.o (h := ?_) | refine Q.p (h := ?_) | refine Q.q ?_ | refine Q.r ?_ | refine Q.s ?_ | refine Q.t ?_ | refine Q.u ?_ | refine Q.v ?_ | refine Q.w ?_ | refine Q.x ?_ | refine Q.y ?_ | refine Q.z ?_ | refine Stk.inl (h := fun tm => ?_) | refine Stk.inl0 (h := fun tm => ?_) | refine DefG.go (h := fun vs us => ?_) | intro (tm : Array Value) | refine Stk.op (ok_buildA rfl rfl rfl rfl) ?_ | refine Stk.scope ?_); all_goals (conv => whnf)
  refine Stk.loop (ι := Nat) (fun i => [(0, PV.dons l), (1, .fn (.func 175) [] []), (7, PV.int (l.length : Nat)), (8, PV.int (i : Nat))]) (fun i => []) (fun i => i ≤ l.length ∧ ∀ x ∈ l.take i, (!donB x) = false) (fun i => l.length - i) 0 ⟨Nat.zero_le _, by simp⟩ (Weak.gc ⟨rfl, rfl, rfl, rfl, trivial⟩ trivial rfl rfl rfl) (fun i hi => ?_)
  obtain ⟨hi, hno⟩ := hi
  by_cases hlt : i < l.length
  · have j1 := fin1_spec l[i]
    cases hq : donB l[i] with
    | false =>
      rw [hq] at j1
      rw [any_at (p := fun k => !donB k) hlt (by show (!donB l[i]) = true; rw [hq]; rfl)]
      repeat' ((conv => whnf); first | refine Q.E ?_ | (refine Stk.both (fun hb => ?_) (fun hb => ?_) <;> (try simp only [lE] at hb))); all_goals (conv => whnf)
      (refine Q.r6 (h := ?_); repeat' (first | exact Q.r0 | refine Q.r1 ?_ ?_ | refine Q.r2 ?_ | exact Q.r7 | refine Q.r3 ?_ | refine Q.r4 ?_ | refine Q.r5 ?_))
      all_goals (first | rfl | exact tst_true.2 (by omega) | exact tst_false.2 (by omega) | (simp [tst_eq]; done) | (simp only [Bool.not_true, Bool.not_false, Bool.and_true, Bool.true_and, Bool.and_false, Bool.false_and]; first | done | exact tst_true.2 (by omega) | exact tst_false.2 (by omega) | (rw [tst_true.2 (by omega)]; done) | (rw [tst_false.2 (by omega)]; done)))
    | true =>
      rw [hq] at j1
      repeat' ((conv => whnf); first | refine Q.E ?_ | (refine Stk.both (fun hb => ?_) (fun hb => ?_) <;> (try simp only [lE] at hb))); all_goals (conv => whnf)
      exact ⟨i + 1, ⟨by omega, take_no (p := fun k => !donB k) hlt hno (by show (!donB l[i]) = false; rw [hq]; rfl)⟩, by omega, Weak.gc ⟨rfl, rfl, rfl, rfl, trivial⟩ trivial rfl rfl rfl⟩
  · rw [any_none (p := fun k => !donB k) hlt hno]
    repeat' ((conv => whnf); first | refine Q.E ?_ | (refine Stk.both (fun hb => ?_) (fun hb => ?_) <;> (try simp only [lE] at hb))); all_goals (conv => whnf)
    (refine Q.r6 (h := ?_); repeat' (first | exact Q.r0 | refine Q.r1 ?_ ?_ | refine Q.r2 ?_ | exact Q.r7 | refine Q.r3 ?_ | refine Q.r4 ?_ | refine Q.r5 ?_))
    all_goals (first | rfl | exact tst_true.2 (by omega) | exact tst_false.2 (by omega) | (simp [tst_eq]; done) | (simp only [Bool.not_true, Bool.not_false, Bool.and_true, Bool.true_and, Bool.and_false, Bool.false_and]; first | done | exact tst_true.2 (by omega) | exact tst_false.2 (by omega) | (rw [tst_true.2 (by omega)]; done) | (rw [tst_false.2 (by omega)]; done)))
theorem finished_spec (r : Rpl) (h9 : r.n ≤ 9) : HasSpec Tryz.prog 89 [.agg r.cs] (.v (.bool (finB r))) := by
  by_cases hn : (r.done.length : Int) = r.n
  · have jk := anyd_spec r.done (by omega)
    cases ha : r.done.any (fun k => !donB k) with
    | true =>
      rw [ha] at jk
      rw [show finB r = false by unfold finB; rw [ha]; simp]
      refine ⟨?_⟩; refine Spec.ofR (h := fun F w0 => ?_)
      repeat' ((conv => whnf); first | refine Q.E ?_ | (refine Stk.both (fun hb => ?_) (fun hb => ?_) <;> (try simp only [lE] at hb))); all_goals (conv => whnf)
      (refine Q.r6 (h := ?_); repeat' (first | exact Q.r0 | refine Q.r1 ?_ ?_ | refine Q.r2 ?_ | exact Q.r7 | refine Q.r3 ?_ | refine Q.r4 ?_ | refine Q.r5 ?_))
      all_goals (first | rfl | exact tst_true.2 (by omega) | exact tst_false.2 (by omega) | (simp [tst_eq]; done) | (simp only [Bool.not_true, Bool.not_false, Bool.and_true, Bool.true_and, Bool.and_false, Bool.false_and]; first | done | exact tst_true.2 (by omega) | exact tst_false.2 (by omega) | (rw [tst_true.2 (by omega)]; done) | (rw [tst_false.2 (by omega)]; done)))
    | false =>
      rw [ha] at jk
      rw [show finB r = attOk r.last by unfold finB; rw [ha, decide_eq_true hn]; rfl]
      by_cases hz : r.last.t = 0 ∧ r.last.id = 0
      · have hz1 : tst ([r.last.t, r.last.id] = [0, 0]) = true := tst_true.2 (by rw [hz.1, hz.2])
        rw [show attOk r.last = true by unfold attOk; rw [decide_eq_true hz]; rfl]
        refine ⟨?_⟩; refine Spec.ofR (h := fun F w0 => ?_)
        repeat' ((conv => whnf); first | refine Q.E ?_ | (refine Stk.both (fun hb => ?_) (fun hb => ?_) <;> (try simp only [lE] at hb))); all_goals (conv => whnf)
        (refine Q.r6 (h := ?_); repeat' (first | exact Q.r0 | refine Q.r1 ?_ ?_ | refine Q.r2 ?_ | exact Q.r7 | refine Q.r3 ?_ | refine Q.r4 ?_ | refine Q.r5 ?_))
        all_goals (first | rfl | exact tst_true.2 (by omega) | exact tst_false.2 (by omega) | (simp [tst_eq]; done) | (simp only [Bool.not_true, Bool.not_false, Bool.and_true, Bool.true_and, Bool.and_false, Bool.false_and]; first | done | exact tst_true.2 (by omega) | exact tst_false.2 (by omega) | (rw [tst_true.2 (by omega)]; done) | (rw [tst_false.2 (by omega)]; done)))
      · have hz1 : tst ([r.last.t, r.last.id] = [0, 0]) = false := tst_false.2 (by simpa using hz)
        rw [show attOk r.last = (idB r.last.id && decide (1 ≤ r.last.t ∧ r.last.t ≤ 1000000)) by unfold attOk; rw [decide_eq_false hz]; rfl]
        cases hid : idB r.last.id with
        | false =>
          have ji := idchk_no hid
          refine ⟨?_⟩; refine Spec.ofR (h := fun F w0 => ?_)
          repeat' ((conv => whnf); first | refine Q.E ?_ | (refine Stk.both (fun hb => ?_) (fun hb => ?_) <;> (try simp only [lE] at hb))); all_goals (conv => whnf)
          (refine Q.r6 (h := ?_); repeat' (first | exact Q.r0 | refine Q.r1 ?_ ?_ | refine Q.r2 ?_ | exact Q.r7 | refine Q.r3 ?_ | refine Q.r4 ?_ | refine Q.r5 ?_))
          all_goals (first | rfl | exact tst_true.2 (by omega) | exact tst_false.2 (by omega) | (simp [tst_eq]; done) | (simp only [Bool.not_true, Bool.not_false, Bool.and_true, Bool.true_and, Bool.and_false, Bool.false_and]; first | done | exact tst_true.2 (by omega) | exact tst_false.2 (by omega) | (rw [tst_true.2 (by omega)]; done) | (rw [tst_false.2 (by omega)]; done)))
        | true =>
          have ji := idchk_yes hid
          by_cases ht : 1 ≤ r.last.t ∧ r.last.t ≤ 1000000
          · rw [decide_eq_true ht]
            refine ⟨?_⟩; refine Spec.ofR (h := fun F w0 => ?_)
            repeat' ((conv => whnf); first | refine Q.E ?_ | (refine Stk.both (fun hb => ?_) (fun hb => ?_) <;> (try simp only [lE] at hb))); all_goals (conv => whnf)
            (refine Q.r6 (h := ?_); repeat' (first | exact Q.r0 | refine Q.r1 ?_ ?_ | refine Q.r2 ?_ | exact Q.r7 | refine Q.r3 ?_ | refine Q.r4 ?_ | refine Q.r5 ?_))
            all_goals (first | rfl | exact tst_true.2 (by omega) | exact tst_false.2 (by omega) | (simp [tst_eq]; done) | (simp only [Bool.not_true, Bool.not_false, Bool.and_true, Bool.true_and, Bool.and_false, Bool.false_and]; first | done | exact tst_true.2 (by omega) | exact tst_false.2 (by omega) | (rw [tst_true.2 (by omega)]; done) | (rw [tst_false.2 (by omega)]; done)))
          · rw [decide_eq_false ht]
            refine ⟨?_⟩; refine Spec.ofR (h := fun F w0 => ?_)
            repeat' ((conv => whnf); first | refine Q.E ?_ | (refine Stk.both (fun hb => ?_) (fun hb => ?_) <;> (try simp only [lE] at hb))); all_goals (conv => whnf)
            all_goals first | (exfalso; omega) | (refine Q.r6 (h := ?_); repeat' (first | exact Q.r0 | refine Q.r1 ?_ ?_ | refine Q.r2 ?_ | exact Q.r7 | refine Q.r3 ?_ | refine Q.r4 ?_ | refine Q.r5 ?_))
            all_goals (first | rfl | exact tst_true.2 (by omega) | exact tst_false.2 (by omega) | (simp [tst_eq]; done) | (simp only [Bool.not_true, Bool.not_false, Bool.and_true, Bool.true_and, Bool.and_false, Bool.false_and]; first | done | exact tst_true.2 (by omega) | exact tst_false.2 (by omega) | (rw [tst_true.2 (by omega)]; done) | (rw [tst_false.2 (by omega)]; done)))
  · rw [show finB r = false by unfold finB; rw [decide_eq_false hn]; rfl]
    refine ⟨?_⟩; refine Spec.ofR (h := fun F w0 => ?_)
    repeat' ((conv => whnf); first | refine Q.E ?_ | (refine Stk.both (fun hb => ?_) (fun hb => ?_) <;> (try simp only [lE] at hb))); all_goals (conv => whnf)
    (refine Q.r6 (h := ?_); repeat' (first | exact Q.r0 | refine Q.r1 ?_ ?_ | refine Q.r2 ?_ | exact Q.r7 | refine Q.r3 ?_ | refine Q.r4 ?_ | refine Q.r5 ?_))
instance : TySz Tryz.prog 44 false 1 := ⟨by kernel_rfl⟩
instance : ElemT Tryz.prog 44 .nilFunc 1 8 := ⟨by kernel_rfl⟩
theorem rep_parts {r : Rpl} (h : repB r = true) : numsB r = true ∧ cmdB r = true ∧ hrsB r = true ∧ finB r = true := by
  unfold repB at h
  simp only [Bool.and_eq_true] at h
  exact ⟨h.1.1.1, h.1.1.2, h.1.2, h.2⟩
theorem nums_p {r : Rpl} (h : numsB r = true) : numsP r ∧ clkB r.clock r.floor r.own = true := by
  unfold numsB at h
  rw [Bool.and_eq_true, decide_eq_true_iff] at h
  exact h
def fnA (r : Rpl) : PV := .fn (.func 86) [.agg r.cs] []
def fnB (r : Rpl) : PV := .fn (.func 87) [.agg r.cs] []
def fnC (r : Rpl) : PV := .fn (.func 88) [.agg r.cs] []
def fnD (r : Rpl) : PV := .fn (.func 89) [.agg r.cs] []
instance statecheck_spec (r : Rpl) : HasSpec Tryz.prog 26 [.agg r.cs] (PV.int (errI (repB r) 2)) := by
  have j1 := counts_spec r
  have j2 := commands_spec r
  have hlen : (([[fnA r], [fnB r], [fnC r], [fnD r]] : List (List PV)).length : Int) = 4 := rfl
  cases h1 : numsB r with
  | false =>
    rw [h1] at j1
    rw [show repB r = false by unfold repB; rw [h1]; rfl]
    refine ⟨?_⟩; refine Spec.ofR (h := fun F w0 => ?_)
    repeat' ((conv => whnf); first | refine Q.E ?_ | (refine Stk.both (fun hb => ?_) (fun hb => ?_) <;> (try simp only [lE] at hb))); all_goals (conv => whnf)
    refine Stk.op (p := .sl 1 [[fnA r], [fnB r], [fnC r], [fnD r]]) (ok_lit (parts := [(0, .tmp 9), (1, .tmp 11), (2, .tmp 13), (3, .tmp 15)]) (n := 4) (cs := [fnA r, fnB r, fnC r, fnD r]) rfl rfl rfl rfl rfl) ?_
    repeat' ((conv => whnf); first | refine Q.E ?_ | (refine Stk.both (fun hb => ?_) (fun hb => ?_) <;> (try simp only [lE] at hb))); all_goals (conv => whnf)
    refine Stk.unroll 4 ?_
    repeat' ((conv => whnf); first | refine Q.E ?_ | (refine Stk.both (fun hb => ?_) (fun hb => ?_) <;> (try simp only [lE] at hb))); all_goals (conv => whnf)
    refine Stk.op (ok_load1_ptr rfl rfl rfl) ?_
    repeat' ((conv => whnf); first | refine Q.E ?_ | (refine Stk.both (fun hb => ?_) (fun hb => ?_) <;> (try simp only [lE] at hb))); all_goals (conv => whnf)
    (refine Q.r6 (h := ?_); repeat' (first | exact Q.r0 | refine Q.r1 ?_ ?_ | refine Q.r2 ?_ | exact Q.r7 | refine Q.r3 ?_ | refine Q.r4 ?_ | refine Q.r5 ?_))
  | true =>
    rw [h1] at j1
    have h9 : r.n ≤ 9 := (nums_p h1).1.2.1
    have j3 := hears_spec r h9
    have j4 := finished_spec r h9
    cases h2 : cmdB r with
    | false =>
      rw [h2] at j2
      rw [show repB r = false by unfold repB; rw [h2]; simp]
      refine ⟨?_⟩; refine Spec.ofR (h := fun F w0 => ?_)
      repeat' ((conv => whnf); first | refine Q.E ?_ | (refine Stk.both (fun hb => ?_) (fun hb => ?_) <;> (try simp only [lE] at hb))); all_goals (conv => whnf)
      refine Stk.op (p := .sl 1 [[fnA r], [fnB r], [fnC r], [fnD r]]) (ok_lit (parts := [(0, .tmp 9), (1, .tmp 11), (2, .tmp 13), (3, .tmp 15)]) (n := 4) (cs := [fnA r, fnB r, fnC r, fnD r]) rfl rfl rfl rfl rfl) ?_
      repeat' ((conv => whnf); first | refine Q.E ?_ | (refine Stk.both (fun hb => ?_) (fun hb => ?_) <;> (try simp only [lE] at hb))); all_goals (conv => whnf)
      refine Stk.unroll 4 ?_
      repeat' ((conv => whnf); first | refine Q.E ?_ | (refine Stk.both (fun hb => ?_) (fun hb => ?_) <;> (try simp only [lE] at hb))); all_goals (conv => whnf)
      refine Stk.op (ok_load1_ptr rfl rfl rfl) ?_
      repeat' ((conv => whnf); first | refine Q.E ?_ | (refine Stk.both (fun hb => ?_) (fun hb => ?_) <;> (try simp only [lE] at hb))); all_goals (conv => whnf)
      refine Stk.op (ok_load1_ptr rfl rfl rfl) ?_
      repeat' ((conv => whnf); first | refine Q.E ?_ | (refine Stk.both (fun hb => ?_) (fun hb => ?_) <;> (try simp only [lE] at hb))); all_goals (conv => whnf)
      (refine Q.r6 (h := ?_); repeat' (first | exact Q.r0 | refine Q.r1 ?_ ?_ | refine Q.r2 ?_ | exact Q.r7 | refine Q.r3 ?_ | refine Q.r4 ?_ | refine Q.r5 ?_))
    | true =>
      rw [h2] at j2
      cases h3 : hrsB r with
      | false =>
        rw [h3] at j3
        rw [show repB r = false by unfold repB; rw [h3]; simp]
        refine ⟨?_⟩; refine Spec.ofR (h := fun F w0 => ?_)
        repeat' ((conv => whnf); first | refine Q.E ?_ | (refine Stk.both (fun hb => ?_) (fun hb => ?_) <;> (try simp only [lE] at hb))); all_goals (conv => whnf)
        refine Stk.op (p := .sl 1 [[fnA r], [fnB r], [fnC r], [fnD r]]) (ok_lit (parts := [(0, .tmp 9), (1, .tmp 11), (2, .tmp 13), (3, .tmp 15)]) (n := 4) (cs := [fnA r, fnB r, fnC r, fnD r]) rfl rfl rfl rfl rfl) ?_
        repeat' ((conv => whnf); first | refine Q.E ?_ | (refine Stk.both (fun hb => ?_) (fun hb => ?_) <;> (try simp only [lE] at hb))); all_goals (conv => whnf)
        refine Stk.unroll 4 ?_
        repeat' ((conv => whnf); first | refine Q.E ?_ | (refine Stk.both (fun hb => ?_) (fun hb => ?_) <;> (try simp only [lE] at hb))); all_goals (conv => whnf)
        refine Stk.op (ok_load1_ptr rfl rfl rfl) ?_
        repeat' ((conv => whnf); first | refine Q.E ?_ | (refine Stk.both (fun hb => ?_) (fun hb => ?_) <;> (try simp only [lE] at hb))); all_goals (conv => whnf)
        refine Stk.op (ok_load1_ptr rfl rfl rfl) ?_
        repeat' ((conv => whnf); first | refine Q.E ?_ | (refine Stk.both (fun hb => ?_) (fun hb => ?_) <;> (try simp only [lE] at hb))); all_goals (conv => whnf)
        refine Stk.op (ok_load1_ptr rfl rfl rfl) ?_
        repeat' ((conv => whnf); first | refine Q.E ?_ | (refine Stk.both (fun hb => ?_) (fun hb => ?_) <;> (try simp only [lE] at hb))); all_goals (conv => whnf)
        (refine Q.r6 (h := ?_); repeat' (first | exact Q.r0 | refine Q.r1 ?_ ?_ | refine Q.r2 ?_ | exact Q.r7 | refine Q.r3 ?_ | refine Q.r4 ?_ | refine Q.r5 ?_))
      | true =>
        rw [h3] at j3
        cases h4 : finB r with
        | false =>
          rw [h4] at j4
          rw [show repB r = false by unfold repB; rw [h4]; simp]
          refine ⟨?_⟩; refine Spec.ofR (h := fun F w0 => ?_)
          repeat' ((conv => whnf); first | refine Q.E ?_ | (refine Stk.both (fun hb => ?_) (fun hb => ?_) <;> (try simp only [lE] at hb))); all_goals (conv => whnf)
          refine Stk.op (p := .sl 1 [[fnA r], [fnB r], [fnC r], [fnD r]]) (ok_lit (parts := [(0, .tmp 9), (1, .tmp 11), (2, .tmp 13), (3, .tmp 15)]) (n := 4) (cs := [fnA r, fnB r, fnC r, fnD r]) rfl rfl rfl rfl rfl) ?_
          repeat' ((conv => whnf); first | refine Q.E ?_ | (refine Stk.both (fun hb => ?_) (fun hb => ?_) <;> (try simp only [lE] at hb))); all_goals (conv => whnf)
          refine Stk.unroll 4 ?_
          repeat' ((conv => whnf); first | refine Q.E ?_ | (refine Stk.both (fun hb => ?_) (fun hb => ?_) <;> (try simp only [lE] at hb))); all_goals (conv => whnf)
          refine Stk.op (ok_load1_ptr rfl rfl rfl) ?_
          repeat' ((conv => whnf); first | refine Q.E ?_ | (refine Stk.both (fun hb => ?_) (fun hb => ?_) <;> (try simp only [lE] at hb))); all_goals (conv => whnf)
          refine Stk.op (ok_load1_ptr rfl rfl rfl) ?_
          repeat' ((conv => whnf); first | refine Q.E ?_ | (refine Stk.both (fun hb => ?_) (fun hb => ?_) <;> (try simp only [lE] at hb))); all_goals (conv => whnf)
          refine Stk.op (ok_load1_ptr rfl rfl rfl) ?_
          repeat' ((conv => whnf); first | refine Q.E ?_ | (refine Stk.both (fun hb => ?_) (fun hb => ?_) <;> (try simp only [lE] at hb))); all_goals (conv => whnf)
          refine Stk.op (ok_load1_ptr rfl rfl rfl) ?_
          repeat' ((conv => whnf); first | refine Q.E ?_ | (refine Stk.both (fun hb => ?_) (fun hb => ?_) <;> (try simp only [lE] at hb))); all_goals (conv => whnf)
          (refine Q.r6 (h := ?_); repeat' (first | exact Q.r0 | refine Q.r1 ?_ ?_ | refine Q.r2 ?_ | exact Q.r7 | refine Q.r3 ?_ | refine Q.r4 ?_ | refine Q.r5 ?_))
        | true =>
          rw [h4] at j4
          rw [show repB r = true by unfold repB; rw [h1, h2, h3, h4]; rfl]
          refine ⟨?_⟩; refine Spec.ofR (h := fun F w0 => ?_)
          repeat' ((conv => whnf); first | refine Q.E ?_ | (refine Stk.both (fun hb => ?_) (fun hb => ?_) <;> (try simp only [lE] at hb))); all_goals (conv => whnf)
          refine Stk.op (p := .sl 1 [[fnA r], [fnB r], [fnC r], [fnD r]]) (ok_lit (parts := [(0, .tmp 9), (1, .tmp 11), (2, .tmp 13), (3, .tmp 15)]) (n := 4) (cs := [fnA r, fnB r, fnC r, fnD r]) rfl rfl rfl rfl rfl) ?_
          repeat' ((conv => whnf); first | refine Q.E ?_ | (refine Stk.both (fun hb => ?_) (fun hb => ?_) <;> (try simp only [lE] at hb))); all_goals (conv => whnf)
          refine Stk.unroll 4 ?_
          repeat' ((conv => whnf); first | refine Q.E ?_ | (refine Stk.both (fun hb => ?_) (fun hb => ?_) <;> (try simp only [lE] at hb))); all_goals (conv => whnf)
          refine Stk.op (ok_load1_ptr rfl rfl rfl) ?_
          repeat' ((conv => whnf); first | refine Q.E ?_ | (refine Stk.both (fun hb => ?_) (fun hb => ?_) <;> (try simp only [lE] at hb))); all_goals (conv => whnf)
          refine Stk.op (ok_load1_ptr rfl rfl rfl) ?_
          repeat' ((conv => whnf); first | refine Q.E ?_ | (refine Stk.both (fun hb => ?_) (fun hb => ?_) <;> (try simp only [lE] at hb))); all_goals (conv => whnf)
          refine Stk.op (ok_load1_ptr rfl rfl rfl) ?_
          repeat' ((conv => whnf); first | refine Q.E ?_ | (refine Stk.both (fun hb => ?_) (fun hb => ?_) <;> (try simp only [lE] at hb))); all_goals (conv => whnf)
          refine Stk.op (ok_load1_ptr rfl rfl rfl) ?_
          repeat' ((conv => whnf); first | refine Q.E ?_ | (refine Stk.both (fun hb => ?_) (fun hb => ?_) <;> (try simp only [lE] at hb))); all_goals (conv => whnf)
          (refine Q.r6 (h := ?_); repeat' (first | exact Q.r0 | refine Q.r1 ?_ ?_ | refine Q.r2 ?_ | exact Q.r7 | refine Q.r3 ?_ | refine Q.r4 ?_ | refine Q.r5 ?_))
end Go.Proofs.YtbjepdfnmbdplaaGreat
end
section
namespace Go.Proofs.YtbjepdfnmbdplaaGreat
open Go.RowKit
set_option linter.unusedSimpArgs false
set_option linter.unusedVariables false
set_option maxRecDepth 100000
set_option maxHeartbeats 1000000
theorem putX_no {l : List Ent} {e : Ent} (h : ¬ (entsB l = true ∧ entB e = true)) : putX l e = 2 := if_pos h
theorem putX_in {l : List Ent} {e : Ent} (h : entsB l = true ∧ entB e = true) (hf : findB l e.id = true) : putX l e = 0 := (if_neg (not_not_intro h)).trans (if_pos hf)
theorem putX_new {l : List Ent} {e : Ent} (h : entsB l = true ∧ entB e = true) (hf : findB l e.id = false) (hn : l.length < 40) : putX l e = 0 := (if_neg (not_not_intro h)).trans ((if_neg (by rw [hf]; simp)).trans (if_pos hn))
theorem putX_full {l : List Ent} {e : Ent} (h : entsB l = true ∧ entB e = true) (hf : findB l e.id = false) (hn : ¬ l.length < 40) : putX l e = 8 := (if_neg (not_not_intro h)).trans ((if_neg (by rw [hf]; simp)).trans (if_neg hn))
theorem putL_no {l : List Ent} {e : Ent} (h : putX l e ≠ 0) : putL21 l e = [] := if_neg h
theorem putL_yes {l : List Ent} {e : Ent} (h : putX l e = 0) : putL21 l e = putE l e := if_pos h
theorem tw_mem {α : Type} {p : α → Bool} : ∀ {l : List α} {x : α}, x ∈ l.takeWhile p → p x = true
  | [], _, h => by cases h
  | a :: l, x, h => by
    rw [List.takeWhile_cons] at h
    split at h
    · rcases List.mem_cons.1 h with h | h
      · rw [h]; assumption
      · exact tw_mem h
    · cases h
theorem pos_split {l : List Ent} (hr : risE l l.length) (id : Int) : (∀ i (h : i < l.length), i < posE l id → l[i].id < id) ∧ (∀ i (h : i < l.length), posE l id ≤ i → id ≤ l[i].id) := by
  have h1 : ∀ i (h : i < l.length), i < posE l id → l[i].id < id := by
    intro i h hi
    have hm : l[i] ∈ l.takeWhile (fun e => decide (e.id < id)) := by
      have hp := List.takeWhile_prefix (l := l) (fun e => decide (e.id < id))
      rw [List.prefix_iff_eq_take] at hp
      rw [hp]
      exact List.mem_take_iff_getElem.2 ⟨i, by unfold posE at hi; omega, rfl⟩
    have := tw_mem hm
    exact of_decide_eq_true this
  refine ⟨h1, fun i h hi => ?_⟩
  have hp : posE l id < l.length := by omega
  have h2 : id ≤ (l[posE l id]'hp).id := by
    have e : l = l.takeWhile (fun e => decide (e.id < id)) ++ l.dropWhile (fun e => decide (e.id < id)) := List.takeWhile_append_dropWhile.symm
    have hd : l.dropWhile (fun e => decide (e.id < id)) ≠ [] := by
      intro h0
      rw [h0, List.append_nil] at e
      have := congrArg List.length e
      unfold posE at hp
      omega
    have hh := List.head_dropWhile_not (fun e : Ent => decide (e.id < id)) hd
    have hg : (l[posE l id]'hp) = (l.dropWhile (fun e => decide (e.id < id))).head hd := by
      have h3 : l[posE l id]? = (l.takeWhile (fun e => decide (e.id < id)) ++ l.dropWhile (fun e => decide (e.id < id)))[posE l id]? := by rw [← e]
      rw [List.getElem?_append_right (by unfold posE; exact Nat.le_refl _), show posE l id - (l.takeWhile (fun e => decide (e.id < id))).length = 0 from by unfold posE; omega, ← List.head?_eq_getElem?, List.head?_eq_some_head hd, List.getElem?_eq_getElem hp] at h3
      injection h3
    rw [hg]
    have := of_decide_eq_false hh
    omega
  by_cases e : posE l id = i
  · subst e; exact h2
  · have := rise_lt hr i h (posE l id) (by omega)
    omega
theorem pos_found {l : List Ent} (hr : risE l l.length) {id : Int} (h : findB l id = true) : ∃ hp : posE l id < l.length, (l[posE l id]'hp).id = id :=
  (found_at hr (pos_le l id) (pos_split hr id).1 (pos_split hr id).2).1 h
theorem pos_not {l : List Ent} (hr : risE l l.length) {id : Int} (h : findB l id = false) : ∀ i (hi : i < l.length), posE l id ≤ i → id < l[i].id := by
  intro i hi hp
  have h1 := (pos_split hr id).2 i hi hp
  by_cases e : l[i].id = id
  · have := List.any_eq_false.1 h l[i] (List.getElem_mem hi)
    exact absurd (decide_eq_true e) this
  · omega
instance tableput_spec (l : List Ent) (e : Ent) : HasSpec Tryz.prog 133 [PV.ents l, .agg e.cs] (.tup [PV.ents (putL21 l e), PV.int (putX l e)]) := by
  have jc := tablecheck_spec l
  cases hL : entsB l with
  | false =>
    rw [hL] at jc
    have hx : putX l e = 2 := putX_no (by rw [hL]; simp)
    rw [putL_no (by rw [hx]; decide), hx]
    refine ⟨?_⟩; refine Spec.ofR (h := fun F w0 => ?_)
    repeat' ((conv => whnf); first | refine Q.E ?_ | (refine Stk.both (fun hb => ?_) (fun hb => ?_) <;> (try simp only [lE] at hb))); all_goals (conv => whnf)
    (refine Q.r6 (h := ?_); repeat' (first | exact Q.r0 | refine Q.r1 ?_ ?_ | refine Q.r2 ?_ | exact Q.r7 | refine Q.r3 ?_ | refine Q.r4 ?_ | refine Q.r5 ?_))
  | true =>
    rw [hL] at jc
    cases hE : entB e with
    | false =>
      have je := chk_no hE
      have hx : putX l e = 2 := putX_no (by rw [hE]; simp)
      rw [putL_no (by rw [hx]; decide), hx]
      refine ⟨?_⟩; refine Spec.ofR (h := fun F w0 => ?_)
      repeat' ((conv => whnf); first | refine Q.E ?_ | (refine Stk.both (fun hb => ?_) (fun hb => ?_) <;> (try simp only [lE] at hb))); all_goals (conv => whnf)
      (refine Q.r6 (h := ?_); repeat' (first | exact Q.r0 | refine Q.r1 ?_ ?_ | refine Q.r2 ?_ | exact Q.r7 | refine Q.r3 ?_ | refine Q.r4 ?_ | refine Q.r5 ?_))
    | true =>
      have je := chk_yes hE
      obtain ⟨hl, hr⟩ := entsB_iff.1 hL
      have jb := bsearch_spec l hl hr e.id
      have jk := cloneent_spec l (by omega)
      cases hF : findB l e.id with
      | true =>
        obtain ⟨hp, hid⟩ := pos_found hr hF
        have hx := putX_in ⟨hL, hE⟩ hF
        rw [putL_yes hx, hx, show putE l e = l.set (posE l e.id) e from if_pos hF]
        rw [hF] at jb
        generalize posE l e.id = p at *
        refine ⟨?_⟩; refine Spec.ofR (h := fun F w0 => ?_)
        repeat' ((conv => whnf); first | refine Q.E ?_ | (refine Stk.both (fun hb => ?_) (fun hb => ?_) <;> (try simp only [lE] at hb))); all_goals (conv => whnf)
        refine Stk.op (ok_ix_row (l := l) (f := Ent.cs) (i := p) rfl rfl rfl hp rfl) ?_
        repeat' ((conv => whnf); first | refine Q.E ?_ | (refine Stk.both (fun hb => ?_) (fun hb => ?_) <;> (try simp only [lE] at hb))); all_goals (conv => whnf)
        refine Stk.eff (h := eff_st_row (l := l) (f := Ent.cs) (a := e) (fun _ => rfl) rfl rfl hp rfl) (k := ?_)
        repeat' ((conv => whnf); first | refine Q.E ?_ | (refine Stk.both (fun hb => ?_) (fun hb => ?_) <;> (try simp only [lE] at hb))); all_goals (conv => whnf)
        (refine Q.r6 (h := ?_); repeat' (first | exact Q.r0 | refine Q.r1 ?_ ?_ | refine Q.r2 ?_ | exact Q.r7 | refine Q.r3 ?_ | refine Q.r4 ?_ | refine Q.r5 ?_))
      | false =>
        rw [hF] at jb
        by_cases h40 : l.length < 40
        · have hx := putX_new ⟨hL, hE⟩ hF h40
          have hp := pos_le l e.id
          rw [putL_yes hx, hx, show putE l e = l.take (posE l e.id) ++ [e] ++ l.drop (posE l e.id) from if_neg (by rw [hF]; simp)]
          generalize posE l e.id = p at *
          refine ⟨?_⟩; refine Spec.ofR (h := fun F w0 => ?_)
          conv => whnf
          refine Stk.reC (TabT.noEz inferInstance) ?_
          have tb' : TabT Tryz.prog _ := TabT.noEz inferInstance
          repeat' ((conv => whnf); first | refine Q.E ?_ | (refine Stk.both (fun hb => ?_) (fun hb => ?_) <;> (try simp only [lE] at hb))); all_goals (conv => whnf)
          refine Stk.opB (b := .row 40 10 0 (chunks 10 1 e.cs)) (ok_litrow (parts := [(0, .tmp 37)]) (n := 1) (cs := e.cs) rfl rfl (by kernel_rfl) rfl) rfl ?_
          rw [show chunks 10 1 e.cs = [e.cs] from rfl]
          repeat' ((conv => whnf); first | refine Q.E ?_ | (refine Stk.both (fun hb => ?_) (fun hb => ?_) <;> (try simp only [lE] at hb))); all_goals (conv => whnf)
          refine Stk.appC rfl (eff_insG insEnt (inferInstance : FnT Tryz.prog 209 _).ent (i := p) (e := e.cs) (xs := l.map Ent.cs) rfl rfl rfl rfl rfl (by decide) (by rw [List.length_map]; exact hp) (by rw [List.length_map]; omega) rfl) ?_
          rw [show (l.map Ent.cs).take p ++ [e.cs] ++ (l.map Ent.cs).drop p = (l.take p ++ [e] ++ l.drop p).map Ent.cs from by rw [List.map_append, List.map_append, List.map_take, List.map_drop]; rfl]
          repeat' ((conv => whnf); first | refine Q.E ?_ | (refine Stk.both (fun hb => ?_) (fun hb => ?_) <;> (try simp only [lE] at hb))); all_goals (conv => whnf)
          (refine Q.r6 (h := ?_); repeat' (first | exact Q.r0 | refine Q.r1 ?_ ?_ | refine Q.r2 ?_ | exact Q.r7 | refine Q.r3 ?_ | refine Q.r4 ?_ | refine Q.r5 ?_))
        · have hx := putX_full ⟨hL, hE⟩ hF h40
          rw [putL_no (by rw [hx]; decide), hx]
          generalize posE l e.id = p at *
          refine ⟨?_⟩; refine Spec.ofR (h := fun F w0 => ?_)
          repeat' ((conv => whnf); first | refine Q.E ?_ | (refine Stk.both (fun hb => ?_) (fun hb => ?_) <;> (try simp only [lE] at hb))); all_goals (conv => whnf)
          (refine Q.r6 (h := ?_); repeat' (first | exact Q.r0 | refine Q.r1 ?_ ?_ | refine Q.r2 ?_ | exact Q.r7 | refine Q.r3 ?_ | refine Q.r4 ?_ | refine Q.r5 ?_))
end Go.Proofs.YtbjepdfnmbdplaaGreat
end
section
namespace Go.Proofs.YtbjepdfnmbdplaaGreat
open Go.RowKit
set_option linter.unusedSimpArgs false
set_option linter.unusedVariables false
set_option maxRecDepth 100000
set_option maxHeartbeats 1000000
end Go.Proofs.YtbjepdfnmbdplaaGreat
end
section
namespace Go.Proofs.YtbjepdfnmbdplaaGreat
open Go.RowKit
set_option linter.unusedSimpArgs false
set_option linter.unusedVariables false
set_option maxRecDepth 100000
set_option maxHeartbeats 1000000
end Go.Proofs.YtbjepdfnmbdplaaGreat
end
section
namespace Go.Proofs.YtbjepdfnmbdplaaGreat
open Go.RowKit
set_option linter.unusedSimpArgs false
set_option linter.unusedVariables false
set_option maxRecDepth 100000
set_option maxHeartbeats 1000000
end Go.Proofs.YtbjepdfnmbdplaaGreat
end
section
namespace Go.Proofs.YtbjepdfnmbdplaaGreat
open Go.RowKit
set_option linter.unusedSimpArgs false
set_option linter.unusedVariables false
set_option maxRecDepth 100000
set_option maxHeartbeats 1000000
theorem take_eq_stepG {α : Type} {a b : List α} {i : Nat} (h : a.take i = b.take i) (ha : i < a.length) (hb : i < b.length) (e : a[i] = b[i]) : a.take (i + 1) = b.take (i + 1) := by
  rw [take_snoc' a i ha, take_snoc' b i hb, h, e]
theorem dec_len {α : Type} [DecidableEq α] {a b : List α} (h : a.length ≠ b.length) : decide (a = b) = false := decide_eq_false (fun e => h (by rw [e]))
theorem dec_at {α : Type} [DecidableEq α] {a b : List α} (i : Nat) (ha : i < a.length) (hb : i < b.length) (h : a[i] ≠ b[i]) : decide (a = b) = false := decide_eq_false (fun e => h (by subst e; rfl))
instance sliceseq_spec (a b : List Int) : HasSpec Tryz.prog 232 [PV.ints a, PV.ints b] (.v (.bool (decide (a = b)))) := by
  by_cases hl0 : a.length = b.length
  · have hll : (a.length : Int) = (b.length : Nat) := by rw [hl0]
    refine ⟨Spec.bound 0 rfl fun hl => ?_⟩; rw [List.length_map] at hl; refine Spec.ofR (h := fun F w0 => ?_)
    repeat' ((conv => whnf); first | refine Q.E ?_ | (refine Stk.both (fun hb => ?_) (fun hb => ?_) <;> (try simp only [lE] at hb))); all_goals (conv => whnf)
    refine Stk.loop (ι := Nat) (fun i => [(0, PV.ints a), (1, PV.ints b), (12, PV.int (a.length : Nat)), (13, PV.int (i : Nat))]) (fun _ => []) (fun i => i ≤ a.length ∧ a.take i = b.take i) (fun i => a.length - i) 0 ⟨Nat.zero_le _, by simp⟩ (Weak.gc ⟨rfl, rfl, rfl, rfl, trivial⟩ trivial rfl rfl rfl) (fun i hi => ?_)
    obtain ⟨hi, he⟩ := hi
    by_cases hlt : i < a.length
    · have hb : i < b.length := by omega
      by_cases hq : a[i] = b[i]
      · repeat' ((conv => whnf); first | refine Q.E ?_ | (refine Stk.both (fun hb => ?_) (fun hb => ?_) <;> (try simp only [lE] at hb))); all_goals (conv => whnf)
        exact ⟨i + 1, ⟨by omega, take_eq_stepG he hlt hb hq⟩, by omega, Weak.gc ⟨rfl, rfl, rfl, rfl, trivial⟩ trivial rfl rfl rfl⟩
      · rw [dec_at i hlt hb hq]
        repeat' ((conv => whnf); first | refine Q.E ?_ | (refine Stk.both (fun hb => ?_) (fun hb => ?_) <;> (try simp only [lE] at hb))); all_goals (conv => whnf)
        (refine Q.r6 (h := ?_); repeat' (first | exact Q.r0 | refine Q.r1 ?_ ?_ | refine Q.r2 ?_ | exact Q.r7 | refine Q.r3 ?_ | refine Q.r4 ?_ | refine Q.r5 ?_))
    · rw [List.take_of_length_le (by omega), List.take_of_length_le (by omega)] at he
      rw [decide_eq_true he]
      repeat' ((conv => whnf); first | refine Q.E ?_ | (refine Stk.both (fun hb => ?_) (fun hb => ?_) <;> (try simp only [lE] at hb))); all_goals (conv => whnf)
      (refine Q.r6 (h := ?_); repeat' (first | exact Q.r0 | refine Q.r1 ?_ ?_ | refine Q.r2 ?_ | exact Q.r7 | refine Q.r3 ?_ | refine Q.r4 ?_ | refine Q.r5 ?_))
  · rw [dec_len hl0]
    have hll : ¬ (a.length : Int) = (b.length : Nat) := by omega
    refine ⟨Spec.bound 0 rfl fun hl => ?_⟩; rw [List.length_map] at hl; refine Spec.ofR (h := fun F w0 => ?_)
    repeat' ((conv => whnf); first | refine Q.E ?_ | (refine Stk.both (fun hb => ?_) (fun hb => ?_) <;> (try simp only [lE] at hb))); all_goals (conv => whnf)
    (refine Q.r6 (h := ?_); repeat' (first | exact Q.r0 | refine Q.r1 ?_ ?_ | refine Q.r2 ?_ | exact Q.r7 | refine Q.r3 ?_ | refine Q.r4 ?_ | refine Q.r5 ?_))
def fewT (m : List (List Int)) : Bool := decide (m.length ≤ 20) && m.all fun r => decide (r.length ≤ 20)
instance few18_spec (m : List (List Int)) : HasSpec Tryz.prog 44 [PV.tab m] (.v (.bool (fewT m))) := by
  by_cases h20 : m.length ≤ 20
  · refine ⟨Spec.bound 0 rfl fun hl => ?_⟩; rw [List.length_map] at hl; refine Spec.ofR (h := fun F w0 => ?_)
    repeat' ((conv => whnf); first | refine Q.E ?_ | (refine Stk.both (fun hb => ?_) (fun hb => ?_) <;> (try simp only [lE] at hb))); all_goals (conv => whnf)
    refine Stk.loop (ι := Nat) (fun i => [(0, PV.tab m), (3, PV.int (i : Nat))]) (fun _ => []) (fun i => i ≤ m.length ∧ ∀ r ∈ m.take i, (!decide (r.length ≤ 20)) = false) (fun i => m.length - i) 0 ⟨Nat.zero_le _, by simp⟩ (Weak.gc ⟨rfl, rfl, trivial⟩ trivial rfl rfl rfl) (fun i hi => ?_)
    obtain ⟨hi, hno⟩ := hi
    by_cases hlt : i < m.length
    · by_cases hr : m[i].length ≤ 20
      · repeat' ((conv => whnf); first | refine Q.E ?_ | (refine Stk.both (fun hb => ?_) (fun hb => ?_) <;> (try simp only [lE] at hb))); all_goals (conv => whnf)
        exact ⟨i + 1, ⟨by omega, take_no hlt hno (by rw [decide_eq_true hr]; rfl)⟩, by omega, Weak.gc ⟨rfl, rfl, trivial⟩ trivial rfl rfl rfl⟩
      · rw [show fewT m = false by unfold fewT; rw [show (m.all fun r => decide (r.length ≤ 20)) = false from List.all_eq_false.2 ⟨m[i], List.getElem_mem hlt, by rw [decide_eq_false hr]; simp⟩, Bool.and_false]]
        repeat' ((conv => whnf); first | refine Q.E ?_ | (refine Stk.both (fun hb => ?_) (fun hb => ?_) <;> (try simp only [lE] at hb))); all_goals (conv => whnf)
        (refine Q.r6 (h := ?_); repeat' (first | exact Q.r0 | refine Q.r1 ?_ ?_ | refine Q.r2 ?_ | exact Q.r7 | refine Q.r3 ?_ | refine Q.r4 ?_ | refine Q.r5 ?_))
    · rw [show fewT m = true by
        unfold fewT
        rw [decide_eq_true h20, show (m.all fun r => decide (r.length ≤ 20)) = true from List.all_eq_true.2 fun r hr => by simpa using take_all (by omega) hno r hr]
        rfl]
      repeat' ((conv => whnf); first | refine Q.E ?_ | (refine Stk.both (fun hb => ?_) (fun hb => ?_) <;> (try simp only [lE] at hb))); all_goals (conv => whnf)
      (refine Q.r6 (h := ?_); repeat' (first | exact Q.r0 | refine Q.r1 ?_ ?_ | refine Q.r2 ?_ | exact Q.r7 | refine Q.r3 ?_ | refine Q.r4 ?_ | refine Q.r5 ?_))
  · rw [show fewT m = false by unfold fewT; rw [decide_eq_false h20]; rfl]
    refine ⟨Spec.bound 0 rfl fun hl => ?_⟩; rw [List.length_map] at hl; refine Spec.ofR (h := fun F w0 => ?_)
    repeat' ((conv => whnf); first | refine Q.E ?_ | (refine Stk.both (fun hb => ?_) (fun hb => ?_) <;> (try simp only [lE] at hb))); all_goals (conv => whnf)
    (refine Q.r6 (h := ?_); repeat' (first | exact Q.r0 | refine Q.r1 ?_ ?_ | refine Q.r2 ?_ | exact Q.r7 | refine Q.r3 ?_ | refine Q.r4 ?_ | refine Q.r5 ?_))
end Go.Proofs.YtbjepdfnmbdplaaGreat
end
section
namespace Go.Proofs.YtbjepdfnmbdplaaGreat
open Go.RowKit
set_option linter.unusedSimpArgs false
set_option linter.unusedVariables false
set_option maxRecDepth 100000
set_option maxHeartbeats 1000000
section
variable {r : Rpl}
end
theorem rsizeok {n f : Int} (h : sizeB n f = true) : HasSpec Tryz.prog 119 [PV.int n, PV.int f] (.tup [PV.int (n / 2 + f), PV.int (f + 1), PV.int (n - f)]) := by have := refsizes_spec n f; rw [h] at this; exact this
end Go.Proofs.YtbjepdfnmbdplaaGreat
end
section
namespace Go.Proofs.YtbjepdfnmbdplaaGreat
open Go.RowKit
set_option linter.unusedSimpArgs false
set_option linter.unusedVariables false
set_option maxRecDepth 100000
set_option maxHeartbeats 1000000
instance identseq_spec (id : Int) : HasSpec Tryz.prog 204 [PV.int id] (PV.int (seqI id)) := by
  cases e : idB id with
  | true =>
    have h := idB_iff.1 e
    have hc := idchk_yes e
    rw [show seqI id = id / 10 from if_pos e]
    refine ⟨?_⟩; refine Spec.ofR (h := fun F w0 => ?_)
    repeat' ((conv => whnf); first | refine Q.E ?_ | (refine Stk.both (fun hb => ?_) (fun hb => ?_) <;> (try simp only [lE] at hb))); all_goals (conv => whnf)
    (refine Q.r6 (h := ?_); repeat' (first | exact Q.r0 | refine Q.r1 ?_ ?_ | refine Q.r2 ?_ | exact Q.r7 | refine Q.r3 ?_ | refine Q.r4 ?_ | refine Q.r5 ?_))
  | false =>
    have hc := idchk_no e
    rw [show seqI id = 0 from if_neg (by rw [e]; simp)]
    refine ⟨?_⟩; refine Spec.ofR (h := fun F w0 => ?_)
    repeat' ((conv => whnf); first | refine Q.E ?_ | (refine Stk.both (fun hb => ?_) (fun hb => ?_) <;> (try simp only [lE] at hb))); all_goals (conv => whnf)
    (refine Q.r6 (h := ?_); repeat' (first | exact Q.r0 | refine Q.r1 ?_ ?_ | refine Q.r2 ?_ | exact Q.r7 | refine Q.r3 ?_ | refine Q.r4 ?_ | refine Q.r5 ?_))
theorem stok' {r : Rpl} (h : repB r = true) : HasSpec Tryz.prog 26 [.agg r.cs] (PV.int 0) := by have := statecheck_spec r; rw [h] at this; exact this
theorem stbad' {r : Rpl} (h : repB r = false) : HasSpec Tryz.prog 26 [.agg r.cs] (PV.int 2) := by have := statecheck_spec r; rw [h] at this; exact this
theorem rep_nums {r : Rpl} (h : repB r = true) : numsP r := (nums_p (rep_parts h).1).1
theorem rep_done {r : Rpl} (h : repB r = true) : (r.done.length : Int) = r.n := by
  have := (rep_parts h).2.2.2
  unfold finB at this
  simp only [Bool.and_eq_true, decide_eq_true_eq] at this
  exact this.1.1
theorem doneAt_in {r : Rpl} {id : Int} (h : 1 ≤ selfI id ∧ selfI id ≤ r.n) {k : Nat} (hk : k < r.done.length) (e : k = (selfI id - 1).toNat) : doneAt r id = rhasB r.done[k] (seqI id) := by
  subst e
  unfold doneAt
  rw [decide_eq_true h, Bool.true_and, List.getD_eq_getElem?_getD, List.getElem?_eq_getElem hk]
  rfl
theorem doneAt_no {r : Rpl} {id : Int} (h : ¬ (1 ≤ selfI id ∧ selfI id ≤ r.n)) : doneAt r id = false := by unfold doneAt; rw [decide_eq_false h]; rfl
theorem self_ge (id : Int) : 0 ≤ selfI id ∧ selfI id ≤ 9 := by
  cases h : idB id with
  | true => have := self_pos h; omega
  | false => rw [self_none h]; omega
theorem donespec (r : Rpl) (id : Int) (hr : repB r = true) : HasSpec Tryz.prog 132 [.agg r.cs, PV.int id] (.v (.bool (doneAt r id))) := by
  have hl := rep_done hr
  have hs := self_ge id
  by_cases h : 1 ≤ selfI id ∧ selfI id ≤ r.n
  · have hk : (selfI id - 1).toNat < r.done.length := by omega
    rw [doneAt_in h hk rfl]
    refine ⟨?_⟩; refine Spec.ofR (h := fun F w0 => ?_)
    repeat' ((conv => whnf); first | refine Q.E ?_ | (refine Stk.both (fun hb => ?_) (fun hb => ?_) <;> (try simp only [lE] at hb))); all_goals (conv => whnf)
    (refine Q.r6 (h := ?_); repeat' (first | exact Q.r0 | refine Q.r1 ?_ ?_ | refine Q.r2 ?_ | exact Q.r7 | refine Q.r3 ?_ | refine Q.r4 ?_ | refine Q.r5 ?_))
  · rw [doneAt_no h]
    refine ⟨?_⟩; refine Spec.ofR (h := fun F w0 => ?_)
    repeat' ((conv => whnf); first | refine Q.E ?_ | (refine Stk.both (fun hb => ?_) (fun hb => ?_) <;> (try simp only [lE] at hb))); all_goals (conv => whnf)
    all_goals first | (exfalso; omega) | (refine Q.r6 (h := ?_); repeat' (first | exact Q.r0 | refine Q.r1 ?_ ?_ | refine Q.r2 ?_ | exact Q.r7 | refine Q.r3 ?_ | refine Q.r4 ?_ | refine Q.r5 ?_))
instance done_spec (r : Rpl) (id : Int) : HasSpec Tryz.prog 186 [.agg r.cs, PV.int id] (.v (.bool (doneB r id))) := by
  cases hr : repB r with
  | true =>
    have j1 := stok' hr
    have j2 := donespec r id hr
    rw [show doneB r id = doneAt r id by unfold doneB; rw [hr]; rfl]
    refine ⟨?_⟩; refine Spec.ofR (h := fun F w0 => ?_)
    repeat' ((conv => whnf); first | refine Q.E ?_ | (refine Stk.both (fun hb => ?_) (fun hb => ?_) <;> (try simp only [lE] at hb))); all_goals (conv => whnf)
    (refine Q.r6 (h := ?_); repeat' (first | exact Q.r0 | refine Q.r1 ?_ ?_ | refine Q.r2 ?_ | exact Q.r7 | refine Q.r3 ?_ | refine Q.r4 ?_ | refine Q.r5 ?_))
  | false =>
    have j1 := stbad' hr
    rw [show doneB r id = false by unfold doneB; rw [hr]; rfl]
    refine ⟨?_⟩; refine Spec.ofR (h := fun F w0 => ?_)
    repeat' ((conv => whnf); first | refine Q.E ?_ | (refine Stk.both (fun hb => ?_) (fun hb => ?_) <;> (try simp only [lE] at hb))); all_goals (conv => whnf)
    (refine Q.r6 (h := ?_); repeat' (first | exact Q.r0 | refine Q.r1 ?_ ?_ | refine Q.r2 ?_ | exact Q.r7 | refine Q.r3 ?_ | refine Q.r4 ?_ | refine Q.r5 ?_))
theorem rputX_no {r : Rpl} {e : Ent} (h : ¬ (repB r = true ∧ 1 ≤ selfI e.id ∧ selfI e.id ≤ r.n)) : rputX r e = 2 := if_pos h
theorem rputX_done {r : Rpl} {e : Ent} (h : repB r = true ∧ 1 ≤ selfI e.id ∧ selfI e.id ≤ r.n) (h2 : doneAt r e.id = true ∧ e.phase ≠ 6) : rputX r e = 33 := (if_neg (not_not_intro h)).trans (if_pos h2)
theorem rputX_put {r : Rpl} {e : Ent} (h : repB r = true ∧ 1 ≤ selfI e.id ∧ selfI e.id ≤ r.n) (h2 : ¬ (doneAt r e.id = true ∧ e.phase ≠ 6)) : rputX r e = putX r.entries e := (if_neg (not_not_intro h)).trans (if_neg h2)
theorem rputR_no {r : Rpl} {e : Ent} (h : rputX r e ≠ 0) : rputR r e = r := if_neg h
theorem rputR_yes {r : Rpl} {e : Ent} (h : rputX r e = 0) : rputR r e = { r with entries := putE r.entries e } := if_pos h
instance put_spec (r : Rpl) (e : Ent) : HasSpec Tryz.prog 54 [.agg r.cs, .agg e.cs] (.tup [.agg (rputR r e).cs, PV.int (rputX r e)]) := by
  have hs := self_ge e.id
  cases hr : repB r with
  | false =>
    have j1 := stbad' hr
    have hx : rputX r e = 2 := rputX_no (by rw [hr]; simp)
    rw [rputR_no (by rw [hx]; decide), hx]
    refine ⟨?_⟩; refine Spec.ofR (h := fun F w0 => ?_)
    repeat' ((conv => whnf); first | refine Q.E ?_ | (refine Stk.both (fun hb => ?_) (fun hb => ?_) <;> (try simp only [lE] at hb))); all_goals (conv => whnf)
    (refine Q.r6 (h := ?_); repeat' (first | exact Q.r0 | refine Q.r1 ?_ ?_ | refine Q.r2 ?_ | exact Q.r7 | refine Q.r3 ?_ | refine Q.r4 ?_ | refine Q.r5 ?_))
  | true =>
    have j1 := stok' hr
    have j2 := donespec r e.id hr
    by_cases h : 1 ≤ selfI e.id ∧ selfI e.id ≤ r.n
    · by_cases hd : doneAt r e.id = true ∧ e.phase ≠ 6
      · have hx := rputX_done ⟨hr, h⟩ hd
        rw [rputR_no (by rw [hx]; decide), hx]
        rw [hd.1] at j2
        have hp := hd.2
        refine ⟨?_⟩; refine Spec.ofR (h := fun F w0 => ?_)
        repeat' ((conv => whnf); first | refine Q.E ?_ | (refine Stk.both (fun hb => ?_) (fun hb => ?_) <;> (try simp only [lE] at hb))); all_goals (conv => whnf)
        (refine Q.r6 (h := ?_); repeat' (first | exact Q.r0 | refine Q.r1 ?_ ?_ | refine Q.r2 ?_ | exact Q.r7 | refine Q.r3 ?_ | refine Q.r4 ?_ | refine Q.r5 ?_))
      · have hx := rputX_put ⟨hr, h⟩ hd
        have jt := tableput_spec r.entries e
        by_cases h0 : putX r.entries e = 0
        · rw [rputR_yes (by rw [hx]; exact h0), hx, h0]
          rw [putL_yes h0, h0] at jt
          generalize putE r.entries e = L at *
          cases hda : doneAt r e.id with
          | false =>
            rw [hda] at j2
            refine ⟨?_⟩; refine Spec.ofR (h := fun F w0 => ?_)
            repeat' ((conv => whnf); first | refine Q.E ?_ | (refine Stk.both (fun hb => ?_) (fun hb => ?_) <;> (try simp only [lE] at hb))); all_goals (conv => whnf)
            (refine Q.r6 (h := ?_); repeat' (first | exact Q.r0 | refine Q.r1 ?_ ?_ | refine Q.r2 ?_ | exact Q.r7 | refine Q.r3 ?_ | refine Q.r4 ?_ | refine Q.r5 ?_))
          | true =>
            rw [hda] at j2
            have hp : e.phase = 6 := by
              rw [hda] at hd
              simpa using hd
            refine ⟨?_⟩; refine Spec.ofR (h := fun F w0 => ?_)
            repeat' ((conv => whnf); first | refine Q.E ?_ | (refine Stk.both (fun hb => ?_) (fun hb => ?_) <;> (try simp only [lE] at hb))); all_goals (conv => whnf)
            (refine Q.r6 (h := ?_); repeat' (first | exact Q.r0 | refine Q.r1 ?_ ?_ | refine Q.r2 ?_ | exact Q.r7 | refine Q.r3 ?_ | refine Q.r4 ?_ | refine Q.r5 ?_))
        · rw [rputR_no (by rw [hx]; exact h0), hx]
          generalize putX r.entries e = x at *
          generalize putL21 r.entries e = L at *
          cases hda : doneAt r e.id with
          | false =>
            rw [hda] at j2
            refine ⟨?_⟩; refine Spec.ofR (h := fun F w0 => ?_)
            repeat' ((conv => whnf); first | refine Q.E ?_ | (refine Stk.both (fun hb => ?_) (fun hb => ?_) <;> (try simp only [lE] at hb))); all_goals (conv => whnf)
            (refine Q.r6 (h := ?_); repeat' (first | exact Q.r0 | refine Q.r1 ?_ ?_ | refine Q.r2 ?_ | exact Q.r7 | refine Q.r3 ?_ | refine Q.r4 ?_ | refine Q.r5 ?_))
          | true =>
            rw [hda] at j2
            have hp : e.phase = 6 := by
              rw [hda] at hd
              simpa using hd
            refine ⟨?_⟩; refine Spec.ofR (h := fun F w0 => ?_)
            repeat' ((conv => whnf); first | refine Q.E ?_ | (refine Stk.both (fun hb => ?_) (fun hb => ?_) <;> (try simp only [lE] at hb))); all_goals (conv => whnf)
            (refine Q.r6 (h := ?_); repeat' (first | exact Q.r0 | refine Q.r1 ?_ ?_ | refine Q.r2 ?_ | exact Q.r7 | refine Q.r3 ?_ | refine Q.r4 ?_ | refine Q.r5 ?_))
    · have hx : rputX r e = 2 := rputX_no (fun h' => h h'.2)
      rw [rputR_no (by rw [hx]; decide), hx]
      refine ⟨?_⟩; refine Spec.ofR (h := fun F w0 => ?_)
      repeat' ((conv => whnf); first | refine Q.E ?_ | (refine Stk.both (fun hb => ?_) (fun hb => ?_) <;> (try simp only [lE] at hb))); all_goals (conv => whnf)
      all_goals first | (exfalso; omega) | (refine Q.r6 (h := ?_); repeat' (first | exact Q.r0 | refine Q.r1 ?_ ?_ | refine Q.r2 ?_ | exact Q.r7 | refine Q.r3 ?_ | refine Q.r4 ?_ | refine Q.r5 ?_))
end Go.Proofs.YtbjepdfnmbdplaaGreat
end
section
namespace Go.Proofs.YtbjepdfnmbdplaaGreat
open Go.RowKit
set_option linter.unusedSimpArgs false
set_option linter.unusedVariables false
set_option maxRecDepth 100000
set_option maxHeartbeats 1000000
instance mtime_spec (t : Int) : HasSpec Tryz.prog 234 [PV.int t] (.v (.bool (timeB t))) := by
  refine ⟨?_⟩; refine Spec.ofR (h := fun F w0 => ?_)
  repeat' ((conv => whnf); first | refine Q.E ?_ | (refine Stk.both (fun hb => ?_) (fun hb => ?_) <;> (try simp only [lE] at hb))); all_goals (conv => whnf)
  all_goals (refine Q.r6 (h := ?_); repeat' (first | exact Q.r0 | refine Q.r1 ?_ ?_ | refine Q.r2 ?_ | exact Q.r7 | refine Q.r3 ?_ | refine Q.r4 ?_ | refine Q.r5 ?_))
  all_goals unfold timeB
  all_goals ((first | rfl | (rw [Bool.eq_iff_iff]; simp only [tst_true, tst_false, lE, decide_eq_true_eq, decide_eq_false_iff_not, Bool.and_eq_true, Bool.or_eq_true, Bool.not_eq_true', Bool.not_eq_false', Bool.false_eq_true, Bool.true_eq_false, true_iff, iff_true, false_iff, iff_false, true_and, and_true, false_and, and_false, not_false_eq_true, not_true_eq_false]; try omega)))
instance mballot_spec (t : Int) : HasSpec Tryz.prog 236 [PV.int t] (.v (.bool (timeB t))) := by
  refine ⟨?_⟩; refine Spec.ofR (h := fun F w0 => ?_)
  repeat' ((conv => whnf); first | refine Q.E ?_ | (refine Stk.both (fun hb => ?_) (fun hb => ?_) <;> (try simp only [lE] at hb))); all_goals (conv => whnf)
  all_goals (refine Q.r6 (h := ?_); repeat' (first | exact Q.r0 | refine Q.r1 ?_ ?_ | refine Q.r2 ?_ | exact Q.r7 | refine Q.r3 ?_ | refine Q.r4 ?_ | refine Q.r5 ?_))
  all_goals unfold timeB
  all_goals ((first | rfl | (rw [Bool.eq_iff_iff]; simp only [tst_true, tst_false, lE, decide_eq_true_eq, decide_eq_false_iff_not, Bool.and_eq_true, Bool.or_eq_true, Bool.not_eq_true', Bool.not_eq_false', Bool.false_eq_true, Bool.true_eq_false, true_iff, iff_true, false_iff, iff_false, true_and, and_true, false_and, and_false, not_false_eq_true, not_true_eq_false]; try omega)))
instance mmark_spec (t : Int) : HasSpec Tryz.prog 261 [PV.int t] (.v (.bool (!noneB t))) := by
  refine ⟨?_⟩; refine Spec.ofR (h := fun F w0 => ?_)
  repeat' ((conv => whnf); first | refine Q.E ?_ | (refine Stk.both (fun hb => ?_) (fun hb => ?_) <;> (try simp only [lE] at hb))); all_goals (conv => whnf)
  all_goals (refine Q.r6 (h := ?_); repeat' (first | exact Q.r0 | refine Q.r1 ?_ ?_ | refine Q.r2 ?_ | exact Q.r7 | refine Q.r3 ?_ | refine Q.r4 ?_ | refine Q.r5 ?_))
  all_goals unfold noneB
  all_goals ((first | rfl | (rw [Bool.eq_iff_iff]; simp only [tst_true, tst_false, lE, decide_eq_true_eq, decide_eq_false_iff_not, Bool.and_eq_true, Bool.or_eq_true, Bool.not_eq_true', Bool.not_eq_false', Bool.false_eq_true, Bool.true_eq_false, true_iff, iff_true, false_iff, iff_false, true_and, and_true, false_and, and_false, not_false_eq_true, not_true_eq_false]; try omega)))
instance mprom1_spec (t : Int) : HasSpec Tryz.prog 262 [PV.int t] (.v (.bool (noneB t))) := by
  refine ⟨?_⟩; refine Spec.ofR (h := fun F w0 => ?_)
  repeat' ((conv => whnf); first | refine Q.E ?_ | (refine Stk.both (fun hb => ?_) (fun hb => ?_) <;> (try simp only [lE] at hb))); all_goals (conv => whnf)
  (refine Q.r6 (h := ?_); repeat' (first | exact Q.r0 | refine Q.r1 ?_ ?_ | refine Q.r2 ?_ | exact Q.r7 | refine Q.r3 ?_ | refine Q.r4 ?_ | refine Q.r5 ?_))
  simp
instance carried_spec (m : Msg) : HasSpec Tryz.prog 235 [.agg m.cs] (.v (.bool (carB m))) := by
  have hc := cnt_zero m.quorum
  by_cases hq : 1 ≤ m.quorum ∧ m.quorum ≤ 511
  · have hpos : ((listS m.quorum 9).length : Int) ≠ 0 := by
      intro h
      rw [hc] at h
      exact h hq
    by_cases hp : m.payload.size ≤ 300
    · rw [show carB m = true from decide_eq_true ⟨hq.1, hq.2, hp⟩]
      refine ⟨?_⟩; refine Spec.ofR (h := fun F w0 => ?_)
      repeat' ((conv => whnf); first | refine Q.E ?_ | (refine Stk.both (fun hb => ?_) (fun hb => ?_) <;> (try simp only [lE] at hb))); all_goals (conv => whnf)
      (refine Q.r6 (h := ?_); repeat' (first | exact Q.r0 | refine Q.r1 ?_ ?_ | refine Q.r2 ?_ | exact Q.r7 | refine Q.r3 ?_ | refine Q.r4 ?_ | refine Q.r5 ?_))
      all_goals (first | rfl | exact tst_true.2 (by omega) | exact tst_false.2 (by omega) | (simp [tst_eq]; done) | (simp only [Bool.not_true, Bool.not_false, Bool.and_true, Bool.true_and, Bool.and_false, Bool.false_and]; first | done | exact tst_true.2 (by omega) | exact tst_false.2 (by omega) | (rw [tst_true.2 (by omega)]; done) | (rw [tst_false.2 (by omega)]; done)))
    · rw [show carB m = false from decide_eq_false (by omega)]
      refine ⟨?_⟩; refine Spec.ofR (h := fun F w0 => ?_)
      repeat' ((conv => whnf); first | refine Q.E ?_ | (refine Stk.both (fun hb => ?_) (fun hb => ?_) <;> (try simp only [lE] at hb))); all_goals (conv => whnf)
      (refine Q.r6 (h := ?_); repeat' (first | exact Q.r0 | refine Q.r1 ?_ ?_ | refine Q.r2 ?_ | exact Q.r7 | refine Q.r3 ?_ | refine Q.r4 ?_ | refine Q.r5 ?_))
      all_goals (first | rfl | exact tst_true.2 (by omega) | exact tst_false.2 (by omega) | (simp [tst_eq]; done) | (simp only [Bool.not_true, Bool.not_false, Bool.and_true, Bool.true_and, Bool.and_false, Bool.false_and]; first | done | exact tst_true.2 (by omega) | exact tst_false.2 (by omega) | (rw [tst_true.2 (by omega)]; done) | (rw [tst_false.2 (by omega)]; done)))
  · have hz : ((listS m.quorum 9).length : Int) = 0 := by rw [hc]; exact hq
    rw [show carB m = false from decide_eq_false (by omega)]
    refine ⟨?_⟩; refine Spec.ofR (h := fun F w0 => ?_)
    repeat' ((conv => whnf); first | refine Q.E ?_ | (refine Stk.both (fun hb => ?_) (fun hb => ?_) <;> (try simp only [lE] at hb))); all_goals (conv => whnf)
    all_goals first | (exfalso; omega) | (refine Q.r6 (h := ?_); repeat' (first | exact Q.r0 | refine Q.r1 ?_ ?_ | refine Q.r2 ?_ | exact Q.r7 | refine Q.r3 ?_ | refine Q.r4 ?_ | refine Q.r5 ?_))
    all_goals (first | rfl | exact tst_true.2 (by omega) | exact tst_false.2 (by omega) | (simp [tst_eq]; done) | (simp only [Bool.not_true, Bool.not_false, Bool.and_true, Bool.true_and, Bool.and_false, Bool.false_and]; first | done | exact tst_true.2 (by omega) | exact tst_false.2 (by omega) | (rw [tst_true.2 (by omega)]; done) | (rw [tst_false.2 (by omega)]; done)))
theorem tellB_0 {m : Msg} (h : m.abal = 0) : tellB m = decide (0 < m.bal ∧ 1 ≤ m.t ∧ m.t ≤ 1000000 ∧ (m.phase = 3 ∨ m.phase = 4)) := by
  unfold tellB
  rw [if_pos h, h, ← Bool.decide_and, decide_eq_decide]
  omega
theorem tellB_1 {m : Msg} (h : ¬ m.abal = 0) : tellB m = decide (0 ≤ m.abal ∧ m.abal < m.bal ∧ 1 ≤ m.t ∧ m.t ≤ 1000000 ∧ 1 ≤ m.phase ∧ m.phase ≤ 4) := by
  unfold tellB
  rw [if_neg h, ← Bool.decide_and, decide_eq_decide]
  omega
instance mtold_spec (m : Msg) : HasSpec Tryz.prog 237 [.agg m.cs] (.v (.bool (tellB m))) := by
  have ht := timeB_iff (t := m.t)
  by_cases h : m.abal = 0
  · rw [tellB_0 h]
    cases h2 : timeB m.t with
    | true =>
      have h3 := ht.1 h2
      by_cases h4 : 0 < m.bal ∧ (m.phase = 3 ∨ m.phase = 4)
      · rw [decide_eq_true ⟨h4.1, h3.1, h3.2, h4.2⟩]
        by_cases h5 : m.phase = 3
        · refine ⟨?_⟩; refine Spec.ofR (h := fun F w0 => ?_)
          repeat' ((conv => whnf); first | refine Q.E ?_ | (refine Stk.both (fun hb => ?_) (fun hb => ?_) <;> (try simp only [lE] at hb))); all_goals (conv => whnf)
          (refine Q.r6 (h := ?_); repeat' (first | exact Q.r0 | refine Q.r1 ?_ ?_ | refine Q.r2 ?_ | exact Q.r7 | refine Q.r3 ?_ | refine Q.r4 ?_ | refine Q.r5 ?_))
          all_goals (first | rfl | exact tst_true.2 (by omega) | exact tst_false.2 (by omega) | (simp [tst_eq]; done) | (simp only [Bool.not_true, Bool.not_false, Bool.and_true, Bool.true_and, Bool.and_false, Bool.false_and]; first | done | exact tst_true.2 (by omega) | exact tst_false.2 (by omega) | (rw [tst_true.2 (by omega)]; done) | (rw [tst_false.2 (by omega)]; done)))
        · have h6 : m.phase = 4 := by omega
          refine ⟨?_⟩; refine Spec.ofR (h := fun F w0 => ?_)
          repeat' ((conv => whnf); first | refine Q.E ?_ | (refine Stk.both (fun hb => ?_) (fun hb => ?_) <;> (try simp only [lE] at hb))); all_goals (conv => whnf)
          (refine Q.r6 (h := ?_); repeat' (first | exact Q.r0 | refine Q.r1 ?_ ?_ | refine Q.r2 ?_ | exact Q.r7 | refine Q.r3 ?_ | refine Q.r4 ?_ | refine Q.r5 ?_))
          all_goals (first | rfl | exact tst_true.2 (by omega) | exact tst_false.2 (by omega) | (simp [tst_eq]; done) | (simp only [Bool.not_true, Bool.not_false, Bool.and_true, Bool.true_and, Bool.and_false, Bool.false_and]; first | done | exact tst_true.2 (by omega) | exact tst_false.2 (by omega) | (rw [tst_true.2 (by omega)]; done) | (rw [tst_false.2 (by omega)]; done)))
      · rw [decide_eq_false (fun h => h4 ⟨h.1, h.2.2.2⟩)]
        refine ⟨?_⟩; refine Spec.ofR (h := fun F w0 => ?_)
        repeat' ((conv => whnf); first | refine Q.E ?_ | (refine Stk.both (fun hb => ?_) (fun hb => ?_) <;> (try simp only [lE] at hb))); all_goals (conv => whnf)
        all_goals first | (exfalso; omega) | (refine Q.r6 (h := ?_); repeat' (first | exact Q.r0 | refine Q.r1 ?_ ?_ | refine Q.r2 ?_ | exact Q.r7 | refine Q.r3 ?_ | refine Q.r4 ?_ | refine Q.r5 ?_))
        all_goals (first | rfl | exact tst_true.2 (by omega) | exact tst_false.2 (by omega) | (simp [tst_eq]; done) | (simp only [Bool.not_true, Bool.not_false, Bool.and_true, Bool.true_and, Bool.and_false, Bool.false_and]; first | done | exact tst_true.2 (by omega) | exact tst_false.2 (by omega) | (rw [tst_true.2 (by omega)]; done) | (rw [tst_false.2 (by omega)]; done)))
    | false =>
      rw [decide_eq_false (fun h => by rw [ht.2 ⟨h.2.1, h.2.2.1⟩] at h2; cases h2)]
      refine ⟨?_⟩; refine Spec.ofR (h := fun F w0 => ?_)
      repeat' ((conv => whnf); first | refine Q.E ?_ | (refine Stk.both (fun hb => ?_) (fun hb => ?_) <;> (try simp only [lE] at hb))); all_goals (conv => whnf)
      all_goals (refine Q.r6 (h := ?_); repeat' (first | exact Q.r0 | refine Q.r1 ?_ ?_ | refine Q.r2 ?_ | exact Q.r7 | refine Q.r3 ?_ | refine Q.r4 ?_ | refine Q.r5 ?_))
  · rw [tellB_1 h]
    cases h2 : timeB m.t with
    | true =>
      have h3 := ht.1 h2
      by_cases h4 : 0 ≤ m.abal ∧ m.abal < m.bal ∧ 1 ≤ m.phase ∧ m.phase ≤ 4
      · rw [decide_eq_true ⟨h4.1, h4.2.1, h3.1, h3.2, h4.2.2⟩]
        refine ⟨?_⟩; refine Spec.ofR (h := fun F w0 => ?_)
        repeat' ((conv => whnf); first | refine Q.E ?_ | (refine Stk.both (fun hb => ?_) (fun hb => ?_) <;> (try simp only [lE] at hb))); all_goals (conv => whnf)
        (refine Q.r6 (h := ?_); repeat' (first | exact Q.r0 | refine Q.r1 ?_ ?_ | refine Q.r2 ?_ | exact Q.r7 | refine Q.r3 ?_ | refine Q.r4 ?_ | refine Q.r5 ?_))
        all_goals (first | rfl | exact tst_true.2 (by omega) | exact tst_false.2 (by omega) | (simp [tst_eq]; done) | (simp only [Bool.not_true, Bool.not_false, Bool.and_true, Bool.true_and, Bool.and_false, Bool.false_and]; first | done | exact tst_true.2 (by omega) | exact tst_false.2 (by omega) | (rw [tst_true.2 (by omega)]; done) | (rw [tst_false.2 (by omega)]; done)))
      · rw [decide_eq_false (fun h => h4 ⟨h.1, h.2.1, h.2.2.2.2⟩)]
        refine ⟨?_⟩; refine Spec.ofR (h := fun F w0 => ?_)
        repeat' ((conv => whnf); first | refine Q.E ?_ | (refine Stk.both (fun hb => ?_) (fun hb => ?_) <;> (try simp only [lE] at hb))); all_goals (conv => whnf)
        all_goals first | (exfalso; omega) | (refine Q.r6 (h := ?_); repeat' (first | exact Q.r0 | refine Q.r1 ?_ ?_ | refine Q.r2 ?_ | exact Q.r7 | refine Q.r3 ?_ | refine Q.r4 ?_ | refine Q.r5 ?_))
        all_goals (first | rfl | exact tst_true.2 (by omega) | exact tst_false.2 (by omega) | (simp [tst_eq]; done) | (simp only [Bool.not_true, Bool.not_false, Bool.and_true, Bool.true_and, Bool.and_false, Bool.false_and]; first | done | exact tst_true.2 (by omega) | exact tst_false.2 (by omega) | (rw [tst_true.2 (by omega)]; done) | (rw [tst_false.2 (by omega)]; done)))
    | false =>
      rw [decide_eq_false (fun h => by rw [ht.2 ⟨h.2.2.1, h.2.2.2.1⟩] at h2; cases h2)]
      refine ⟨?_⟩; refine Spec.ofR (h := fun F w0 => ?_)
      repeat' ((conv => whnf); first | refine Q.E ?_ | (refine Stk.both (fun hb => ?_) (fun hb => ?_) <;> (try simp only [lE] at hb))); all_goals (conv => whnf)
      all_goals (refine Q.r6 (h := ?_); repeat' (first | exact Q.r0 | refine Q.r1 ?_ ?_ | refine Q.r2 ?_ | exact Q.r7 | refine Q.r3 ?_ | refine Q.r4 ?_ | refine Q.r5 ?_))
instance attached_spec (l : List Att) (lo hi : Int) : HasSpec Tryz.prog 263 [PV.atts l, PV.int lo, PV.int hi] (.v (.bool (attB lo hi l && decide (l.length ≤ 200)))) := by
  refine ⟨Spec.bound 0 rfl fun hl => ?_⟩; rw [List.length_map] at hl; refine Spec.ofR (h := fun F w0 => ?_)
  repeat' ((conv => whnf); first | refine Q.E ?_ | (refine Stk.both (fun hb => ?_) (fun hb => ?_) <;> (try simp only [lE] at hb))); all_goals (conv => whnf)
  refine Stk.loop (ι := Nat) (fun i => [(0, PV.atts l), (2, PV.int hi), (7, PV.int (lastI Att.t lo (l.take i))), (11, PV.atts l), (12, PV.int (l.length : Nat)), (13, PV.int (i : Nat))]) (fun _ => []) (fun i => i ≤ l.length ∧ prefTo (attP lo hi) l i = true) (fun i => l.length - i) 0 ⟨Nat.zero_le _, rfl⟩ (Weak.gc ⟨rfl, rfl, rfl, rfl, rfl, rfl, trivial⟩ trivial rfl rfl rfl) (fun i hi' => ?_)
  obtain ⟨hi', hp⟩ := hi'
  have hb := (att_last hi' hp).1
  by_cases hlt : i < l.length
  · have hs := lastI_succ Att.t lo hlt
    cases hid : idB l[i].id with
    | false =>
      have ji := idchk_no hid
      rw [show attB lo hi l = false from pref_bad hlt (attP_f.2 fun h => by rw [hid] at h; exact absurd h.2.2.2 (by simp)), Bool.false_and]
      generalize lastI Att.t lo (l.take i) = la at *
      repeat' ((conv => whnf); first | refine Q.E ?_ | (refine Stk.both (fun hb => ?_) (fun hb => ?_) <;> (try simp only [lE] at hb))); all_goals (conv => whnf)
      all_goals (refine Q.r6 (h := ?_); repeat' (first | exact Q.r0 | refine Q.r1 ?_ ?_ | refine Q.r2 ?_ | exact Q.r7 | refine Q.r3 ?_ | refine Q.r4 ?_ | refine Q.r5 ?_))
    | true =>
      have ji := idchk_yes hid
      cases hq : attP lo hi (l.take i) l[i] with
      | true =>
        have h := attP_iff.1 hq
        have hp2 := prefTo_next hlt hp hq
        generalize lastI Att.t lo (l.take i) = la at h hb ⊢
        repeat' ((conv => whnf); first | refine Q.E ?_ | (refine Stk.both (fun hb => ?_) (fun hb => ?_) <;> (try simp only [lE] at hb))); all_goals (conv => whnf)
        refine ⟨i + 1, ⟨by omega, hp2⟩, by omega, ?_⟩
        rw [hs]
        exact Weak.gc ⟨rfl, rfl, rfl, rfl, rfl, rfl, trivial⟩ trivial rfl rfl rfl
      | false =>
        have h := attP_f.1 hq
        rw [show attB lo hi l = false from pref_bad hlt hq, Bool.false_and]
        generalize lastI Att.t lo (l.take i) = la at h hb ⊢
        repeat' ((conv => whnf); first | refine Q.E ?_ | (refine Stk.both (fun hb => ?_) (fun hb => ?_) <;> (try simp only [lE] at hb))); all_goals (conv => whnf)
        all_goals first | (exact absurd ⟨by omega, by omega, by omega, hid⟩ h) | (refine Q.r6 (h := ?_); repeat' (first | exact Q.r0 | refine Q.r1 ?_ ?_ | refine Q.r2 ?_ | exact Q.r7 | refine Q.r3 ?_ | refine Q.r4 ?_ | refine Q.r5 ?_))
  · rw [show attB lo hi l = true from pref_end (by omega) hi' hp, Bool.true_and]
    repeat' ((conv => whnf); first | refine Q.E ?_ | (refine Stk.both (fun hb => ?_) (fun hb => ?_) <;> (try simp only [lE] at hb))); all_goals (conv => whnf)
    (refine Q.r6 (h := ?_); repeat' (first | exact Q.r0 | refine Q.r1 ?_ ?_ | refine Q.r2 ?_ | exact Q.r7 | refine Q.r3 ?_ | refine Q.r4 ?_ | refine Q.r5 ?_))
    rw [tst_eq, decide_eq_decide]
    omega
theorem anym_spec (l : List Int) : HasSpec Tryz.prog 229 [PV.ints l, .fn (.func 262) [] []] (.v (.bool (l.any noneB))) := by
  refine ⟨Spec.bound 0 rfl fun hl => ?_⟩; rw [List.length_map] at hl; refine Spec.ofR (h := fun F w0 => ?_)
  repeat' ((conv => whnf); first | refine Q.a ?_ | refine Q.b ?_ | refine Q.c ?_ | refine Stk.is (by first | assumption | ((try simp only [lE]); first | done | assumption | omega)) ?_ | refine Stk.isnt (by first | assumption | ((try simp only [lE]); first | done | assumption | omega)) ?_ | (refine Stk.both (fun hb => ?_) (fun hb => ?_) <;> (try simp only [lE] at hb)) | refine Q.d ?_ | refine Q.e ?_ | refine Q.f ?_ | refine Q.g ?_ | refine Q.h ?_ | refine Q.i ?_ | refine Q.j ?_ | refine Q.k ?_ | refine Q.l ?_ | refine Q.m ?_ | refine Q.n ?_ | refine Q.o (h := ?_) | refine Q.p (h := ?_) | refine Q.q ?_ | refine Q.r ?_ | refine Q.s ?_ | refine Q.t ?_ | refine Q.u ?_ | refine Q.v ?_ | refine Q.w ?_ | refine Q.x ?_ | refine Q.y ?_ | refine Q.z ?_ | refine Stk.inl (h := fun tm => ?_) | refine Stk.inl0 (h := fun tm => ?_) | refine DefG.go (h := fun vs us => ?_) | intro (tm : Array Value) | refine Stk.op (ok_buildA rfl rfl rfl rfl) ?_ | refine Stk.scope ?_); all_goals (conv => whnf)
  refine Stk.loop (ι := Nat) (fun i => [(0, PV.ints l), (1, .fn (.func 262) [] []), (7, PV.int (l.length : Nat)), (8, PV.int (i : Nat))]) (fun i => []) (fun i => i ≤ l.length ∧ ∀ x ∈ l.take i, noneB x = false) (fun i => l.length - i) 0 ⟨Nat.zero_le _, by simp⟩ (Weak.gc ⟨rfl, rfl, rfl, rfl, trivial⟩ trivial rfl rfl rfl) (fun i hi => ?_)
  obtain ⟨hi, hno⟩ := hi
  by_cases hlt : i < l.length
  · have j1 := mprom1_spec l[i]
    cases hq : noneB l[i] with
    | true =>
      rw [hq] at j1
      rw [any_at (p := noneB) hlt hq]
      repeat' ((conv => whnf); first | refine Q.E ?_ | (refine Stk.both (fun hb => ?_) (fun hb => ?_) <;> (try simp only [lE] at hb))); all_goals (conv => whnf)
      (refine Q.r6 (h := ?_); repeat' (first | exact Q.r0 | refine Q.r1 ?_ ?_ | refine Q.r2 ?_ | exact Q.r7 | refine Q.r3 ?_ | refine Q.r4 ?_ | refine Q.r5 ?_))
      all_goals (first | rfl | exact tst_true.2 (by omega) | exact tst_false.2 (by omega) | (simp [tst_eq]; done) | (simp only [Bool.not_true, Bool.not_false, Bool.and_true, Bool.true_and, Bool.and_false, Bool.false_and]; first | done | exact tst_true.2 (by omega) | exact tst_false.2 (by omega) | (rw [tst_true.2 (by omega)]; done) | (rw [tst_false.2 (by omega)]; done)))
    | false =>
      rw [hq] at j1
      repeat' ((conv => whnf); first | refine Q.E ?_ | (refine Stk.both (fun hb => ?_) (fun hb => ?_) <;> (try simp only [lE] at hb))); all_goals (conv => whnf)
      exact ⟨i + 1, ⟨by omega, take_no (p := noneB) hlt hno hq⟩, by omega, Weak.gc ⟨rfl, rfl, rfl, rfl, trivial⟩ trivial rfl rfl rfl⟩
  · rw [any_none (p := noneB) hlt hno]
    repeat' ((conv => whnf); first | refine Q.E ?_ | (refine Stk.both (fun hb => ?_) (fun hb => ?_) <;> (try simp only [lE] at hb))); all_goals (conv => whnf)
    (refine Q.r6 (h := ?_); repeat' (first | exact Q.r0 | refine Q.r1 ?_ ?_ | refine Q.r2 ?_ | exact Q.r7 | refine Q.r3 ?_ | refine Q.r4 ?_ | refine Q.r5 ?_))
    all_goals (first | rfl | exact tst_true.2 (by omega) | exact tst_false.2 (by omega) | (simp [tst_eq]; done) | (simp only [Bool.not_true, Bool.not_false, Bool.and_true, Bool.true_and, Bool.and_false, Bool.false_and]; first | done | exact tst_true.2 (by omega) | exact tst_false.2 (by omega) | (rw [tst_true.2 (by omega)]; done) | (rw [tst_false.2 (by omega)]; done)))
theorem noneB_p {t : Int} : noneB t = false ↔ (0 ≤ t ∧ t ≤ 1000000) := by
  unfold noneB
  rw [decide_eq_false_iff_not]
  omega
instance promises_spec (m : Msg) : HasSpec Tryz.prog 233 [.agg m.cs] (.v (.bool (prmB m))) := by
  have j1 := anym_spec m.marks
  have j2 := attached_spec m.atts m.lo m.hi
  by_cases hf : 0 ≤ m.lo ∧ m.lo ≤ m.hi ∧ m.hi ≤ 1000000 ∧ 0 ≤ m.done ∧ m.done ≤ 1000000 ∧ m.marks.length ≤ 9
  · have n1 : noneB m.lo = false := noneB_p.2 (by omega)
    have n2 : noneB m.hi = false := noneB_p.2 (by omega)
    have n3 : noneB m.done = false := noneB_p.2 (by omega)
    have hfl : prmB m = ((attB m.lo m.hi m.atts && decide (m.atts.length ≤ 200)) && !m.marks.any noneB) := by
      unfold prmB
      by_cases h2 : m.atts.length ≤ 200
      · rw [decide_eq_true (show 0 ≤ m.lo ∧ m.lo ≤ m.hi ∧ m.hi ≤ 1000000 ∧ 0 ≤ m.done ∧ m.done ≤ 1000000 ∧ m.marks.length ≤ 9 ∧ m.atts.length ≤ 200 by omega), decide_eq_true h2, Bool.true_and, Bool.and_true, Bool.and_comm]
      · rw [decide_eq_false (show ¬ (0 ≤ m.lo ∧ m.lo ≤ m.hi ∧ m.hi ≤ 1000000 ∧ 0 ≤ m.done ∧ m.done ≤ 1000000 ∧ m.marks.length ≤ 9 ∧ m.atts.length ≤ 200) by omega), decide_eq_false h2]
        simp
    rw [hfl]
    cases ha : (attB m.lo m.hi m.atts && decide (m.atts.length ≤ 200)) with
    | false =>
      rw [ha] at j2
      refine ⟨?_⟩; refine Spec.ofR (h := fun F w0 => ?_)
      repeat' ((conv => whnf); first | refine Q.E ?_ | (refine Stk.both (fun hb => ?_) (fun hb => ?_) <;> (try simp only [lE] at hb))); all_goals (conv => whnf)
      (refine Q.r6 (h := ?_); repeat' (first | exact Q.r0 | refine Q.r1 ?_ ?_ | refine Q.r2 ?_ | exact Q.r7 | refine Q.r3 ?_ | refine Q.r4 ?_ | refine Q.r5 ?_))
      all_goals (first | rfl | exact tst_true.2 (by omega) | exact tst_false.2 (by omega) | (simp [tst_eq]; done) | (simp only [Bool.not_true, Bool.not_false, Bool.and_true, Bool.true_and, Bool.and_false, Bool.false_and]; first | done | exact tst_true.2 (by omega) | exact tst_false.2 (by omega) | (rw [tst_true.2 (by omega)]; done) | (rw [tst_false.2 (by omega)]; done)))
    | true =>
      rw [ha] at j2
      refine ⟨?_⟩; refine Spec.ofR (h := fun F w0 => ?_)
      repeat' ((conv => whnf); first | refine Q.E ?_ | (refine Stk.both (fun hb => ?_) (fun hb => ?_) <;> (try simp only [lE] at hb))); all_goals (conv => whnf)
      (refine Q.r6 (h := ?_); repeat' (first | exact Q.r0 | refine Q.r1 ?_ ?_ | refine Q.r2 ?_ | exact Q.r7 | refine Q.r3 ?_ | refine Q.r4 ?_ | refine Q.r5 ?_))
      all_goals rfl
  · rw [show prmB m = false by unfold prmB; rw [decide_eq_false (by omega)]; rfl]
    have n1 := noneB_p (t := m.lo)
    have n2 := noneB_p (t := m.hi)
    have n3 := noneB_p (t := m.done)
    cases h1 : noneB m.lo with
    | true =>
      refine ⟨?_⟩; refine Spec.ofR (h := fun F w0 => ?_)
      repeat' ((conv => whnf); first | refine Q.E ?_ | (refine Stk.both (fun hb => ?_) (fun hb => ?_) <;> (try simp only [lE] at hb))); all_goals (conv => whnf)
      (refine Q.r6 (h := ?_); repeat' (first | exact Q.r0 | refine Q.r1 ?_ ?_ | refine Q.r2 ?_ | exact Q.r7 | refine Q.r3 ?_ | refine Q.r4 ?_ | refine Q.r5 ?_))
    | false =>
      cases h2 : noneB m.hi with
      | true =>
        refine ⟨?_⟩; refine Spec.ofR (h := fun F w0 => ?_)
        repeat' ((conv => whnf); first | refine Q.E ?_ | (refine Stk.both (fun hb => ?_) (fun hb => ?_) <;> (try simp only [lE] at hb))); all_goals (conv => whnf)
        (refine Q.r6 (h := ?_); repeat' (first | exact Q.r0 | refine Q.r1 ?_ ?_ | refine Q.r2 ?_ | exact Q.r7 | refine Q.r3 ?_ | refine Q.r4 ?_ | refine Q.r5 ?_))
      | false =>
        have := n1.1 h1
        have := n2.1 h2
        cases h3 : noneB m.done with
        | true =>
          refine ⟨?_⟩; refine Spec.ofR (h := fun F w0 => ?_)
          repeat' ((conv => whnf); first | refine Q.E ?_ | (refine Stk.both (fun hb => ?_) (fun hb => ?_) <;> (try simp only [lE] at hb))); all_goals (conv => whnf)
          all_goals (refine Q.r6 (h := ?_); repeat' (first | exact Q.r0 | refine Q.r1 ?_ ?_ | refine Q.r2 ?_ | exact Q.r7 | refine Q.r3 ?_ | refine Q.r4 ?_ | refine Q.r5 ?_))
        | false =>
          have := n3.1 h3
          refine ⟨?_⟩; refine Spec.ofR (h := fun F w0 => ?_)
          repeat' ((conv => whnf); first | refine Q.E ?_ | (refine Stk.both (fun hb => ?_) (fun hb => ?_) <;> (try simp only [lE] at hb))); all_goals (conv => whnf)
          all_goals first | (exfalso; omega) | (refine Q.r6 (h := ?_); repeat' (first | exact Q.r0 | refine Q.r1 ?_ ?_ | refine Q.r2 ?_ | exact Q.r7 | refine Q.r3 ?_ | refine Q.r4 ?_ | refine Q.r5 ?_))
end Go.Proofs.YtbjepdfnmbdplaaGreat
end
section
namespace Go.Proofs.YtbjepdfnmbdplaaGreat
open Go.RowKit
set_option linter.unusedSimpArgs false
set_option linter.unusedVariables false
set_option maxRecDepth 100000
set_option maxHeartbeats 1000000
theorem take_eqG {α : Type} {a b : List α} {i : Nat} (h : a.take i = b.take i) (ha : i < a.length) (hb : i < b.length) (e : a[i] = b[i]) : a.take (i + 1) = b.take (i + 1) := by
  rw [take_snoc' a i ha, take_snoc' b i hb, h, e]
theorem Att.eq2 (a b : Att) : ([a.t, a.id] = [b.t, b.id]) = (a = b) := by
  cases a; cases b
  simp
instance equalatt_spec (a b : List Att) : HasSpec Tryz.prog 231 [PV.atts a, PV.atts b] (.v (.bool (decide (a = b)))) := by
  refine ⟨Spec.bound 0 rfl fun hl => ?_⟩; rw [List.length_map] at hl; refine Spec.ofR (h := fun F w0 => ?_)
  by_cases hl2 : a.length = b.length
  · repeat' ((conv => whnf); first | refine Q.E ?_ | (refine Stk.both (fun hb => ?_) (fun hb => ?_) <;> (try simp only [lE] at hb))); all_goals (conv => whnf)
    refine Stk.loop (ι := Nat) (fun i => [(0, PV.atts a), (1, PV.atts b), (12, PV.int (a.length : Nat)), (13, PV.int (i : Nat))]) (fun _ => []) (fun i => i ≤ a.length ∧ a.take i = b.take i) (fun i => a.length - i) 0 ⟨Nat.zero_le _, by simp⟩ (Weak.gc ⟨rfl, rfl, rfl, rfl, trivial⟩ trivial rfl rfl rfl) (fun i hi => ?_)
    obtain ⟨hi, he⟩ := hi
    by_cases hlt : i < a.length
    · have hlb : i < b.length := by omega
      by_cases hq : a[i] = b[i]
      · have hz : (!tst ([a[i].t, a[i].id] = [b[i].t, b[i].id])) = false := by rw [tst_true.2 (by rw [hq])]; rfl
        repeat' ((conv => whnf); first | refine Q.E ?_ | (refine Stk.both (fun hb => ?_) (fun hb => ?_) <;> (try simp only [lE] at hb))); all_goals (conv => whnf)
        exact ⟨i + 1, ⟨by omega, take_eqG he hlt hlb hq⟩, by omega, Weak.gc ⟨rfl, rfl, rfl, rfl, trivial⟩ trivial rfl rfl rfl⟩
      · have hz : (!tst ([a[i].t, a[i].id] = [b[i].t, b[i].id])) = true := by rw [tst_false.2 (by rw [Att.eq2]; exact hq)]; rfl
        rw [show decide (a = b) = false from decide_eq_false (fun e => hq (by subst e; rfl))]
        repeat' ((conv => whnf); first | refine Q.E ?_ | (refine Stk.both (fun hb => ?_) (fun hb => ?_) <;> (try simp only [lE] at hb))); all_goals (conv => whnf)
        (refine Q.r6 (h := ?_); repeat' (first | exact Q.r0 | refine Q.r1 ?_ ?_ | refine Q.r2 ?_ | exact Q.r7 | refine Q.r3 ?_ | refine Q.r4 ?_ | refine Q.r5 ?_))
    · rw [List.take_of_length_le (by omega), List.take_of_length_le (by omega)] at he
      rw [decide_eq_true he]
      repeat' ((conv => whnf); first | refine Q.E ?_ | (refine Stk.both (fun hb => ?_) (fun hb => ?_) <;> (try simp only [lE] at hb))); all_goals (conv => whnf)
      (refine Q.r6 (h := ?_); repeat' (first | exact Q.r0 | refine Q.r1 ?_ ?_ | refine Q.r2 ?_ | exact Q.r7 | refine Q.r3 ?_ | refine Q.r4 ?_ | refine Q.r5 ?_))
  · rw [show decide (a = b) = false from decide_eq_false (fun e => hl2 (by rw [e]))]
    repeat' ((conv => whnf); first | refine Q.E ?_ | (refine Stk.both (fun hb => ?_) (fun hb => ?_) <;> (try simp only [lE] at hb))); all_goals (conv => whnf)
    (refine Q.r6 (h := ?_); repeat' (first | exact Q.r0 | refine Q.r1 ?_ ?_ | refine Q.r2 ?_ | exact Q.r7 | refine Q.r3 ?_ | refine Q.r4 ?_ | refine Q.r5 ?_))
theorem msg_no {a b : Msg} (h : a ≠ b) : decide (a = b) = false := decide_eq_false h
theorem msg_eq {a b : Msg} : a = b ↔ a.kind = b.kind ∧ a.fr = b.fr ∧ a.id = b.id ∧ a.t = b.t ∧ a.bal = b.bal ∧ a.abal = b.abal ∧ a.phase = b.phase ∧ a.quorum = b.quorum ∧ a.payload = b.payload ∧ a.lo = b.lo ∧ a.hi = b.hi ∧ a.atts = b.atts ∧ a.marks = b.marks ∧ a.done = b.done := by
  cases a; cases b
  simp
instance msgsame_spec (a b : Msg) : HasSpec Tryz.prog 181 [.agg a.cs, .agg b.cs] (.v (.bool (decide (a = b)))) := by
  refine ⟨?_⟩; refine Spec.ofR (h := fun F w0 => ?_)
  repeat' ((conv => whnf); first | refine Q.E ?_ | (refine Stk.both (fun hb => ?_) (fun hb => ?_) <;> (try simp only [lE] at hb))); all_goals (conv => whnf)
  all_goals (refine Q.r6 (h := ?_); repeat' (first | exact Q.r0 | refine Q.r1 ?_ ?_ | refine Q.r2 ?_ | exact Q.r7 | refine Q.r3 ?_ | refine Q.r4 ?_ | refine Q.r5 ?_))
  all_goals first | (refine (msg_no ?_).symm; rintro rfl; contradiction) | skip
  all_goals first | (refine (msg_no ?_).symm; rintro rfl; simp_all; done) | skip
  all_goals (rw [decide_eq_decide, msg_eq]; simp_all)
def nameL : List ByteArray := [⟨#[]⟩, ⟨#[112, 114, 111, 112, 111, 115, 101]⟩, ⟨#[112, 114, 111, 112, 111, 115, 101, 100]⟩, ⟨#[97, 99, 99, 101, 112, 116]⟩, ⟨#[97, 99, 99, 101, 112, 116, 101, 100]⟩, ⟨#[99, 111, 109, 109, 105, 116]⟩, ⟨#[114, 101, 115, 99, 117, 101]⟩, ⟨#[114, 101, 115, 99, 117, 101, 100]⟩, ⟨#[114, 101, 102, 117, 115, 101]⟩, ⟨#[112, 97, 121, 108, 111, 97, 100]⟩, ⟨#[112, 114, 111, 109, 105, 115, 101, 115]⟩]
def nameS (k : Int) : ByteArray := if 0 ≤ k then nameL.getD k.toNat noByte else noByte
theorem name_empty {k : Int} (h : ¬ (1 ≤ k ∧ k ≤ 10)) : nameS k = ⟨#[]⟩ := by
  unfold nameS
  split
  · by_cases h0 : k = 0
    · subst h0; rfl
    · rw [List.getD_eq_getElem?_getD, List.getElem?_eq_none (by show 11 ≤ k.toNat; omega)]
      rfl
  · rfl
theorem name_some {k : Int} (h : 1 ≤ k ∧ k ≤ 10) : nameS k ≠ ⟨#[]⟩ := by
  have : k = 1 ∨ k = 2 ∨ k = 3 ∨ k = 4 ∨ k = 5 ∨ k = 6 ∨ k = 7 ∨ k = 8 ∨ k = 9 ∨ k = 10 := by omega
  rcases this with h | h | h | h | h | h | h | h | h | h <;> subst h <;> decide
theorem name_ld {k : Int} (h : 0 ≤ k ∧ k < 11) : (nameL.map fun s => PV.v (.string s))[0 + k.toNat * 1]? = some (.v (.string (nameS k))) := by
  have hk : k.toNat < nameL.length := by show k.toNat < 11; omega
  rw [Nat.zero_add, Nat.mul_one, List.getElem?_map, List.getElem?_eq_getElem hk]
  unfold nameS
  rw [if_pos h.1, List.getD_eq_getElem?_getD, List.getElem?_eq_getElem hk]
  rfl
instance name_spec (k : Int) : HasSpec Tryz.prog 179 [PV.int k] (.v (.string (nameS k))) := by
  by_cases h : 0 ≤ k ∧ k < 11
  · refine ⟨?_⟩; refine Spec.ofR (h := fun F w0 => ?_)
    repeat' ((conv => whnf); first | refine Q.a ?_ | refine Q.b ?_ | refine Q.c ?_ | refine Stk.is (by first | assumption | ((try simp only [lE]); first | done | assumption | omega)) ?_ | refine Stk.isnt (by first | assumption | ((try simp only [lE]); first | done | assumption | omega)) ?_ | (refine Stk.both (fun hb => ?_) (fun hb => ?_) <;> (try simp only [lE] at hb)) | refine Q.d ?_ | refine Q.e ?_ | refine Q.f ?_ | refine Q.g ?_ | refine Q.h ?_ | refine Q.i ?_ | refine Q.j ?_ | refine Q.k ?_ | refine Q.l ?_ | refine Q.m ?_ | refine Q.n ?_ | refine Q.o (h := ?_) | refine Q.p (h := ?_) | refine Q.q ?_ | refine Q.r ?_ | refine Q.s ?_ | refine Q.t ?_ | refine Q.u ?_ | refine Q.v ?_ | refine Q.w ?_ | refine Q.x ?_ | refine Q.y ?_ | refine Q.z ?_ | refine Stk.inl (h := fun tm => ?_) | refine Stk.inl0 (h := fun tm => ?_) | refine DefG.go (h := fun vs us => ?_) | intro (tm : Array Value) | refine Stk.op (ok_buildA rfl rfl rfl rfl) ?_ | refine Stk.scope ?_); all_goals (conv => whnf)
    refine Stk.ld (p := .v (.string (nameS k))) (by exact name_ld h) ?_
    repeat' ((conv => whnf); first | refine Q.E ?_ | (refine Stk.both (fun hb => ?_) (fun hb => ?_) <;> (try simp only [lE] at hb))); all_goals (conv => whnf)
    (refine Q.r6 (h := ?_); repeat' (first | exact Q.r0 | refine Q.r1 ?_ ?_ | refine Q.r2 ?_ | exact Q.r7 | refine Q.r3 ?_ | refine Q.r4 ?_ | refine Q.r5 ?_))
  · rw [name_empty (by omega)]
    refine ⟨?_⟩; refine Spec.ofR (h := fun F w0 => ?_)
    repeat' ((conv => whnf); first | refine Q.a ?_ | refine Q.b ?_ | refine Q.c ?_ | refine Stk.is (by first | assumption | ((try simp only [lE]); first | done | assumption | omega)) ?_ | refine Stk.isnt (by first | assumption | ((try simp only [lE]); first | done | assumption | omega)) ?_ | (refine Stk.both (fun hb => ?_) (fun hb => ?_) <;> (try simp only [lE] at hb)) | refine Q.d ?_ | refine Q.e ?_ | refine Q.f ?_ | refine Q.g ?_ | refine Q.h ?_ | refine Q.i ?_ | refine Q.j ?_ | refine Q.k ?_ | refine Q.l ?_ | refine Q.m ?_ | refine Q.n ?_ | refine Q.o (h := ?_) | refine Q.p (h := ?_) | refine Q.q ?_ | refine Q.r ?_ | refine Q.s ?_ | refine Q.t ?_ | refine Q.u ?_ | refine Q.v ?_ | refine Q.w ?_ | refine Q.x ?_ | refine Q.y ?_ | refine Q.z ?_ | refine Stk.inl (h := fun tm => ?_) | refine Stk.inl0 (h := fun tm => ?_) | refine DefG.go (h := fun vs us => ?_) | intro (tm : Array Value) | refine Stk.op (ok_buildA rfl rfl rfl rfl) ?_ | refine Stk.scope ?_); all_goals (conv => whnf)
    all_goals first | (exfalso; omega) | (refine Q.r6 (h := ?_); repeat' (first | exact Q.r0 | refine Q.r1 ?_ ?_ | refine Q.r2 ?_ | exact Q.r7 | refine Q.r3 ?_ | refine Q.r4 ?_ | refine Q.r5 ?_))
instance : ConcT Tryz.prog 52 := ⟨by kernel_rfl⟩
instance : ConcT Tryz.prog 245 := ⟨by kernel_rfl⟩
instance : IfcT Tryz.prog 123 := ⟨by kernel_rfl⟩
section
variable {P : Program} {X : XF} {w0 : World} {T : TT} {K : Exit → St → Prop} [tb : TabT P T]
theorem Stk.opW {nt d : Nat} {env env' : List (Nat × PV)} {lh lh' : List (Nat × LB)} {fs : List Fr} {op : Op} {ty : TypeId} {pos : String} {after : Array Edge} {ops : Array Oper} {l : List Oper} {p : PV} (h : OpOK P ⟨some d, op, ty, pos, after, none⟩ ⟨nt, env, lh⟩ p []) (hw : Weak X w0 ⟨nt, (d, p) :: env, lh⟩ ⟨nt, env', lh'⟩) (k : GoR P X w0 T (.next ⟨.ops ops l, nt, env', lh', fs⟩) K) :
    Stk P X w0 T (.stop ⟨.ops ops (⟨some d, op, ty, pos, after, none⟩ :: l), nt, env, lh, fs⟩) K := ⟨RW.st h (RW.weak hw (k.sem tb.ok tb.mixed))⟩
end
theorem failnew_spec (s : ByteArray) (e : Int) (h : e ≠ 0) : HasSpec Tryz.prog 180 [.v (.string s), PV.int e] (.ifc 245 .any) := by
  refine ⟨?_⟩; refine Spec.ofR (h := fun F w0 => ?_)
  repeat' ((conv => whnf); first | refine Q.E ?_ | (refine Stk.both (fun hb => ?_) (fun hb => ?_) <;> (try simp only [lE] at hb))); all_goals (conv => whnf)
  refine Stk.op (ok_mkIfc rfl rfl) ?_
  repeat' ((conv => whnf); first | refine Q.E ?_ | (refine Stk.both (fun hb => ?_) (fun hb => ?_) <;> (try simp only [lE] at hb))); all_goals (conv => whnf)
  refine Stk.opW (ok_mkIfc rfl rfl) Weak.hide ?_
  repeat' ((conv => whnf); first | refine Q.E ?_ | (refine Stk.both (fun hb => ?_) (fun hb => ?_) <;> (try simp only [lE] at hb))); all_goals (conv => whnf)
  (refine Q.r6 (h := ?_); repeat' (first | exact Q.r0 | refine Q.r1 ?_ ?_ | refine Q.r2 ?_ | exact Q.r7 | refine Q.r3 ?_ | refine Q.r4 ?_ | refine Q.r5 ?_))
theorem bare_spec (m : Msg) (h : 1 ≤ m.kind ∧ m.kind ≤ 10) : HasSpec Tryz.prog 182 [.agg m.cs] (.agg (bareM m).cs) := by
  obtain ⟨kind, fr, id, t, bal, abal, phase, quorum, payload, lo, hi, atts, marks, done⟩ := m
  simp only at h
  have : kind = 1 ∨ kind = 2 ∨ kind = 3 ∨ kind = 4 ∨ kind = 5 ∨ kind = 6 ∨ kind = 7 ∨ kind = 8 ∨ kind = 9 ∨ kind = 10 := by omega
  rcases this with h | h | h | h | h | h | h | h | h | h
  all_goals subst h
  all_goals refine ⟨?_⟩; refine Spec.ofR (h := fun F w0 => ?_)
  all_goals repeat' ((conv => whnf); first | refine Q.E ?_ | (refine Stk.both (fun hb => ?_) (fun hb => ?_) <;> (try simp only [lE] at hb))); all_goals (conv => whnf)
  all_goals (refine Q.r6 (h := ?_); repeat' (first | exact Q.r0 | refine Q.r1 ?_ ?_ | refine Q.r2 ?_ | exact Q.r7 | refine Q.r3 ?_ | refine Q.r4 ?_ | refine Q.r5 ?_))
end Go.Proofs.YtbjepdfnmbdplaaGreat
end
section
namespace Go.Proofs.YtbjepdfnmbdplaaGreat
open Go.RowKit
set_option linter.unusedSimpArgs false
set_option linter.unusedVariables false
set_option maxRecDepth 100000
set_option maxHeartbeats 1000000
instance may_spec (m : Msg) : HasSpec Tryz.prog 183 [.agg m.cs] (.v (.bool (mayM m))) := by
  by_cases h10 : m.kind = 10
  · rw [show mayM m = prmB m from if_pos h10]
    refine ⟨?_⟩; refine Spec.ofR (h := fun F w0 => ?_)
    repeat' ((conv => whnf); first | refine Q.E ?_ | (refine Stk.both (fun hb => ?_) (fun hb => ?_) <;> (try simp only [lE] at hb))); all_goals (conv => whnf)
    (refine Q.r6 (h := ?_); repeat' (first | exact Q.r0 | refine Q.r1 ?_ ?_ | refine Q.r2 ?_ | exact Q.r7 | refine Q.r3 ?_ | refine Q.r4 ?_ | refine Q.r5 ?_))
  · unfold mayM
    rw [if_neg h10]
    cases hid : idB m.id with
    | false =>
      have ji := idchk_no hid
      rw [Bool.false_and]
      refine ⟨?_⟩; refine Spec.ofR (h := fun F w0 => ?_)
      repeat' ((conv => whnf); first | refine Q.E ?_ | (refine Stk.both (fun hb => ?_) (fun hb => ?_) <;> (try simp only [lE] at hb))); all_goals (conv => whnf)
      (refine Q.r6 (h := ?_); repeat' (first | exact Q.r0 | refine Q.r1 ?_ ?_ | refine Q.r2 ?_ | exact Q.r7 | refine Q.r3 ?_ | refine Q.r4 ?_ | refine Q.r5 ?_))
    | true =>
      have ji := idchk_yes hid
      rw [Bool.true_and]
      by_cases h15 : m.kind = 1 ∨ m.kind = 5
      · rw [if_pos h15]
        cases ht : timeB m.t with
        | false =>
          by_cases h1 : m.kind = 1
          · refine ⟨?_⟩; refine Spec.ofR (h := fun F w0 => ?_)
            repeat' ((conv => whnf); first | refine Q.E ?_ | (refine Stk.both (fun hb => ?_) (fun hb => ?_) <;> (try simp only [lE] at hb))); all_goals (conv => whnf)
            (refine Q.r6 (h := ?_); repeat' (first | exact Q.r0 | refine Q.r1 ?_ ?_ | refine Q.r2 ?_ | exact Q.r7 | refine Q.r3 ?_ | refine Q.r4 ?_ | refine Q.r5 ?_))
          · have h5 : m.kind = 5 := by omega
            refine ⟨?_⟩; refine Spec.ofR (h := fun F w0 => ?_)
            repeat' ((conv => whnf); first | refine Q.E ?_ | (refine Stk.both (fun hb => ?_) (fun hb => ?_) <;> (try simp only [lE] at hb))); all_goals (conv => whnf)
            (refine Q.r6 (h := ?_); repeat' (first | exact Q.r0 | refine Q.r1 ?_ ?_ | refine Q.r2 ?_ | exact Q.r7 | refine Q.r3 ?_ | refine Q.r4 ?_ | refine Q.r5 ?_))
        | true =>
          by_cases h1 : m.kind = 1
          · refine ⟨?_⟩; refine Spec.ofR (h := fun F w0 => ?_)
            repeat' ((conv => whnf); first | refine Q.E ?_ | (refine Stk.both (fun hb => ?_) (fun hb => ?_) <;> (try simp only [lE] at hb))); all_goals (conv => whnf)
            (refine Q.r6 (h := ?_); repeat' (first | exact Q.r0 | refine Q.r1 ?_ ?_ | refine Q.r2 ?_ | exact Q.r7 | refine Q.r3 ?_ | refine Q.r4 ?_ | refine Q.r5 ?_))
          · have h5 : m.kind = 5 := by omega
            refine ⟨?_⟩; refine Spec.ofR (h := fun F w0 => ?_)
            repeat' ((conv => whnf); first | refine Q.E ?_ | (refine Stk.both (fun hb => ?_) (fun hb => ?_) <;> (try simp only [lE] at hb))); all_goals (conv => whnf)
            (refine Q.r6 (h := ?_); repeat' (first | exact Q.r0 | refine Q.r1 ?_ ?_ | refine Q.r2 ?_ | exact Q.r7 | refine Q.r3 ?_ | refine Q.r4 ?_ | refine Q.r5 ?_))
      · rw [if_neg h15]
        by_cases h3 : m.kind = 3
        · rw [if_pos h3]
          cases ht : timeB m.t with
          | false =>
            refine ⟨?_⟩; refine Spec.ofR (h := fun F w0 => ?_)
            repeat' ((conv => whnf); first | refine Q.E ?_ | (refine Stk.both (fun hb => ?_) (fun hb => ?_) <;> (try simp only [lE] at hb))); all_goals (conv => whnf)
            (refine Q.r6 (h := ?_); repeat' (first | exact Q.r0 | refine Q.r1 ?_ ?_ | refine Q.r2 ?_ | exact Q.r7 | refine Q.r3 ?_ | refine Q.r4 ?_ | refine Q.r5 ?_))
          | true =>
            cases hb : timeB m.bal with
            | false =>
              refine ⟨?_⟩; refine Spec.ofR (h := fun F w0 => ?_)
              repeat' ((conv => whnf); first | refine Q.E ?_ | (refine Stk.both (fun hb => ?_) (fun hb => ?_) <;> (try simp only [lE] at hb))); all_goals (conv => whnf)
              (refine Q.r6 (h := ?_); repeat' (first | exact Q.r0 | refine Q.r1 ?_ ?_ | refine Q.r2 ?_ | exact Q.r7 | refine Q.r3 ?_ | refine Q.r4 ?_ | refine Q.r5 ?_))
            | true =>
              refine ⟨?_⟩; refine Spec.ofR (h := fun F w0 => ?_)
              repeat' ((conv => whnf); first | refine Q.E ?_ | (refine Stk.both (fun hb => ?_) (fun hb => ?_) <;> (try simp only [lE] at hb))); all_goals (conv => whnf)
              (refine Q.r6 (h := ?_); repeat' (first | exact Q.r0 | refine Q.r1 ?_ ?_ | refine Q.r2 ?_ | exact Q.r7 | refine Q.r3 ?_ | refine Q.r4 ?_ | refine Q.r5 ?_))
        · rw [if_neg h3]
          by_cases h6 : m.kind = 6
          · rw [if_pos h6]
            cases hb : timeB m.bal with
            | false =>
              refine ⟨?_⟩; refine Spec.ofR (h := fun F w0 => ?_)
              repeat' ((conv => whnf); first | refine Q.E ?_ | (refine Stk.both (fun hb => ?_) (fun hb => ?_) <;> (try simp only [lE] at hb))); all_goals (conv => whnf)
              (refine Q.r6 (h := ?_); repeat' (first | exact Q.r0 | refine Q.r1 ?_ ?_ | refine Q.r2 ?_ | exact Q.r7 | refine Q.r3 ?_ | refine Q.r4 ?_ | refine Q.r5 ?_))
            | true =>
              refine ⟨?_⟩; refine Spec.ofR (h := fun F w0 => ?_)
              repeat' ((conv => whnf); first | refine Q.E ?_ | (refine Stk.both (fun hb => ?_) (fun hb => ?_) <;> (try simp only [lE] at hb))); all_goals (conv => whnf)
              (refine Q.r6 (h := ?_); repeat' (first | exact Q.r0 | refine Q.r1 ?_ ?_ | refine Q.r2 ?_ | exact Q.r7 | refine Q.r3 ?_ | refine Q.r4 ?_ | refine Q.r5 ?_))
          · rw [if_neg h6]
            by_cases h9 : m.kind = 9
            · rw [if_pos h9]
              refine ⟨?_⟩; refine Spec.ofR (h := fun F w0 => ?_)
              repeat' ((conv => whnf); first | refine Q.E ?_ | (refine Stk.both (fun hb => ?_) (fun hb => ?_) <;> (try simp only [lE] at hb))); all_goals (conv => whnf)
              (refine Q.r6 (h := ?_); repeat' (first | exact Q.r0 | refine Q.r1 ?_ ?_ | refine Q.r2 ?_ | exact Q.r7 | refine Q.r3 ?_ | refine Q.r4 ?_ | refine Q.r5 ?_))
            · rw [if_neg h9]
              by_cases h2 : m.kind = 2
              · rw [if_pos h2]
                refine ⟨?_⟩; refine Spec.ofR (h := fun F w0 => ?_)
                repeat' ((conv => whnf); first | refine Q.E ?_ | (refine Stk.both (fun hb => ?_) (fun hb => ?_) <;> (try simp only [lE] at hb))); all_goals (conv => whnf)
                (refine Q.r6 (h := ?_); repeat' (first | exact Q.r0 | refine Q.r1 ?_ ?_ | refine Q.r2 ?_ | exact Q.r7 | refine Q.r3 ?_ | refine Q.r4 ?_ | refine Q.r5 ?_))
              · rw [if_neg h2]
                by_cases h7 : m.kind = 7
                · rw [if_pos h7]
                  cases hb : timeB m.bal with
                  | false =>
                    refine ⟨?_⟩; refine Spec.ofR (h := fun F w0 => ?_)
                    repeat' ((conv => whnf); first | refine Q.E ?_ | (refine Stk.both (fun hb => ?_) (fun hb => ?_) <;> (try simp only [lE] at hb))); all_goals (conv => whnf)
                    (refine Q.r6 (h := ?_); repeat' (first | exact Q.r0 | refine Q.r1 ?_ ?_ | refine Q.r2 ?_ | exact Q.r7 | refine Q.r3 ?_ | refine Q.r4 ?_ | refine Q.r5 ?_))
                  | true =>
                    refine ⟨?_⟩; refine Spec.ofR (h := fun F w0 => ?_)
                    repeat' ((conv => whnf); first | refine Q.E ?_ | (refine Stk.both (fun hb => ?_) (fun hb => ?_) <;> (try simp only [lE] at hb))); all_goals (conv => whnf)
                    (refine Q.r6 (h := ?_); repeat' (first | exact Q.r0 | refine Q.r1 ?_ ?_ | refine Q.r2 ?_ | exact Q.r7 | refine Q.r3 ?_ | refine Q.r4 ?_ | refine Q.r5 ?_))
                · rw [if_neg h7]
                  refine ⟨?_⟩; refine Spec.ofR (h := fun F w0 => ?_)
                  repeat' ((conv => whnf); first | refine Q.E ?_ | (refine Stk.both (fun hb => ?_) (fun hb => ?_) <;> (try simp only [lE] at hb))); all_goals (conv => whnf)
                  (refine Q.r6 (h := ?_); repeat' (first | exact Q.r0 | refine Q.r1 ?_ ?_ | refine Q.r2 ?_ | exact Q.r7 | refine Q.r3 ?_ | refine Q.r4 ?_ | refine Q.r5 ?_))
theorem noByte_eq {p : ByteArray} : noByte = p ↔ p = noByte := ⟨fun h => h.symm, fun h => h.symm⟩
theorem noByte_size {p : ByteArray} (h : p = noByte) : p.size ≤ 300 := by subst h; decide
theorem msgB_eq {m : Msg} (h : 1 ≤ m.kind ∧ m.kind ≤ 10) : msgB m = (decide (1 ≤ m.fr ∧ m.fr ≤ 9) && decide (bareM m = m) && mayM m) := by
  obtain ⟨kind, fr, id, t, bal, abal, phase, quorum, payload, lo, hi, atts, marks, done⟩ := m
  simp only at h
  have hs := noByte_size (p := payload)
  have : kind = 1 ∨ kind = 2 ∨ kind = 3 ∨ kind = 4 ∨ kind = 5 ∨ kind = 6 ∨ kind = 7 ∨ kind = 8 ∨ kind = 9 ∨ kind = 10 := by omega
  rcases this with h | h | h | h | h | h | h | h | h | h
  all_goals subst h
  all_goals rw [Bool.eq_iff_iff]
  all_goals simp [msgB, bareM, mayM, kI, kT, kL, kC, kA, kP, inN, carB, tellB, timeB, msg_eq, noByte_eq]
  all_goals generalize payload.size = z at hs ⊢
  all_goals generalize idB id = A
  all_goals try generalize prmB _ = E
  all_goals generalize (payload = noByte) = B at hs ⊢
  all_goals generalize (atts = []) = C
  all_goals generalize (marks = []) = D
  all_goals try generalize (E = true) = E'
  all_goals clear h
  all_goals (cases A <;> (by_cases hB : B) <;> (by_cases hC : C) <;> (by_cases hD : D) <;> simp only [hB, hC, hD, Bool.false_eq_true, true_and, and_true, false_and, and_false, true_implies, false_implies, iff_self] at hs ⊢)
  all_goals (try split)
  all_goals (try omega)
  all_goals (by_cases hE : E')
  all_goals simp only [hE, true_and, and_true, false_and, and_false, true_implies, false_implies, iff_self, implies_true]
  all_goals omega
abbrev PV.fault : PV := .ifc 245 .any
instance fn30 : HasSpec Tryz.prog 180 [.v (.string ⟨#[109, 115, 103]⟩), PV.int 30] PV.fault := failnew_spec _ _ (by decide)
instance fn2 : HasSpec Tryz.prog 180 [.v (.string ⟨#[109, 115, 103]⟩), PV.int 2] PV.fault := failnew_spec _ _ (by decide)
theorem msg_bad {m : Msg} (h : ¬ (1 ≤ m.kind ∧ m.kind ≤ 10)) : msgB m = false := by unfold msgB; rw [decide_eq_false h]; rfl
theorem mck_no {m : Msg} (h : msgB m = false) : HasSpec Tryz.prog 90 [.agg m.cs] PV.fault := by
  by_cases hk : 1 ≤ m.kind ∧ m.kind ≤ 10
  · have hn : tst (nameS m.kind = ⟨#[]⟩) = false := tst_false.2 (name_some hk)
    have jb := bare_spec m hk
    have js := msgsame_spec (bareM m) m
    rw [msgB_eq hk] at h
    by_cases hf : 1 ≤ m.fr ∧ m.fr ≤ 9
    · rw [decide_eq_true hf, Bool.true_and] at h
      generalize bareM m = b at *
      cases hs : decide (b = m) with
      | false =>
        rw [hs] at js
        refine ⟨?_⟩; refine Spec.ofR (h := fun F w0 => ?_)
        repeat' ((conv => whnf); first | refine Q.E ?_ | (refine Stk.both (fun hb => ?_) (fun hb => ?_) <;> (try simp only [lE] at hb))); all_goals (conv => whnf)
        (refine Q.r6 (h := ?_); repeat' (first | exact Q.r0 | refine Q.r1 ?_ ?_ | refine Q.r2 ?_ | exact Q.r7 | refine Q.r3 ?_ | refine Q.r4 ?_ | refine Q.r5 ?_))
      | true =>
        rw [hs] at js
        rw [hs, Bool.true_and] at h
        refine ⟨?_⟩; refine Spec.ofR (h := fun F w0 => ?_)
        repeat' ((conv => whnf); first | refine Q.E ?_ | (refine Stk.both (fun hb => ?_) (fun hb => ?_) <;> (try simp only [lE] at hb))); all_goals (conv => whnf)
        (refine Q.r6 (h := ?_); repeat' (first | exact Q.r0 | refine Q.r1 ?_ ?_ | refine Q.r2 ?_ | exact Q.r7 | refine Q.r3 ?_ | refine Q.r4 ?_ | refine Q.r5 ?_))
    · refine ⟨?_⟩; refine Spec.ofR (h := fun F w0 => ?_)
      repeat' ((conv => whnf); first | refine Q.E ?_ | (refine Stk.both (fun hb => ?_) (fun hb => ?_) <;> (try simp only [lE] at hb))); all_goals (conv => whnf)
      all_goals first | (exfalso; omega) | (refine Q.r6 (h := ?_); repeat' (first | exact Q.r0 | refine Q.r1 ?_ ?_ | refine Q.r2 ?_ | exact Q.r7 | refine Q.r3 ?_ | refine Q.r4 ?_ | refine Q.r5 ?_))
  · have hn : tst (nameS m.kind = ⟨#[]⟩) = true := tst_true.2 (name_empty hk)
    refine ⟨?_⟩; refine Spec.ofR (h := fun F w0 => ?_)
    repeat' ((conv => whnf); first | refine Q.E ?_ | (refine Stk.both (fun hb => ?_) (fun hb => ?_) <;> (try simp only [lE] at hb))); all_goals (conv => whnf)
    (refine Q.r6 (h := ?_); repeat' (first | exact Q.r0 | refine Q.r1 ?_ ?_ | refine Q.r2 ?_ | exact Q.r7 | refine Q.r3 ?_ | refine Q.r4 ?_ | refine Q.r5 ?_))
theorem mck_yes {m : Msg} (h : msgB m = true) : HasSpec Tryz.prog 90 [.agg m.cs] (.v .nilIface) := by
  by_cases hk : 1 ≤ m.kind ∧ m.kind ≤ 10
  · have hn : tst (nameS m.kind = ⟨#[]⟩) = false := tst_false.2 (name_some hk)
    have jb := bare_spec m hk
    have js := msgsame_spec (bareM m) m
    rw [msgB_eq hk, Bool.and_eq_true, Bool.and_eq_true, decide_eq_true_iff] at h
    obtain ⟨⟨hf, hs⟩, hm⟩ := h
    rw [hs] at js
    generalize bareM m = b at *
    refine ⟨?_⟩; refine Spec.ofR (h := fun F w0 => ?_)
    repeat' ((conv => whnf); first | refine Q.E ?_ | (refine Stk.both (fun hb => ?_) (fun hb => ?_) <;> (try simp only [lE] at hb))); all_goals (conv => whnf)
    (refine Q.r6 (h := ?_); repeat' (first | exact Q.r0 | refine Q.r1 ?_ ?_ | refine Q.r2 ?_ | exact Q.r7 | refine Q.r3 ?_ | refine Q.r4 ?_ | refine Q.r5 ?_))
  · rw [msg_bad hk] at h
    cases h
end Go.Proofs.YtbjepdfnmbdplaaGreat
end
section
namespace Go.Proofs.YtbjepdfnmbdplaaGreat
open Go.RowKit
set_option linter.unusedSimpArgs false
set_option linter.unusedVariables false
set_option maxRecDepth 100000
set_option maxHeartbeats 1000000
def bytes (l : List UInt8) : ByteArray := ⟨l.toArray⟩
end Go.Proofs.YtbjepdfnmbdplaaGreat
end
section
namespace Go.Proofs.YtbjepdfnmbdplaaGreat
open Go.RowKit
set_option linter.unusedSimpArgs false
set_option linter.unusedVariables false
set_option maxRecDepth 100000
set_option maxHeartbeats 8000000
def c2 (m : Msg) : Bool := if kI m.kind then idB m.id else decide (m.id = 0)
def c3 (m : Msg) : Bool := inN (kT m.kind) m.t 1 1000000
def c4 (m : Msg) : Bool := inN (kL m.kind) m.bal 1 1000000
def c5 (m : Msg) : Bool := inN (kC m.kind) m.quorum 1 511
def c7 (m : Msg) : Bool := kC m.kind || decide (m.payload = noByte)
def c8 (m : Msg) : Bool := if kA m.kind then decide (0 ≤ m.abal ∧ m.abal < m.bal ∧ 1 ≤ m.phase ∧ m.phase ≤ 4 ∧ (0 < m.abal ∨ 3 ≤ m.phase)) else decide (m.abal = 0 ∧ m.phase = 0)
def c9 (m : Msg) : Bool := if kP m.kind then prmB m else decide (m.lo = 0 ∧ m.hi = 0 ∧ m.done = 0 ∧ m.atts = [] ∧ m.marks = [])
theorem msgB_c (m : Msg) : msgB m = (decide (1 ≤ m.kind ∧ m.kind ≤ 10) && (decide (1 ≤ m.fr ∧ m.fr ≤ 9) && c2 m && c3 m && c4 m && c5 m && decide (m.payload.size ≤ 300) && c7 m && c8 m && c9 m)) := rfl
end Go.Proofs.YtbjepdfnmbdplaaGreat
end
section
namespace Go.Proofs.YtbjepdfnmbdplaaGreat
open Go.RowKit
set_option linter.unusedSimpArgs false
set_option linter.unusedVariables false
set_option maxRecDepth 100000
set_option maxHeartbeats 1000000
section
variable {P : Program} {X : XF} {w0 : World} {T : TT} {K : Exit → St → Prop} [tb : TabT P T]
theorem Stk.opDG {nt d : Nat} {env : List (Nat × PV)} {lh : List (Nat × LB)} {fs : List Fr} {op : Op} {ty : TypeId} {pos : String} {after : Array Edge} {a : Array Oper} {l : List Oper} {tl : List (List Nat × List Nat)} {p : PV} {j t : Nat} {want b : Bool} {oj : Oper} (g1 : a[j]? = some oj) (g2 : oj.dst = some t) (g3 : look t env = some (.v (.bool b))) (hbw : b = want) (h : OpOK P ⟨some d, op, ty, pos, after, none⟩ ⟨nt, env, lh⟩ p []) {ids : List Nat} (hi : (⟨nt, env, lh⟩ : St).ids ⟨some d, op, ty, pos, after, some (j, want)⟩ = ids) (k : GoR P X w0 T (.next ⟨.dops a l (([], ids) :: tl), nt, (d, p) :: env, lh, fs⟩) K) :
    Stk P X w0 T (.stop ⟨.dops a (⟨some d, op, ty, pos, after, some (j, want)⟩ :: l) tl, nt, env, lh, fs⟩) K := by
  subst hi
  exact ⟨UW.cons (o := ⟨some d, op, ty, pos, after, some (j, want)⟩) (σ := ⟨nt, env, lh⟩) (σ' := ⟨nt, (d, p) :: env, lh⟩) (x := ([], _)) (fun hr => .ok (p := p) (nb := []) (.inl ⟨oj, t, b, g1, g2, g3, by rw [hbw]; simp⟩) (.new h.unguard (.inl rfl) (newB_nil _)) hr) (k.sem tb.ok tb.mixed)⟩
end
theorem shr0 {q n : Int} (hq : 0 ≤ q ∧ q ≤ 511) (hn : 3 ≤ n ∧ n ≤ 9) : tst (q.fdiv (2 ^ min n.toNat IntKind.i64.bits) = 0) = decide (q < 2 ^ n.toNat) := by
  rw [tst_eq, decide_eq_decide, show min n.toNat IntKind.i64.bits = n.toNat from Nat.min_eq_left (by show n.toNat ≤ 64; omega), Int.fdiv_eq_ediv_of_nonneg _ (Int.le_of_lt (Int.pow_pos (by decide)))]
  have hp : (0 : Int) < 2 ^ n.toNat := Int.pow_pos (by decide)
  constructor
  · intro h
    have := Int.lt_ediv_add_one_mul_self q hp
    rw [h] at this
    omega
  · intro h
    exact Int.ediv_eq_zero_of_lt hq.1 h
theorem msg_quorum {m : Msg} (h : msgB m = true) : 0 ≤ m.quorum ∧ m.quorum ≤ 511 := by
  rw [msgB_c] at h
  simp only [Bool.and_eq_true] at h
  have h5 : c5 m = true := h.2.1.1.1.1.2
  unfold c5 inN at h5
  split at h5
  · have := of_decide_eq_true h5; omega
  · have := of_decide_eq_true h5; omega
theorem hearsB_no1 {r : Rpl} {m : Msg} (h : repB r = false) : hearsB r m = false := by unfold hearsB; rw [h]; rfl
theorem hearsB_no2 {r : Rpl} {m : Msg} (h : msgB m = false) : hearsB r m = false := by unfold hearsB; rw [h]; simp
theorem hearsB_no3 {r : Rpl} {m : Msg} (h : ¬ (m.fr ≤ r.n ∧ m.fr ≠ r.self ∧ selfI m.id ≤ r.n)) : hearsB r m = false := by
  unfold hearsB
  rw [decide_eq_false (fun h2 => h ⟨h2.1, h2.2.1, h2.2.2.1⟩)]
  simp
theorem hearsB_in {r : Rpl} {m : Msg} (h1 : repB r = true) (h2 : msgB m = true) (h : m.fr ≤ r.n ∧ m.fr ≠ r.self ∧ selfI m.id ≤ r.n) : hearsB r m = decide (m.quorum < 2 ^ r.n.toNat) := by
  unfold hearsB
  rw [h1, h2, Bool.true_and, Bool.true_and, decide_eq_decide]
  exact ⟨fun h => h.2.2.2, fun h' => ⟨h.1, h.2.1, h.2.2, h'⟩⟩
instance hears26_spec (r : Rpl) (m : Msg) : HasSpec Tryz.prog 70 [.agg r.cs, .agg m.cs] (.v (.bool (hearsB r m))) := by
  cases hr : repB r with
  | false =>
    have j1 := stbad' hr
    rw [hearsB_no1 hr]
    refine ⟨?_⟩; refine Spec.ofR (h := fun F w0 => ?_)
    repeat' ((conv => whnf); first | refine Q.E ?_ | (refine Stk.both (fun hb => ?_) (fun hb => ?_) <;> (try simp only [lE] at hb))); all_goals (conv => whnf)
    (refine Q.r6 (h := ?_); repeat' (first | exact Q.r0 | refine Q.r1 ?_ ?_ | refine Q.r2 ?_ | exact Q.r7 | refine Q.r3 ?_ | refine Q.r4 ?_ | refine Q.r5 ?_))
  | true =>
    have j1 := stok' hr
    cases hm : msgB m with
    | false =>
      have j2 := mck_no hm
      rw [hearsB_no2 hm]
      refine ⟨?_⟩; refine Spec.ofR (h := fun F w0 => ?_)
      repeat' ((conv => whnf); first | refine Q.E ?_ | (refine Stk.both (fun hb => ?_) (fun hb => ?_) <;> (try simp only [lE] at hb))); all_goals (conv => whnf)
      refine Stk.opDG rfl rfl rfl (by simp [tst_eq]) (ok_ifcNe rfl rfl) rfl ?_
      repeat' ((conv => whnf); first | refine Q.E ?_ | (refine Stk.both (fun hb => ?_) (fun hb => ?_) <;> (try simp only [lE] at hb))); all_goals (conv => whnf)
      (refine Q.r6 (h := ?_); repeat' (first | exact Q.r0 | refine Q.r1 ?_ ?_ | refine Q.r2 ?_ | exact Q.r7 | refine Q.r3 ?_ | refine Q.r4 ?_ | refine Q.r5 ?_))
    | true =>
      have j2 := mck_yes hm
      have hn := rep_nums hr
      have hq := msg_quorum hm
      by_cases h : m.fr ≤ r.n ∧ m.fr ≠ r.self ∧ selfI m.id ≤ r.n
      · rw [hearsB_in hr hm h, ← shr0 hq ⟨hn.1, hn.2.1⟩]
        refine ⟨?_⟩; refine Spec.ofR (h := fun F w0 => ?_)
        repeat' ((conv => whnf); first | refine Q.E ?_ | (refine Stk.both (fun hb => ?_) (fun hb => ?_) <;> (try simp only [lE] at hb))); all_goals (conv => whnf)
        refine Stk.opDG rfl rfl rfl (by simp [tst_eq]) (ok_nilNe rfl rfl) rfl ?_
        repeat' ((conv => whnf); first | refine Q.E ?_ | (refine Stk.both (fun hb => ?_) (fun hb => ?_) <;> (try simp only [lE] at hb))); all_goals (conv => whnf)
        (refine Q.r6 (h := ?_); repeat' (first | exact Q.r0 | refine Q.r1 ?_ ?_ | refine Q.r2 ?_ | exact Q.r7 | refine Q.r3 ?_ | refine Q.r4 ?_ | refine Q.r5 ?_))
      · rw [hearsB_no3 h]
        refine ⟨?_⟩; refine Spec.ofR (h := fun F w0 => ?_)
        repeat' ((conv => whnf); first | refine Q.E ?_ | (refine Stk.both (fun hb => ?_) (fun hb => ?_) <;> (try simp only [lE] at hb))); all_goals (conv => whnf)
        refine Stk.opDG rfl rfl rfl (by simp [tst_eq]) (ok_nilNe rfl rfl) rfl ?_
        repeat' ((conv => whnf); first | refine Q.E ?_ | (refine Stk.both (fun hb => ?_) (fun hb => ?_) <;> (try simp only [lE] at hb))); all_goals (conv => whnf)
        all_goals first | (exfalso; omega) | (refine Q.r6 (h := ?_); repeat' (first | exact Q.r0 | refine Q.r1 ?_ ?_ | refine Q.r2 ?_ | exact Q.r7 | refine Q.r3 ?_ | refine Q.r4 ?_ | refine Q.r5 ?_))
end Go.Proofs.YtbjepdfnmbdplaaGreat
end
section
namespace Go.Proofs.YtbjepdfnmbdplaaGreat
open Go.RowKit
set_option linter.unusedSimpArgs false
set_option linter.unusedVariables false
set_option maxRecDepth 100000
set_option maxHeartbeats 2000000
def othK (self : Int) (k : Nat) : List Int := ((List.range k).map fun i => ((i : Nat) : Int) + 1).filter fun i => decide (i ≠ self)
theorem othK_in {self : Int} {k : Nat} (h : (k : Int) + 1 ≠ self) : othK self (k + 1) = othK self k ++ [(k : Int) + 1] := by
  unfold othK
  rw [List.range_succ, List.map_append, List.filter_append, List.map_cons, List.map_nil, List.filter_cons, if_pos (decide_eq_true h), List.filter_nil]
theorem othK_out {self : Int} {k : Nat} (h : (k : Int) + 1 = self) : othK self (k + 1) = othK self k := by
  unfold othK
  rw [List.range_succ, List.map_append, List.filter_append, List.map_cons, List.map_nil, List.filter_cons, if_neg (by simp [h]), List.filter_nil, List.append_nil]
theorem othK_len (self : Int) (k : Nat) : (othK self k).length ≤ k := by
  unfold othK
  exact Nat.le_trans (List.length_filter_le _ _) (by simp)
theorem othL_K (r : Rpl) : othL r = othK r.self r.n.toNat := rfl
theorem others_spec (r : Rpl) (h : 0 ≤ r.n ∧ r.n ≤ 9) : HasSpec Tryz.prog 152 [.agg r.cs] (PV.ints (othL r)) := by
  refine ⟨?_⟩; refine Spec.ofR (h := fun F w0 => ?_)
  repeat' ((conv => whnf); first | refine Q.E ?_ | (refine Stk.both (fun hb => ?_) (fun hb => ?_) <;> (try simp only [lE] at hb))); all_goals (conv => whnf)
  refine Stk.loop (ι := Nat) (fun i => [(1, .lp 1 0), (3, .row 3 0), (4, PV.int ((i : Nat) + 1))]) (fun i => [(3, .row 3 1 0 ((othK r.self i).map ics)), (1, .box r.cs)]) (fun i => (i : Int) ≤ r.n) (fun i => r.n.toNat - i) 0 (by simp; omega) (Weak.trans (Weak.nilrow (t := 3) (id := 3) (rt := 3) (sz := 1) rfl rfl) (Weak.gc ⟨rfl, rfl, rfl, trivial⟩ ⟨rfl, rfl, trivial⟩ rfl rfl rfl)) (fun i hi => ?_)
  by_cases hlt : (i : Int) + 1 ≤ r.n
  · have hlen := othK_len r.self i
    by_cases hs : (i : Int) + 1 = r.self
    · repeat' ((conv => whnf); first | refine Q.E ?_ | (refine Stk.both (fun hb => ?_) (fun hb => ?_) <;> (try simp only [lE] at hb))); all_goals (conv => whnf)
      refine ⟨i + 1, by omega, by omega, ?_⟩
      rw [othK_out hs]
      exact Weak.gc ⟨rfl, rfl, rfl, trivial⟩ ⟨rfl, rfl, trivial⟩ rfl (onlyH_row (fun _ => rfl) rfl) rfl
    · have e := othK_in hs
      generalize othK r.self i = o at *
      repeat' ((conv => whnf); first | refine Q.E ?_ | (refine Stk.both (fun hb => ?_) (fun hb => ?_) <;> (try simp only [lE] at hb))); all_goals (conv => whnf)
      (refine Stk.app rfl Q.app ?_)
      repeat' ((conv => whnf); first | refine Q.E ?_ | (refine Stk.both (fun hb => ?_) (fun hb => ?_) <;> (try simp only [lE] at hb))); all_goals (conv => whnf)
      refine ⟨i + 1, by omega, by omega, ?_⟩
      rw [e]
      exact Weak.rever (by rw [List.map_append]; rfl) (all_map_closed (fun _ => rfl) _) ⟨.inl ⟨rfl, rfl⟩, .inr ⟨rfl, rfl⟩, .inl ⟨rfl, rfl⟩, trivial⟩ ⟨⟨by decide, rfl, rfl⟩, trivial⟩ rfl
  · rw [othL_K, show r.n.toNat = i by omega]
    repeat' ((conv => whnf); first | refine Q.E ?_ | (refine Stk.both (fun hb => ?_) (fun hb => ?_) <;> (try simp only [lE] at hb))); all_goals (conv => whnf)
    (refine Q.r6 (h := ?_); repeat' (first | exact Q.r0 | refine Q.r1 ?_ ?_ | refine Q.r2 ?_ | exact Q.r7 | refine Q.r3 ?_ | refine Q.r4 ?_ | refine Q.r5 ?_))
def mkO (r : Rpl) (m : Msg) (d : Int) : Out := ⟨d, m.from r.self⟩
instance one_spec (r : Rpl) (d : Int) (m : Msg) : HasSpec Tryz.prog 151 [.agg r.cs, PV.int d, .agg m.cs] (.agg (mkO r m d).cs) := by
  refine ⟨?_⟩; refine Spec.ofR (h := fun F w0 => ?_)
  repeat' ((conv => whnf); first | refine Q.E ?_ | (refine Stk.both (fun hb => ?_) (fun hb => ?_) <;> (try simp only [lE] at hb))); all_goals (conv => whnf)
  (refine Q.r6 (h := ?_); repeat' (first | exact Q.r0 | refine Q.r1 ?_ ?_ | refine Q.r2 ?_ | exact Q.r7 | refine Q.r3 ?_ | refine Q.r4 ?_ | refine Q.r5 ?_))
instance all_spec (r : Rpl) (m : Msg) : HasSpec Tryz.prog 75 [.agg r.cs, .agg m.cs] (PV.outs (allO r m)) := by
  cases hr : repB r with
  | false =>
    have j1 := stbad' hr
    rw [show allO r m = [] from if_neg (by rw [hr]; simp)]
    refine ⟨?_⟩; refine Spec.ofR (h := fun F w0 => ?_)
    repeat' ((conv => whnf); first | refine Q.E ?_ | (refine Stk.both (fun hb => ?_) (fun hb => ?_) <;> (try simp only [lE] at hb))); all_goals (conv => whnf)
    (refine Q.r6 (h := ?_); repeat' (first | exact Q.r0 | refine Q.r1 ?_ ?_ | refine Q.r2 ?_ | exact Q.r7 | refine Q.r3 ?_ | refine Q.r4 ?_ | refine Q.r5 ?_))
  | true =>
    have j1 := stok' hr
    have hn := rep_nums hr
    have j2 := others_spec r (by omega)
    have hl : (othL r).length ≤ 9 := Nat.le_trans (othK_len _ _) (by omega)
    rw [show allO r m = (othL r).map (mkO r m) from if_pos hr]
    generalize othL r = l at *
    refine ⟨?_⟩; refine Spec.ofR (h := fun F w0 => ?_)
    repeat' ((conv => whnf); first | refine Q.E ?_ | (refine Stk.both (fun hb => ?_) (fun hb => ?_) <;> (try simp only [lE] at hb))); all_goals (conv => whnf)
    refine Stk.by j2 (h := ?_)
    repeat' ((conv => whnf); first | refine Q.E ?_ | (refine Stk.both (fun hb => ?_) (fun hb => ?_) <;> (try simp only [lE] at hb))); all_goals (conv => whnf)
    refine Stk.loop (ι := Nat) (fun i => [(3, .lp 3 0), (5, .fn (.func 151) [.agg r.cs] []), (6, .row 6 0), (17, PV.ints l), (18, PV.int (l.length : Nat)), (19, PV.int (i : Nat))]) (fun i => [(6, .row 63 15 0 (((l.take i).map (mkO r m)).map Out.cs)), (3, .box m.cs)]) (fun i => i ≤ l.length) (fun i => l.length - i) 0 (Nat.zero_le _) (Weak.trans (Weak.nilrow (t := 6) (id := 6) (rt := 63) (sz := 15) rfl rfl) (Weak.gc ⟨rfl, rfl, rfl, rfl, rfl, rfl, trivial⟩ ⟨rfl, rfl, trivial⟩ rfl rfl rfl)) (fun i hi => ?_)
    by_cases hlt : i < l.length
    · have e : (l.take (i + 1)).map (mkO r m) = (l.take i).map (mkO r m) ++ [mkO r m l[i]] := by rw [take_snoc' l i hlt, List.map_append]; rfl
      have hol : ((l.take i).map (mkO r m)).length ≤ 9 := by rw [List.length_map, List.length_take]; omega
      generalize (l.take i).map (mkO r m) = o at *
      repeat' ((conv => whnf); first | refine Q.E ?_ | (refine Stk.both (fun hb => ?_) (fun hb => ?_) <;> (try simp only [lE] at hb))); all_goals (conv => whnf)
      (refine Stk.app rfl Q.app ?_)
      repeat' ((conv => whnf); first | refine Q.E ?_ | (refine Stk.both (fun hb => ?_) (fun hb => ?_) <;> (try simp only [lE] at hb))); all_goals (conv => whnf)
      refine ⟨i + 1, by omega, by omega, ?_⟩
      rw [e]
      exact Weak.rever (by rw [List.map_append]; rfl) (all_map_closed (fun _ => rfl) _) ⟨.inl ⟨rfl, rfl⟩, .inl ⟨rfl, rfl⟩, .inr ⟨rfl, rfl⟩, .inl ⟨rfl, rfl⟩, .inl ⟨rfl, rfl⟩, .inl ⟨rfl, rfl⟩, trivial⟩ ⟨⟨by decide, rfl, rfl⟩, trivial⟩ rfl
    · rw [show l.take i = l from List.take_of_length_le (by omega)]
      generalize l.map (mkO r m) = o at *
      repeat' ((conv => whnf); first | refine Q.E ?_ | (refine Stk.both (fun hb => ?_) (fun hb => ?_) <;> (try simp only [lE] at hb))); all_goals (conv => whnf)
      (refine Q.r6 (h := ?_); repeat' (first | exact Q.r0 | refine Q.r1 ?_ ?_ | refine Q.r2 ?_ | exact Q.r7 | refine Q.r3 ?_ | refine Q.r4 ?_ | refine Q.r5 ?_))
end Go.Proofs.YtbjepdfnmbdplaaGreat
end
section
namespace Go.Proofs.YtbjepdfnmbdplaaGreat
open Go.RowKit
set_option linter.unusedSimpArgs false
set_option linter.unusedVariables false
set_option maxRecDepth 100000
set_option maxHeartbeats 2000000
end Go.Proofs.YtbjepdfnmbdplaaGreat
end
section
namespace Go.Proofs.YtbjepdfnmbdplaaGreat
open Go.RowKit
set_option linter.unusedSimpArgs false
set_option linter.unusedVariables false
set_option maxRecDepth 100000
set_option maxHeartbeats 2000000
theorem new_yes {id q : Int} {p : ByteArray} (h : entB (.new id q p) = true) : newR id q p = .new id q p := if_pos h
theorem new_no {id q : Int} {p : ByteArray} (h : entB (.new id q p) = false) : newR id q p = .zero := if_neg (by rw [h]; simp)
instance learn_spec (r : Rpl) (id q : Int) (p : ByteArray) : HasSpec Tryz.prog 103 [.agg r.cs, PV.int id, PV.int q, .v (.string p)] (.tup [.agg (lrnR r id q p).cs, .agg (lrnE r id q p).cs, .v (.bool (lrnB r id q p))]) := by
  cases hr : repB r with
  | false =>
    have j1 := stbad' hr
    rw [show lrnR r id q p = r from if_neg (by rw [hr]; simp), show lrnE r id q p = .zero from if_neg (by rw [hr]; simp), show lrnB r id q p = false from if_neg (by rw [hr]; simp)]
    refine ⟨?_⟩; refine Spec.ofR (h := fun F w0 => ?_)
    repeat' ((conv => whnf); first | refine Q.E ?_ | (refine Stk.both (fun hb => ?_) (fun hb => ?_) <;> (try simp only [lE] at hb))); all_goals (conv => whnf)
    all_goals (refine Q.r6 (h := ?_); repeat' (first | exact Q.r0 | refine Q.r1 ?_ ?_ | refine Q.r2 ?_ | exact Q.r7 | refine Q.r3 ?_ | refine Q.r4 ?_ | refine Q.r5 ?_))
  | true =>
    have j1 := stok' hr
    cases hd : doneB r id with
    | true =>
      rw [show lrnR r id q p = r from if_neg (by rw [hd]; simp), show lrnE r id q p = .zero from if_neg (by rw [hd]; simp), show lrnB r id q p = false from if_neg (by rw [hd]; simp)]
      refine ⟨?_⟩; refine Spec.ofR (h := fun F w0 => ?_)
      repeat' ((conv => whnf); first | refine Q.E ?_ | (refine Stk.both (fun hb => ?_) (fun hb => ?_) <;> (try simp only [lE] at hb))); all_goals (conv => whnf)
      all_goals (refine Q.r6 (h := ?_); repeat' (first | exact Q.r0 | refine Q.r1 ?_ ?_ | refine Q.r2 ?_ | exact Q.r7 | refine Q.r3 ?_ | refine Q.r4 ?_ | refine Q.r5 ?_))
    | false =>
      have hc : repB r = true ∧ doneB r id = false := ⟨hr, hd⟩
      have jf := tablefind_spec r.entries id
      cases hf : findB r.entries id with
      | true =>
        rw [hf] at jf
        rw [show lrnR r id q p = r from (if_pos hc).trans (if_pos hf), show lrnE r id q p = findT r.entries id from (if_pos hc).trans (if_pos hf), show lrnB r id q p = true from (if_pos hc).trans (if_pos hf)]
        generalize findT r.entries id = e at *
        refine ⟨?_⟩; refine Spec.ofR (h := fun F w0 => ?_)
        repeat' ((conv => whnf); first | refine Q.E ?_ | (refine Stk.both (fun hb => ?_) (fun hb => ?_) <;> (try simp only [lE] at hb))); all_goals (conv => whnf)
        all_goals (refine Q.r6 (h := ?_); repeat' (first | exact Q.r0 | refine Q.r1 ?_ ?_ | refine Q.r2 ?_ | exact Q.r7 | refine Q.r3 ?_ | refine Q.r4 ?_ | refine Q.r5 ?_))
      | false =>
        have hf2 : ¬ findB r.entries id = true := by rw [hf]; simp
        rw [hf] at jf
        cases he : entB (.new id q p) with
        | false =>
          rw [show lrnR r id q p = r from (if_pos hc).trans ((if_neg hf2).trans (if_neg (by rw [he]; simp))), show lrnE r id q p = .zero from (if_pos hc).trans ((if_neg hf2).trans (if_neg (by rw [he]; simp))), show lrnB r id q p = false from (if_pos hc).trans ((if_neg hf2).trans (if_neg (by rw [he]; simp)))]
          have j2 := entrynew_spec id q p
          rw [he, new_no he] at j2
          refine ⟨?_⟩; refine Spec.ofR (h := fun F w0 => ?_)
          repeat' ((conv => whnf); first | refine Q.E ?_ | (refine Stk.both (fun hb => ?_) (fun hb => ?_) <;> (try simp only [lE] at hb))); all_goals (conv => whnf)
          all_goals (refine Q.r6 (h := ?_); repeat' (first | exact Q.r0 | refine Q.r1 ?_ ?_ | refine Q.r2 ?_ | exact Q.r7 | refine Q.r3 ?_ | refine Q.r4 ?_ | refine Q.r5 ?_))
        | true =>
          have j2 := entrynew_spec id q p
          rw [he, new_yes he] at j2
          by_cases hx : rputX r (.new id q p) = 0
          · rw [show lrnR r id q p = rputR r (.new id q p) from (if_pos hc).trans ((if_neg hf2).trans (if_pos he)), show lrnE r id q p = .new id q p from (if_pos hc).trans ((if_neg hf2).trans (if_pos ⟨he, hx⟩)), show lrnB r id q p = true from (if_pos hc).trans ((if_neg hf2).trans (if_pos ⟨he, hx⟩))]
            generalize Ent.new id q p = e at *
            have j3 := put_spec r e
            generalize rputX r e = x at *
            generalize rputR r e = s at *
            refine ⟨?_⟩; refine Spec.ofR (h := fun F w0 => ?_)
            repeat' ((conv => whnf); first | refine Q.E ?_ | (refine Stk.both (fun hb => ?_) (fun hb => ?_) <;> (try simp only [lE] at hb))); all_goals (conv => whnf)
            all_goals (refine Q.r6 (h := ?_); repeat' (first | exact Q.r0 | refine Q.r1 ?_ ?_ | refine Q.r2 ?_ | exact Q.r7 | refine Q.r3 ?_ | refine Q.r4 ?_ | refine Q.r5 ?_))
          · rw [show lrnR r id q p = rputR r (.new id q p) from (if_pos hc).trans ((if_neg hf2).trans (if_pos he)), show lrnE r id q p = .zero from (if_pos hc).trans ((if_neg hf2).trans (if_neg (fun h => hx h.2))), show lrnB r id q p = false from (if_pos hc).trans ((if_neg hf2).trans (if_neg (fun h => hx h.2))), rputR_no hx]
            generalize Ent.new id q p = e at *
            have j3 := put_spec r e
            generalize rputX r e = x at *
            generalize rputR r e = s at *
            refine ⟨?_⟩; refine Spec.ofR (h := fun F w0 => ?_)
            repeat' ((conv => whnf); first | refine Q.E ?_ | (refine Stk.both (fun hb => ?_) (fun hb => ?_) <;> (try simp only [lE] at hb))); all_goals (conv => whnf)
            all_goals (refine Q.r6 (h := ?_); repeat' (first | exact Q.r0 | refine Q.r1 ?_ ?_ | refine Q.r2 ?_ | exact Q.r7 | refine Q.r3 ?_ | refine Q.r4 ?_ | refine Q.r5 ?_))
instance bumped_spec (r : Rpl) (e : Ent) (t : Int) : HasSpec Tryz.prog 150 [.agg r.cs, .agg e.cs, PV.int t] (.tup [.agg (bmpR r e t).cs, .v (.bool (bmpB r e t))]) := by
  have j1 := put_spec r e
  by_cases hx : rputX r e = 0
  · rw [show bmpR r e t = { r with entries := putE r.entries e, clock := bumpI r.clock t } from if_pos hx, show bmpB r e t = true from decide_eq_true hx]
    rw [hx, rputR_yes hx] at j1
    generalize putE r.entries e = L at *
    refine ⟨?_⟩; refine Spec.ofR (h := fun F w0 => ?_)
    repeat' ((conv => whnf); first | refine Q.E ?_ | (refine Stk.both (fun hb => ?_) (fun hb => ?_) <;> (try simp only [lE] at hb))); all_goals (conv => whnf)
    all_goals (refine Q.r6 (h := ?_); repeat' (first | exact Q.r0 | refine Q.r1 ?_ ?_ | refine Q.r2 ?_ | exact Q.r7 | refine Q.r3 ?_ | refine Q.r4 ?_ | refine Q.r5 ?_))
  · rw [show bmpR r e t = r from if_neg hx, show bmpB r e t = false from decide_eq_false hx]
    generalize rputX r e = x at *
    generalize rputR r e = s at *
    refine ⟨?_⟩; refine Spec.ofR (h := fun F w0 => ?_)
    repeat' ((conv => whnf); first | refine Q.E ?_ | (refine Stk.both (fun hb => ?_) (fun hb => ?_) <;> (try simp only [lE] at hb))); all_goals (conv => whnf)
    all_goals (refine Q.r6 (h := ?_); repeat' (first | exact Q.r0 | refine Q.r1 ?_ ?_ | refine Q.r2 ?_ | exact Q.r7 | refine Q.r3 ?_ | refine Q.r4 ?_ | refine Q.r5 ?_))
instance take_spec (r : Rpl) (e : Ent) (t b : Int) : HasSpec Tryz.prog 190 [.agg r.cs, .agg e.cs, PV.int t, PV.int b] (.tup [.agg (tkR r e t b).cs, .v (.bool (tkB r e t b))]) := by
  have j1 := accept_spec e t b
  have j2 : HasSpec Tryz.prog 72 [.agg (accE e t b).cs, .agg [PV.int 2, PV.int r.self, PV.int b, PV.int 0, PV.int 0, PV.int 0]] (.tup [.agg (ackR (accE e t b) (ackA r b)).cs, .v (.bool (ackB (accE e t b) (ackA r b)))]) := entryack_spec (accE e t b) (ackA r b)
  by_cases hx : accX e t b = 0
  · cases hk : ackB (accE e t b) (ackA r b) with
    | true =>
      have j3 := bumped_spec r (ackR (accE e t b) (ackA r b)) t
      rw [show tkR r e t b = bmpR r (ackR (accE e t b) (ackA r b)) t from if_pos ⟨hx, hk⟩, show tkB r e t b = bmpB r (ackR (accE e t b) (ackA r b)) t from if_pos ⟨hx, hk⟩]
      rw [hk] at j2
      generalize accX e t b = x at *
      generalize ackR (accE e t b) (ackA r b) = c2 at *
      generalize accE e t b = c at *
      generalize bmpR r c2 t = s at *
      generalize bmpB r c2 t = bb at *
      refine ⟨?_⟩; refine Spec.ofR (h := fun F w0 => ?_)
      repeat' ((conv => whnf); first | refine Q.E ?_ | (refine Stk.both (fun hb => ?_) (fun hb => ?_) <;> (try simp only [lE] at hb))); all_goals (conv => whnf)
      all_goals (refine Q.r6 (h := ?_); repeat' (first | exact Q.r0 | refine Q.r1 ?_ ?_ | refine Q.r2 ?_ | exact Q.r7 | refine Q.r3 ?_ | refine Q.r4 ?_ | refine Q.r5 ?_))
    | false =>
      rw [show tkR r e t b = r from if_neg (fun h => by rw [hk] at h; cases h.2), show tkB r e t b = false from if_neg (fun h => by rw [hk] at h; cases h.2)]
      rw [hk] at j2
      generalize accX e t b = x at *
      generalize ackR (accE e t b) (ackA r b) = c2 at *
      generalize accE e t b = c at *
      refine ⟨?_⟩; refine Spec.ofR (h := fun F w0 => ?_)
      repeat' ((conv => whnf); first | refine Q.E ?_ | (refine Stk.both (fun hb => ?_) (fun hb => ?_) <;> (try simp only [lE] at hb))); all_goals (conv => whnf)
      all_goals (refine Q.r6 (h := ?_); repeat' (first | exact Q.r0 | refine Q.r1 ?_ ?_ | refine Q.r2 ?_ | exact Q.r7 | refine Q.r3 ?_ | refine Q.r4 ?_ | refine Q.r5 ?_))
  · rw [show tkR r e t b = r from if_neg (fun h => hx h.1), show tkB r e t b = false from if_neg (fun h => hx h.1)]
    clear j2
    generalize accX e t b = x at *
    generalize accE e t b = c at *
    refine ⟨?_⟩; refine Spec.ofR (h := fun F w0 => ?_)
    repeat' ((conv => whnf); first | refine Q.E ?_ | (refine Stk.both (fun hb => ?_) (fun hb => ?_) <;> (try simp only [lE] at hb))); all_goals (conv => whnf)
    all_goals (refine Q.r6 (h := ?_); repeat' (first | exact Q.r0 | refine Q.r1 ?_ ?_ | refine Q.r2 ?_ | exact Q.r7 | refine Q.r3 ?_ | refine Q.r4 ?_ | refine Q.r5 ?_))
end Go.Proofs.YtbjepdfnmbdplaaGreat
end
section
namespace Go.Proofs.YtbjepdfnmbdplaaGreat
open Go.RowKit
set_option linter.unusedSimpArgs false
set_option linter.unusedVariables false
set_option maxRecDepth 100000
set_option maxHeartbeats 2000000
def SubX (p q : PV) : Prop := ∀ (w : World) (μ : LMap) (y : Value), Rep w μ p y → Rep w μ q y
inductive SubXL : List PV → List PV → Prop
  | nil : SubXL [] []
  | cons {c d : PV} {cs ds : List PV} : SubX c d → SubXL cs ds → SubXL (c :: cs) (d :: ds)
inductive SubXR : List (List PV) → List (List PV) → Prop
  | nil : SubXR [] []
  | cons {c d : List PV} {cs ds : List (List PV)} : SubXL c d → SubXR cs ds → SubXR (c :: cs) (d :: ds)
theorem SubX.refl (p : PV) : SubX p p := fun _ _ _ h => h
theorem SubX.of {p q : PV} (h : Sub p q) : SubX p q := fun _ _ _ r => Sub.rep h r
theorem SubXL.rep {w : World} {μ : LMap} : ∀ {cs ds : List PV} (_ : SubXL cs ds) {vs : List Value}, RepL w μ cs vs → RepL w μ ds vs
  | _, _, .nil, _, r => r
  | _, _, .cons h hs, _, r => by
    simp only [RepL] at r ⊢
    obtain ⟨u, us, e, r1, r2⟩ := r
    exact ⟨u, us, e, h w μ u r1, SubXL.rep hs r2⟩
theorem SubXL.repC {w : World} {μ : LMap} {A : Option Addr} : ∀ {cs ds : List PV} (_ : SubXL cs ds) {k : Nat}, RepC w μ A cs k → RepC w μ A ds k
  | _, _, .nil, _, r => r
  | _, _, .cons h hs, _, r => by
    simp only [RepC] at r ⊢
    obtain ⟨⟨a, u, e1, e2, e3, e4, r1⟩, r2⟩ := r
    exact ⟨⟨a, u, e1, e2, e3, e4, h w μ u r1⟩, SubXL.repC hs r2⟩
theorem SubXL.len : ∀ {cs ds : List PV} (_ : SubXL cs ds), cs.length = ds.length
  | _, _, .nil => rfl
  | _, _, .cons _ hs => congrArg (· + 1) (SubXL.len hs)
theorem SubXR.repR {w : World} {μ : LMap} {A : Option Addr} {sz : Nat} : ∀ {cs ds : List (List PV)} (_ : SubXR cs ds) {k : Nat}, RepR w μ A sz cs k → RepR w μ A sz ds k
  | _, _, .nil, _, r => r
  | _, _, .cons h hs, _, r => by
    simp only [RepR] at r ⊢
    obtain ⟨h1, r1, r2⟩ := r
    exact ⟨h.len.symm.trans h1, SubXL.repC h r1, SubXR.repR hs r2⟩
theorem SubXR.len : ∀ {cs ds : List (List PV)} (_ : SubXR cs ds), cs.length = ds.length
  | _, _, .nil => rfl
  | _, _, .cons _ hs => congrArg (· + 1) (SubXR.len hs)
theorem SubX.sl {sz : Nat} {xs ys : List (List PV)} (h : SubXR xs ys) : SubX (.sl sz xs) (.sl sz ys) := fun w μ y r => by
  simp only [Rep] at r ⊢
  obtain ⟨A, c, e, h1, h2, r⟩ := r
  exact ⟨A, c, by rw [← h.len]; exact e, by rw [← h.len]; exact h1, h2, SubXR.repR h r⟩
theorem SubX.agg {cs ds : List PV} (h : SubXL cs ds) : SubX (.agg cs) (.agg ds) := fun w μ y r => by
  simp only [Rep] at r ⊢
  obtain ⟨vs, e, r, h1⟩ := r
  exact ⟨vs, e, SubXL.rep h r, h1⟩
theorem SubX.tup {cs ds : List PV} (h : SubXL cs ds) : SubX (.tup cs) (.tup ds) := fun w μ y r => by
  simp only [Rep] at r ⊢
  obtain ⟨vs, e, r⟩ := r
  exact ⟨vs, e, SubXL.rep h r⟩
theorem SubX.nil (sz : Nat) : SubX (.v (.slice none 0 0)) (.sl sz []) := SubX.of (.nil sz)
theorem HasSpec.mono {P : Program} {g : FuncId} {args : List PV} {r r' : PV} (h : HasSpec P g args r) (hm : SubX r r') (hr : r.noOwn = true := by rfl) (hr' : r'.noOwn = true := by rfl) : HasSpec P g args r' :=
  ⟨⟨h.h.enters, fun F w vs hF hv => (h.h.run F w vs hF hv).mono (by
    rintro e w' ⟨y, rfl, hb, hrr⟩
    refine ⟨y, rfl, hb, ?_⟩
    have := hm w' (LMap.none F) y (hrr.plain hr)
    cases r' <;> first | exact this | cases hr')⟩⟩
def Out.raw (o : Out) : List PV := [PV.int o.dest, PV.int o.m.kind, PV.int o.m.fr, PV.int o.m.id, PV.int o.m.t, PV.int o.m.bal, PV.int o.m.abal, PV.int o.m.phase, PV.int o.m.quorum, .v (.string o.m.payload), PV.int o.m.lo, PV.int o.m.hi, .v (.slice none 0 0), .v (.slice none 0 0), PV.int o.m.done]
theorem raw_out {o : Out} (h1 : o.m.atts = []) (h2 : o.m.marks = []) : SubX (.sl 15 [o.raw]) (PV.outs [o]) := by
  refine SubX.sl (.cons ?_ .nil)
  unfold Out.raw Out.cs Msg.cs
  rw [h1, h2]
  exact .cons (.refl _) (.cons (.refl _) (.cons (.refl _) (.cons (.refl _) (.cons (.refl _) (.cons (.refl _) (.cons (.refl _) (.cons (.refl _) (.cons (.refl _) (.cons (.refl _) (.cons (.refl _) (.cons (.refl _) (.cons (.nil _) (.cons (.nil _) (.cons (.refl _) .nil))))))))))))))
instance identmay_spec (n : Int) : HasSpec Tryz.prog 121 [PV.int n] (.v (.bool (manyB n))) := by
  refine ⟨?_⟩; refine Spec.ofR (h := fun F w0 => ?_)
  repeat' ((conv => whnf); first | refine Q.E ?_ | (refine Stk.both (fun hb => ?_) (fun hb => ?_) <;> (try simp only [lE] at hb))); all_goals (conv => whnf)
  all_goals (refine Q.r6 (h := ?_); repeat' (first | exact Q.r0 | refine Q.r1 ?_ ?_ | refine Q.r2 ?_ | exact Q.r7 | refine Q.r3 ?_ | refine Q.r4 ?_ | refine Q.r5 ?_))
  all_goals ((first | rfl | (rw [Bool.eq_iff_iff]; simp only [tst_true, tst_false, manyB, decide_eq_true_eq, decide_eq_false_iff_not, Bool.and_eq_true, Bool.or_eq_true, Bool.not_eq_true', Bool.not_eq_false', Bool.false_eq_true, Bool.true_eq_false, true_iff, iff_true, false_iff, iff_false, true_and, and_true, false_and, and_false, not_false_eq_true, not_true_eq_false]; try omega)))
theorem many_iff {n : Int} : manyB n = true ↔ 3 ≤ n ∧ n ≤ 9 := by unfold manyB; exact decide_eq_true_iff
theorem many_f {n : Int} : manyB n = false ↔ ¬ (3 ≤ n ∧ n ≤ 9) := by unfold manyB; exact decide_eq_false_iff_not
instance owner_spec (b n : Int) : HasSpec Tryz.prog 48 [PV.int b, PV.int n] (PV.int (ownI b n)) := by
  by_cases h : 3 ≤ n ∧ n ≤ 9 ∧ 1 ≤ b ∧ b ≤ 1000000
  · have hm := many_iff.2 ⟨h.1, h.2.1⟩
    have h2 : 0 ≤ (b - 1) % n ∧ (b - 1) % n < n := ⟨Int.emod_nonneg _ (by omega), Int.emod_lt_of_pos _ (by omega)⟩
    rw [show ownI b n = (b - 1) % n + 1 from if_pos h]
    refine ⟨?_⟩; refine Spec.ofR (h := fun F w0 => ?_)
    repeat' ((conv => whnf); first | refine Q.a ?_ | refine Q.b ?_ | refine Q.c ?_ | refine Stk.is (by first | assumption | ((try simp only [lE]); first | done | assumption | omega)) ?_ | refine Stk.isnt (by first | assumption | ((try simp only [lE]); first | done | assumption | omega)) ?_ | (refine Stk.both (fun hb => ?_) (fun hb => ?_) <;> (try simp only [lE] at hb)) | refine Q.d ?_ | refine Q.e ?_ | refine Q.f ?_ | refine Q.g ?_ | refine Q.h ?_ | refine Q.i ?_ | refine Q.j ?_ | refine Q.k ?_ | refine Q.l ?_ | refine Q.m ?_ | refine Q.n ?_ | refine Q.o (h := ?_) | refine Q.p (h := ?_) | refine Q.q ?_ | refine Q.r ?_ | refine Q.s ?_ | refine Q.t ?_ | refine Q.u ?_ | refine Q.v ?_ | refine Q.w ?_ | refine Q.x ?_ | refine Q.y ?_ | refine Q.z ?_ | refine Stk.inl (h := fun tm => ?_) | refine Stk.inl0 (h := fun tm => ?_) | refine DefG.go (h := fun vs us => ?_) | intro (tm : Array Value) | refine Stk.op (ok_buildA rfl rfl rfl rfl) ?_ | refine Stk.scope ?_); all_goals (conv => whnf)
    (refine Q.r6 (h := ?_); repeat' (first | exact Q.r0 | refine Q.r1 ?_ ?_ | refine Q.r2 ?_ | exact Q.r7 | refine Q.r3 ?_ | refine Q.r4 ?_ | refine Q.r5 ?_))
  · rw [show ownI b n = 0 from if_neg h]
    cases hm : manyB n with
    | true =>
      have := many_iff.1 hm
      refine ⟨?_⟩; refine Spec.ofR (h := fun F w0 => ?_)
      repeat' ((conv => whnf); first | refine Q.a ?_ | refine Q.b ?_ | refine Q.c ?_ | refine Stk.is (by first | assumption | ((try simp only [lE]); first | done | assumption | omega)) ?_ | refine Stk.isnt (by first | assumption | ((try simp only [lE]); first | done | assumption | omega)) ?_ | (refine Stk.both (fun hb => ?_) (fun hb => ?_) <;> (try simp only [lE] at hb)) | refine Q.d ?_ | refine Q.e ?_ | refine Q.f ?_ | refine Q.g ?_ | refine Q.h ?_ | refine Q.i ?_ | refine Q.j ?_ | refine Q.k ?_ | refine Q.l ?_ | refine Q.m ?_ | refine Q.n ?_ | refine Q.o (h := ?_) | refine Q.p (h := ?_) | refine Q.q ?_ | refine Q.r ?_ | refine Q.s ?_ | refine Q.t ?_ | refine Q.u ?_ | refine Q.v ?_ | refine Q.w ?_ | refine Q.x ?_ | refine Q.y ?_ | refine Q.z ?_ | refine Stk.inl (h := fun tm => ?_) | refine Stk.inl0 (h := fun tm => ?_) | refine DefG.go (h := fun vs us => ?_) | intro (tm : Array Value) | refine Stk.op (ok_buildA rfl rfl rfl rfl) ?_ | refine Stk.scope ?_); all_goals (conv => whnf)
      all_goals first | (exfalso; omega) | (refine Q.r6 (h := ?_); repeat' (first | exact Q.r0 | refine Q.r1 ?_ ?_ | refine Q.r2 ?_ | exact Q.r7 | refine Q.r3 ?_ | refine Q.r4 ?_ | refine Q.r5 ?_))
    | false =>
      refine ⟨?_⟩; refine Spec.ofR (h := fun F w0 => ?_)
      repeat' ((conv => whnf); first | refine Q.a ?_ | refine Q.b ?_ | refine Q.c ?_ | refine Stk.is (by first | assumption | ((try simp only [lE]); first | done | assumption | omega)) ?_ | refine Stk.isnt (by first | assumption | ((try simp only [lE]); first | done | assumption | omega)) ?_ | (refine Stk.both (fun hb => ?_) (fun hb => ?_) <;> (try simp only [lE] at hb)) | refine Q.d ?_ | refine Q.e ?_ | refine Q.f ?_ | refine Q.g ?_ | refine Q.h ?_ | refine Q.i ?_ | refine Q.j ?_ | refine Q.k ?_ | refine Q.l ?_ | refine Q.m ?_ | refine Q.n ?_ | refine Q.o (h := ?_) | refine Q.p (h := ?_) | refine Q.q ?_ | refine Q.r ?_ | refine Q.s ?_ | refine Q.t ?_ | refine Q.u ?_ | refine Q.v ?_ | refine Q.w ?_ | refine Q.x ?_ | refine Q.y ?_ | refine Q.z ?_ | refine Stk.inl (h := fun tm => ?_) | refine Stk.inl0 (h := fun tm => ?_) | refine DefG.go (h := fun vs us => ?_) | intro (tm : Array Value) | refine Stk.op (ok_buildA rfl rfl rfl rfl) ?_ | refine Stk.scope ?_); all_goals (conv => whnf)
      all_goals (refine Q.r6 (h := ?_); repeat' (first | exact Q.r0 | refine Q.r1 ?_ ?_ | refine Q.r2 ?_ | exact Q.r7 | refine Q.r3 ?_ | refine Q.r4 ?_ | refine Q.r5 ?_))
instance told27_spec (r : Rpl) (e : Ent) : HasSpec Tryz.prog 76 [.agg r.cs, .agg e.cs] (.agg (tolM r e).cs) := by
  refine ⟨?_⟩; refine Spec.ofR (h := fun F w0 => ?_)
  repeat' ((conv => whnf); first | refine Q.E ?_ | (refine Stk.both (fun hb => ?_) (fun hb => ?_) <;> (try simp only [lE] at hb))); all_goals (conv => whnf)
  (refine Q.r6 (h := ?_); repeat' (first | exact Q.r0 | refine Q.r1 ?_ ?_ | refine Q.r2 ?_ | exact Q.r7 | refine Q.r3 ?_ | refine Q.r4 ?_ | refine Q.r5 ?_))
theorem helpO_no1 {r : Rpl} {e : Ent} {d : Int} (h : settB e.phase = false) : helpO r e d = [] := if_neg (by rw [h]; simp)
theorem helpO_no2 {r : Rpl} {e : Ent} {d : Int} (h : repB r = false) : helpO r e d = [] := if_neg (by rw [h]; simp)
theorem helpO_no3 {r : Rpl} {e : Ent} {d : Int} (h : ¬ (1 ≤ d ∧ d ≤ r.n ∧ d ≠ r.self)) : helpO r e d = [] := if_neg (fun h2 => h h2.2.2)
theorem helpO_yes {r : Rpl} {e : Ent} {d : Int} (h1 : settB e.phase = true) (h2 : repB r = true) (h : 1 ≤ d ∧ d ≤ r.n ∧ d ≠ r.self) : helpO r e d = [⟨d, tolM r e⟩] := if_pos ⟨h1, h2, h⟩
instance help_spec (r : Rpl) (e : Ent) (d : Int) : HasSpec Tryz.prog 24 [.agg r.cs, .agg e.cs, PV.int d] (PV.outs (helpO r e d)) := by
  have hp := settB_iff (p := e.phase)
  have jp := phasesett_spec e.phase
  cases h1 : settB e.phase with
  | false =>
    rw [h1] at jp
    rw [helpO_no1 h1]
    refine ⟨?_⟩; refine Spec.ofR (h := fun F w0 => ?_)
    repeat' ((conv => whnf); first | refine Q.E ?_ | (refine Stk.both (fun hb => ?_) (fun hb => ?_) <;> (try simp only [lE] at hb))); all_goals (conv => whnf)
    (refine Q.r6 (h := ?_); repeat' (first | exact Q.r0 | refine Q.r1 ?_ ?_ | refine Q.r2 ?_ | exact Q.r7 | refine Q.r3 ?_ | refine Q.r4 ?_ | refine Q.r5 ?_))
  | true =>
    rw [h1] at jp
    cases h2 : repB r with
    | false =>
      have j1 := stbad' h2
      rw [helpO_no2 h2]
      refine ⟨?_⟩; refine Spec.ofR (h := fun F w0 => ?_)
      repeat' ((conv => whnf); first | refine Q.E ?_ | (refine Stk.both (fun hb => ?_) (fun hb => ?_) <;> (try simp only [lE] at hb))); all_goals (conv => whnf)
      (refine Q.r6 (h := ?_); repeat' (first | exact Q.r0 | refine Q.r1 ?_ ?_ | refine Q.r2 ?_ | exact Q.r7 | refine Q.r3 ?_ | refine Q.r4 ?_ | refine Q.r5 ?_))
    | true =>
      have j1 := stok' h2
      by_cases h : 1 ≤ d ∧ d ≤ r.n ∧ d ≠ r.self
      · rw [helpO_yes h1 h2 h]
        refine ⟨?_⟩; refine Spec.ofR (h := fun F w0 => ?_)
        repeat' ((conv => whnf); first | refine Q.E ?_ | (refine Stk.both (fun hb => ?_) (fun hb => ?_) <;> (try simp only [lE] at hb))); all_goals (conv => whnf)
        (refine Q.r6 (h := ?_); repeat' (first | exact Q.r0 | refine Q.r1 ?_ ?_ | refine Q.r2 ?_ | exact Q.r7 | refine Q.r3 ?_ | refine Q.r4 ?_ | refine Q.r5 ?_))
      · rw [helpO_no3 h]
        refine ⟨?_⟩; refine Spec.ofR (h := fun F w0 => ?_)
        repeat' ((conv => whnf); first | refine Q.E ?_ | (refine Stk.both (fun hb => ?_) (fun hb => ?_) <;> (try simp only [lE] at hb))); all_goals (conv => whnf)
        all_goals first | (exfalso; omega) | (refine Q.r6 (h := ?_); repeat' (first | exact Q.r0 | refine Q.r1 ?_ ?_ | refine Q.r2 ?_ | exact Q.r7 | refine Q.r3 ?_ | refine Q.r4 ?_ | refine Q.r5 ?_))
end Go.Proofs.YtbjepdfnmbdplaaGreat
end
section
namespace Go.Proofs.YtbjepdfnmbdplaaGreat
open Go.RowKit
set_option linter.unusedSimpArgs false
set_option linter.unusedVariables false
set_option maxRecDepth 100000
set_option maxHeartbeats 2000000
def firstB (b n : Int) : Bool := decide (3 ≤ n ∧ n ≤ 9 ∧ 1 ≤ b ∧ b ≤ n)
def nextOk (b s n : Int) : Bool := decide (3 ≤ n ∧ n ≤ 9 ∧ 1 ≤ s ∧ s ≤ n ∧ 0 ≤ b ∧ b ≤ 1000000)
def nextT (b s n : Int) : Int := max b n + 1 + (s - ((max b n + 1 - 1) % n + 1) + n) % n
def nextI (b s n : Int) : Int := if nextOk b s n = true then (if nextT b s n ≤ 1000000 then nextT b s n else 0) else 0
def nextX (b s n : Int) : Int := if nextOk b s n = true then (if nextT b s n ≤ 1000000 then 0 else 8) else 2
instance first_spec (b n : Int) : HasSpec Tryz.prog 102 [PV.int b, PV.int n] (.v (.bool (firstB b n))) := by
  unfold firstB
  cases hm : manyB n with
  | true =>
    have hn := many_iff.1 hm
    refine ⟨?_⟩; refine Spec.ofR (h := fun F w0 => ?_)
    repeat' ((conv => whnf); first | refine Q.a ?_ | refine Q.b ?_ | refine Q.c ?_ | refine Stk.is (by first | assumption | ((try simp only [lE]); first | done | assumption | omega)) ?_ | refine Stk.isnt (by first | assumption | ((try simp only [lE]); first | done | assumption | omega)) ?_ | (refine Stk.both (fun hb => ?_) (fun hb => ?_) <;> (try simp only [lE] at hb)) | refine Q.d ?_ | refine Q.e ?_ | refine Q.f ?_ | refine Q.g ?_ | refine Q.h ?_ | refine Q.i ?_ | refine Q.j ?_ | refine Q.k ?_ | refine Q.l ?_ | refine Q.m ?_ | refine Q.n ?_ | refine Q.o (h := ?_) | refine Q.p (h := ?_) | refine Q.q ?_ | refine Q.r ?_ | refine Q.s ?_ | refine Q.t ?_ | refine Q.u ?_ | refine Q.v ?_ | refine Q.w ?_ | refine Q.x ?_ | refine Q.y ?_ | refine Q.z ?_ | refine Stk.inl (h := fun tm => ?_) | refine Stk.inl0 (h := fun tm => ?_) | refine DefG.go (h := fun vs us => ?_) | intro (tm : Array Value) | refine Stk.op (ok_buildA rfl rfl rfl rfl) ?_ | refine Stk.scope ?_); all_goals (conv => whnf)
    all_goals (refine Q.r6 (h := ?_); repeat' (first | exact Q.r0 | refine Q.r1 ?_ ?_ | refine Q.r2 ?_ | exact Q.r7 | refine Q.r3 ?_ | refine Q.r4 ?_ | refine Q.r5 ?_))
    all_goals first | (rw [tst_eq, decide_eq_decide]; omega) | exact (decide_eq_false (by omega)).symm
  | false =>
    have hn := many_f.1 hm
    rw [decide_eq_false (by omega)]
    refine ⟨?_⟩; refine Spec.ofR (h := fun F w0 => ?_)
    repeat' ((conv => whnf); first | refine Q.a ?_ | refine Q.b ?_ | refine Q.c ?_ | refine Stk.is (by first | assumption | ((try simp only [lE]); first | done | assumption | omega)) ?_ | refine Stk.isnt (by first | assumption | ((try simp only [lE]); first | done | assumption | omega)) ?_ | (refine Stk.both (fun hb => ?_) (fun hb => ?_) <;> (try simp only [lE] at hb)) | refine Q.d ?_ | refine Q.e ?_ | refine Q.f ?_ | refine Q.g ?_ | refine Q.h ?_ | refine Q.i ?_ | refine Q.j ?_ | refine Q.k ?_ | refine Q.l ?_ | refine Q.m ?_ | refine Q.n ?_ | refine Q.o (h := ?_) | refine Q.p (h := ?_) | refine Q.q ?_ | refine Q.r ?_ | refine Q.s ?_ | refine Q.t ?_ | refine Q.u ?_ | refine Q.v ?_ | refine Q.w ?_ | refine Q.x ?_ | refine Q.y ?_ | refine Q.z ?_ | refine Stk.inl (h := fun tm => ?_) | refine Stk.inl0 (h := fun tm => ?_) | refine DefG.go (h := fun vs us => ?_) | intro (tm : Array Value) | refine Stk.op (ok_buildA rfl rfl rfl rfl) ?_ | refine Stk.scope ?_); all_goals (conv => whnf)
    all_goals (refine Q.r6 (h := ?_); repeat' (first | exact Q.r0 | refine Q.r1 ?_ ?_ | refine Q.r2 ?_ | exact Q.r7 | refine Q.r3 ?_ | refine Q.r4 ?_ | refine Q.r5 ?_))
theorem next_no {b s n : Int} (h : nextOk b s n = false) : nextI b s n = 0 ∧ nextX b s n = 2 := ⟨if_neg (by rw [h]; simp), if_neg (by rw [h]; simp)⟩
theorem next_yes {b s n : Int} (h : nextOk b s n = true) (h2 : nextT b s n ≤ 1000000) : nextI b s n = nextT b s n ∧ nextX b s n = 0 := ⟨(if_pos h).trans (if_pos h2), (if_pos h).trans (if_pos h2)⟩
theorem next_far {b s n : Int} (h : nextOk b s n = true) (h2 : ¬ nextT b s n ≤ 1000000) : nextI b s n = 0 ∧ nextX b s n = 8 := ⟨(if_pos h).trans (if_neg h2), (if_pos h).trans (if_neg h2)⟩
instance next_spec (b s n : Int) : HasSpec Tryz.prog 98 [PV.int b, PV.int s, PV.int n] (.tup [PV.int (nextI b s n), PV.int (nextX b s n)]) := by
  cases h : nextOk b s n with
  | false =>
    rw [(next_no h).1, (next_no h).2]
    have hk := of_decide_eq_false h
    cases hm : manyB n with
    | true =>
      have hn := many_iff.1 hm
      refine ⟨?_⟩; refine Spec.ofR (h := fun F w0 => ?_)
      repeat' ((conv => whnf); first | refine Q.a ?_ | refine Q.b ?_ | refine Q.c ?_ | refine Stk.is (by first | assumption | ((try simp only [lE]); first | done | assumption | omega)) ?_ | refine Stk.isnt (by first | assumption | ((try simp only [lE]); first | done | assumption | omega)) ?_ | (refine Stk.both (fun hb => ?_) (fun hb => ?_) <;> (try simp only [lE] at hb)) | refine Q.d ?_ | refine Q.e ?_ | refine Q.f ?_ | refine Q.g ?_ | refine Q.h ?_ | refine Q.i ?_ | refine Q.j ?_ | refine Q.k ?_ | refine Q.l ?_ | refine Q.m ?_ | refine Q.n ?_ | refine Q.o (h := ?_) | refine Q.p (h := ?_) | refine Q.q ?_ | refine Q.r ?_ | refine Q.s ?_ | refine Q.t ?_ | refine Q.u ?_ | refine Q.v ?_ | refine Q.w ?_ | refine Q.x ?_ | refine Q.y ?_ | refine Q.z ?_ | refine Stk.inl (h := fun tm => ?_) | refine Stk.inl0 (h := fun tm => ?_) | refine DefG.go (h := fun vs us => ?_) | intro (tm : Array Value) | refine Stk.op (ok_buildA rfl rfl rfl rfl) ?_ | refine Stk.scope ?_); all_goals (conv => whnf)
      all_goals first | (exfalso; omega) | (refine Q.r6 (h := ?_); repeat' (first | exact Q.r0 | refine Q.r1 ?_ ?_ | refine Q.r2 ?_ | exact Q.r7 | refine Q.r3 ?_ | refine Q.r4 ?_ | refine Q.r5 ?_))
    | false =>
      refine ⟨?_⟩; refine Spec.ofR (h := fun F w0 => ?_)
      repeat' ((conv => whnf); first | refine Q.a ?_ | refine Q.b ?_ | refine Q.c ?_ | refine Stk.is (by first | assumption | ((try simp only [lE]); first | done | assumption | omega)) ?_ | refine Stk.isnt (by first | assumption | ((try simp only [lE]); first | done | assumption | omega)) ?_ | (refine Stk.both (fun hb => ?_) (fun hb => ?_) <;> (try simp only [lE] at hb)) | refine Q.d ?_ | refine Q.e ?_ | refine Q.f ?_ | refine Q.g ?_ | refine Q.h ?_ | refine Q.i ?_ | refine Q.j ?_ | refine Q.k ?_ | refine Q.l ?_ | refine Q.m ?_ | refine Q.n ?_ | refine Q.o (h := ?_) | refine Q.p (h := ?_) | refine Q.q ?_ | refine Q.r ?_ | refine Q.s ?_ | refine Q.t ?_ | refine Q.u ?_ | refine Q.v ?_ | refine Q.w ?_ | refine Q.x ?_ | refine Q.y ?_ | refine Q.z ?_ | refine Stk.inl (h := fun tm => ?_) | refine Stk.inl0 (h := fun tm => ?_) | refine DefG.go (h := fun vs us => ?_) | intro (tm : Array Value) | refine Stk.op (ok_buildA rfl rfl rfl rfl) ?_ | refine Stk.scope ?_); all_goals (conv => whnf)
      all_goals (refine Q.r6 (h := ?_); repeat' (first | exact Q.r0 | refine Q.r1 ?_ ?_ | refine Q.r2 ?_ | exact Q.r7 | refine Q.r3 ?_ | refine Q.r4 ?_ | refine Q.r5 ?_))
  | true =>
    have hk := of_decide_eq_true h
    have hm := many_iff.2 ⟨hk.1, hk.2.1⟩
    have hx : 0 ≤ (max b n + 1 - 1) % n ∧ (max b n + 1 - 1) % n < n := ⟨Int.emod_nonneg _ (by omega), Int.emod_lt_of_pos _ (by omega)⟩
    have hy : 0 ≤ (s - ((max b n + 1 - 1) % n + 1) + n) % n ∧ (s - ((max b n + 1 - 1) % n + 1) + n) % n < n := ⟨Int.emod_nonneg _ (by omega), Int.emod_lt_of_pos _ (by omega)⟩
    by_cases h2 : nextT b s n ≤ 1000000
    · rw [(next_yes h h2).1, (next_yes h h2).2]
      unfold nextT at *
      refine ⟨?_⟩; refine Spec.ofR (h := fun F w0 => ?_)
      repeat' ((conv => whnf); first | refine Q.a ?_ | refine Q.b ?_ | refine Q.c ?_ | refine Stk.is (by first | assumption | ((try simp only [lE]); first | done | assumption | omega)) ?_ | refine Stk.isnt (by first | assumption | ((try simp only [lE]); first | done | assumption | omega)) ?_ | (refine Stk.both (fun hb => ?_) (fun hb => ?_) <;> (try simp only [lE] at hb)) | refine Q.d ?_ | refine Q.e ?_ | refine Q.f ?_ | refine Q.g ?_ | refine Q.h ?_ | refine Q.i ?_ | refine Q.j ?_ | refine Q.k ?_ | refine Q.l ?_ | refine Q.m ?_ | refine Q.n ?_ | refine Q.o (h := ?_) | refine Q.p (h := ?_) | refine Q.q ?_ | refine Q.r ?_ | refine Q.s ?_ | refine Q.t ?_ | refine Q.u ?_ | refine Q.v ?_ | refine Q.w ?_ | refine Q.x ?_ | refine Q.y ?_ | refine Q.z ?_ | refine Stk.inl (h := fun tm => ?_) | refine Stk.inl0 (h := fun tm => ?_) | refine DefG.go (h := fun vs us => ?_) | intro (tm : Array Value) | refine Stk.op (ok_buildA rfl rfl rfl rfl) ?_ | refine Stk.scope ?_); all_goals (conv => whnf)
      all_goals (refine Q.r6 (h := ?_); repeat' (first | exact Q.r0 | refine Q.r1 ?_ ?_ | refine Q.r2 ?_ | exact Q.r7 | refine Q.r3 ?_ | refine Q.r4 ?_ | refine Q.r5 ?_))
    · rw [(next_far h h2).1, (next_far h h2).2]
      unfold nextT at *
      refine ⟨?_⟩; refine Spec.ofR (h := fun F w0 => ?_)
      repeat' ((conv => whnf); first | refine Q.a ?_ | refine Q.b ?_ | refine Q.c ?_ | refine Stk.is (by first | assumption | ((try simp only [lE]); first | done | assumption | omega)) ?_ | refine Stk.isnt (by first | assumption | ((try simp only [lE]); first | done | assumption | omega)) ?_ | (refine Stk.both (fun hb => ?_) (fun hb => ?_) <;> (try simp only [lE] at hb)) | refine Q.d ?_ | refine Q.e ?_ | refine Q.f ?_ | refine Q.g ?_ | refine Q.h ?_ | refine Q.i ?_ | refine Q.j ?_ | refine Q.k ?_ | refine Q.l ?_ | refine Q.m ?_ | refine Q.n ?_ | refine Q.o (h := ?_) | refine Q.p (h := ?_) | refine Q.q ?_ | refine Q.r ?_ | refine Q.s ?_ | refine Q.t ?_ | refine Q.u ?_ | refine Q.v ?_ | refine Q.w ?_ | refine Q.x ?_ | refine Q.y ?_ | refine Q.z ?_ | refine Stk.inl (h := fun tm => ?_) | refine Stk.inl0 (h := fun tm => ?_) | refine DefG.go (h := fun vs us => ?_) | intro (tm : Array Value) | refine Stk.op (ok_buildA rfl rfl rfl rfl) ?_ | refine Stk.scope ?_); all_goals (conv => whnf)
      all_goals (refine Q.r6 (h := ?_); repeat' (first | exact Q.r0 | refine Q.r1 ?_ ?_ | refine Q.r2 ?_ | exact Q.r7 | refine Q.r3 ?_ | refine Q.r4 ?_ | refine Q.r5 ?_))
end Go.Proofs.YtbjepdfnmbdplaaGreat
end
section
namespace Go.Proofs.YtbjepdfnmbdplaaGreat
open Go.RowKit
set_option linter.unusedSimpArgs false
set_option linter.unusedVariables false
theorem ents_pw {l : List Ent} : entsB l = true ↔ l.length ≤ 40 ∧ (∀ x ∈ l, entB x = true) ∧ l.Pairwise (fun a b => a.id < b.id) := by
  rw [entsB_iff]
  refine ⟨fun ⟨h1, h2⟩ => ⟨h1, fun x hx => ?_, ?_⟩, fun ⟨h1, h2, h3⟩ => ⟨h1, fun i hi _ => ⟨h2 _ (List.getElem_mem hi), fun h0 => ?_⟩⟩⟩
  · obtain ⟨i, hi, rfl⟩ := List.getElem_of_mem hx
    exact (h2 i hi hi).1
  · rw [List.pairwise_iff_getElem]
    intro i j hi hj hij
    exact rise_lt h2 j hj i hij
  · rw [List.pairwise_iff_getElem] at h3
    exact h3 (i - 1) i (by omega) hi (by omega)
theorem find_mem {l : List Ent} {id : Int} (h : findB l id = true) : findT l id ∈ l ∧ (findT l id).id = id := by
  obtain ⟨k, hk, h0, h1⟩ := isId_first h
  rw [(find_at hk h0 h1).1]
  exact ⟨List.getElem_mem hk, of_decide_eq_true h1⟩
theorem find_uniq {l : List Ent} (hl : l.Pairwise (fun a b => a.id < b.id)) {x : Ent} (hx : x ∈ l) : findB l x.id = true ∧ findT l x.id = x := by
  have h1 : findB l x.id = true := List.any_eq_true.2 ⟨x, hx, decide_eq_true rfl⟩
  refine ⟨h1, ?_⟩
  obtain ⟨h2, h3⟩ := find_mem h1
  obtain ⟨i, hi, ei⟩ := List.getElem_of_mem h2
  obtain ⟨j, hj, ej⟩ := List.getElem_of_mem hx
  rw [List.pairwise_iff_getElem] at hl
  rcases Nat.lt_trichotomy i j with h | h | h
  · have := hl i j hi hj h
    rw [ei, ej] at this
    omega
  · subst h
    rw [← ei, ej]
  · have := hl j i hj hi h
    rw [ei, ej] at this
    omega
theorem find_not {l : List Ent} {id : Int} (h : findB l id = false) : ∀ x ∈ l, x.id ≠ id := fun x hx e => by
  have := List.any_eq_false.1 h x hx
  exact this (decide_eq_true e)
theorem put_mem {l : List Ent} {e : Ent} (hl : entsB l = true) (x : Ent) : x ∈ putE l e ↔ x = e ∨ (x ∈ l ∧ x.id ≠ e.id) := by
  have hr := (entsB_iff.1 hl).2
  obtain ⟨h40, h2, h3⟩ := ents_pw.1 hl
  obtain ⟨hs1, hs2⟩ := pos_split hr e.id
  unfold putE
  cases hf : findB l e.id with
  | true =>
    obtain ⟨hp, hid⟩ := pos_found hr hf
    rw [if_pos rfl]
    constructor
    · intro h
      obtain ⟨i, hi, rfl⟩ := List.getElem_of_mem h
      rw [List.length_set] at hi
      by_cases e1 : posE l e.id = i
      · left; rw [List.getElem_set, if_pos e1]
      · right
        rw [List.getElem_set, if_neg e1]
        refine ⟨List.getElem_mem hi, fun e2 => ?_⟩
        rw [List.pairwise_iff_getElem] at h3
        rcases Nat.lt_or_ge i (posE l e.id) with h | h
        · have := h3 i (posE l e.id) hi hp h; omega
        · have := h3 (posE l e.id) i hp hi (by omega); omega
    · rintro (rfl | ⟨hx, hne⟩)
      · exact List.mem_set hp _
      · obtain ⟨i, hi, rfl⟩ := List.getElem_of_mem hx
        have e1 : posE l e.id ≠ i := fun h => by subst h; exact hne hid
        have : (l.set (posE l e.id) e)[i]'(by rw [List.length_set]; exact hi) = l[i] := by rw [List.getElem_set, if_neg e1]
        rw [← this]
        exact List.getElem_mem _
  | false =>
    rw [if_neg (by simp)]
    have hn := find_not hf
    rw [List.mem_append, List.mem_append, List.mem_singleton]
    constructor
    · rintro ((h | h) | h)
      · exact .inr ⟨List.mem_of_mem_take h, hn x (List.mem_of_mem_take h)⟩
      · exact .inl h
      · exact .inr ⟨List.mem_of_mem_drop h, hn x (List.mem_of_mem_drop h)⟩
    · rintro (h | ⟨h, _⟩)
      · exact .inl (.inr h)
      · rw [← List.take_append_drop (posE l e.id) l, List.mem_append] at h
        exact h.imp .inl id
theorem put_pw {l : List Ent} {e : Ent} (hl : entsB l = true) : (putE l e).Pairwise (fun a b => a.id < b.id) := by
  have hr := (entsB_iff.1 hl).2
  obtain ⟨h40, h2, h3⟩ := ents_pw.1 hl
  obtain ⟨hs1, hs2⟩ := pos_split hr e.id
  unfold putE
  cases hf : findB l e.id with
  | true =>
    obtain ⟨hp, hid⟩ := pos_found hr hf
    rw [if_pos rfl, List.pairwise_iff_getElem]
    rw [List.pairwise_iff_getElem] at h3
    intro i j hi hj hij
    rw [List.length_set] at hi hj
    have hg : ∀ k (hk : k < l.length), ((l.set (posE l e.id) e)[k]'(by rw [List.length_set]; exact hk)).id = l[k].id := by
      intro k hk
      rw [List.getElem_set]
      split
      · rename_i h
        subst h
        exact hid.symm
      · rfl
    rw [hg i hi, hg j hj]
    exact h3 i j hi hj hij
  | false =>
    rw [if_neg (by simp), List.append_assoc, List.pairwise_append]
    have hn := pos_not hr hf
    have ht : ∀ a ∈ l.take (posE l e.id), a.id < e.id := fun a ha => by
      obtain ⟨i, hi, rfl⟩ := List.mem_take_iff_getElem.1 ha
      exact hs1 i (by omega) (by omega)
    have hd : ∀ b ∈ l.drop (posE l e.id), e.id < b.id := fun b hb => by
      obtain ⟨i, hi, rfl⟩ := List.mem_drop_iff_getElem.1 hb
      exact hn _ (by omega) (by omega)
    refine ⟨h3.sublist (List.take_sublist _ _), ?_, fun a ha b hb => ?_⟩
    · rw [List.singleton_append, List.pairwise_cons]
      exact ⟨hd, h3.sublist (List.drop_sublist _ _)⟩
    · rw [List.singleton_append, List.mem_cons] at hb
      rcases hb with rfl | hb
      · exact ht a ha
      · exact Int.lt_trans (ht a ha) (hd b hb)
theorem put_len {l : List Ent} {e : Ent} (hl : entsB l = true) (h0 : putX l e = 0) : (putE l e).length ≤ 40 := by
  have h40 := (entsB_iff.1 hl).1
  have hp := pos_le l e.id
  unfold putE
  split
  · rw [List.length_set]; exact h40
  · rename_i hf
    have h : l.length < 40 := by
      unfold putX at h0
      split at h0
      · cases h0
      · split at h0
        · assumption
        · cases h0
    simp only [List.length_append, List.length_take, List.length_drop, List.length_singleton]
    omega
theorem putX_ent {l : List Ent} {e : Ent} (h0 : putX l e = 0) : entsB l = true ∧ entB e = true := by
  unfold putX at h0
  split at h0
  · cases h0
  · rename_i h
    exact Classical.not_not.1 h
theorem put_ents {l : List Ent} {e : Ent} (h0 : putX l e = 0) : entsB (putE l e) = true := by
  obtain ⟨hl, he⟩ := putX_ent h0
  refine ents_pw.2 ⟨put_len hl h0, fun x hx => ?_, put_pw hl⟩
  rcases (put_mem hl x).1 hx with rfl | ⟨hx, _⟩
  · exact he
  · exact (ents_pw.1 hl).2.1 x hx
theorem put_find {l : List Ent} {e : Ent} (hl : entsB l = true) (id : Int) : (e.id = id → findB (putE l e) id = true ∧ findT (putE l e) id = e) ∧ (e.id ≠ id → findB l id = true → findB (putE l e) id = true ∧ findT (putE l e) id = findT l id) := by
  constructor
  · rintro rfl
    exact find_uniq (put_pw hl) ((put_mem hl e).2 (.inl rfl))
  · intro hne hf
    obtain ⟨h1, h2⟩ := find_mem hf
    have := find_uniq (put_pw hl) ((put_mem hl (findT l id)).2 (.inr ⟨h1, fun h => hne (by rw [← h, h2])⟩))
    rwa [h2] at this
theorem rput_parts {r : Rpl} {e : Ent} (h : rputX r e = 0) : repB r = true ∧ (1 ≤ selfI e.id ∧ selfI e.id ≤ r.n) ∧ ¬ (doneAt r e.id = true ∧ e.phase ≠ 6) ∧ putX r.entries e = 0 := by
  unfold rputX at h
  split at h
  · cases h
  · rename_i h1
    split at h
    · cases h
    · rename_i h2
      obtain ⟨h3, h4⟩ := Classical.not_not.1 h1
      exact ⟨h3, h4, h2, h⟩
theorem rep_ents {r : Rpl} (h : repB r = true) : entsB r.entries = true ∧ ∀ x ∈ r.entries, selfI x.id ≤ r.n := by
  have h2 := (rep_parts h).2.1
  unfold cmdB at h2
  rw [Bool.and_eq_true, Bool.not_eq_true'] at h2
  refine ⟨h2.1, fun x hx => ?_⟩
  have := List.any_eq_false.1 h2.2 x hx
  unfold farB at this
  rw [decide_eq_true_iff] at this
  omega
theorem bump_ge (now t : Int) : now ≤ bumpI now t := by unfold bumpI; split <;> omega
theorem bump_le {now t : Int} (h : now ≤ 1000000) : bumpI now t ≤ 1000000 := by unfold bumpI; split <;> omega
theorem clk_later {now now2 floor : Int} {own : List Att} (h : clkB now floor own = true) (h1 : now ≤ now2) (h2 : now2 ≤ 1000000) : clkB now2 floor own = true := by
  unfold clkB at h ⊢
  rw [Bool.and_eq_true, decide_eq_true_iff] at h
  rw [decide_eq_true (show 0 ≤ floor ∧ floor ≤ now2 ∧ now2 ≤ 1000000 by omega), Bool.true_and]
  refine pref_iff.2 fun i hi => ?_
  have := ownP_iff.1 (pref_iff.1 h.2 i hi)
  exact ownP_iff.2 ⟨⟨this.1.1, this.1.2.1, by omega, this.1.2.2.2⟩, this.2⟩
theorem clk_le {now floor : Int} {own : List Att} (h : clkB now floor own = true) : 0 ≤ floor ∧ floor ≤ now ∧ now ≤ 1000000 := by
  unfold clkB at h
  rw [Bool.and_eq_true, decide_eq_true_iff] at h
  exact h.1
theorem rep_with {r : Rpl} {l : List Ent} {c : Int} (h : repB r = true) (hl : entsB l = true) (hs : ∀ x ∈ l, selfI x.id ≤ r.n) (h1 : r.clock ≤ c) (h2 : c ≤ 1000000) : repB { r with entries := l, clock := c } = true := by
  obtain ⟨a1, a2, a3, a4⟩ := rep_parts h
  obtain ⟨b1, b2⟩ := nums_p a1
  have c1 : numsB { r with entries := l, clock := c } = true := by
    rw [nums_yes (r := { r with entries := l, clock := c }) b1]
    exact clk_later b2 h1 h2
  have c2 : cmdB { r with entries := l, clock := c } = true := by
    unfold cmdB
    show (entsB l && !l.any (farB r.n)) = true
    rw [hl, Bool.true_and, Bool.not_eq_true']
    exact List.any_eq_false.2 fun x hx => by
      unfold farB
      rw [decide_eq_true_iff]
      have := hs x hx
      omega
  unfold repB
  rw [c1, c2, show hrsB { r with entries := l, clock := c } = hrsB r from rfl, show finB { r with entries := l, clock := c } = finB r from rfl, a3, a4]
  rfl
theorem put_self {r : Rpl} {e : Ent} (h : rputX r e = 0) : ∀ x ∈ putE r.entries e, selfI x.id ≤ r.n := by
  obtain ⟨h1, h2, _, h4⟩ := rput_parts h
  obtain ⟨h5, h6⟩ := rep_ents h1
  intro x hx
  rcases (put_mem h5 x).1 hx with rfl | ⟨hx, _⟩
  · exact h2.2
  · exact h6 x hx
theorem rep_clock {r : Rpl} (h : repB r = true) : r.clock ≤ 1000000 := (clk_le (nums_p (rep_parts h).1).2).2.2
theorem rput_rep {r : Rpl} {e : Ent} (h : rputX r e = 0) : repB (rputR r e) = true := by
  obtain ⟨h1, h2, _, h4⟩ := rput_parts h
  rw [rputR_yes h]
  exact rep_with (c := r.clock) h1 (put_ents h4) (put_self h) (Int.le_refl _) (rep_clock h1)
theorem bmp_rep {r : Rpl} {e : Ent} {t : Int} (h : rputX r e = 0) : repB (bmpR r e t) = true := by
  obtain ⟨h1, h2, _, h4⟩ := rput_parts h
  unfold bmpR
  rw [if_pos h]
  exact rep_with h1 (put_ents h4) (put_self h) (bump_ge _ _) (bump_le (rep_clock h1))
structure Stays (r s : Rpl) : Prop where
  n : s.n = r.n
  f : s.f = r.f
  self : s.self = r.self
  seq : s.seq = r.seq
  clock : r.clock ≤ s.clock
  rep : repB r = true → repB s = true
theorem Stays.refl (r : Rpl) : Stays r r := ⟨rfl, rfl, rfl, rfl, Int.le_refl _, id⟩
theorem Stays.trans {r s u : Rpl} (h : Stays r s) (k : Stays s u) : Stays r u := ⟨k.n.trans h.n, k.f.trans h.f, k.self.trans h.self, k.seq.trans h.seq, Int.le_trans h.clock k.clock, fun x => k.rep (h.rep x)⟩
theorem rput_stays (r : Rpl) (e : Ent) : Stays r (rputR r e) := by
  by_cases h : rputX r e = 0
  · exact ⟨by rw [rputR_yes h], by rw [rputR_yes h], by rw [rputR_yes h], by rw [rputR_yes h], by rw [rputR_yes h]; exact Int.le_refl _, fun _ => rput_rep h⟩
  · rw [rputR_no h]; exact .refl r
theorem bmp_stays (r : Rpl) (e : Ent) (t : Int) : Stays r (bmpR r e t) := by
  by_cases h : rputX r e = 0
  · have e1 : bmpR r e t = { r with entries := putE r.entries e, clock := bumpI r.clock t } := if_pos h
    exact ⟨by rw [e1], by rw [e1], by rw [e1], by rw [e1], by rw [e1]; exact bump_ge _ _, fun _ => bmp_rep h⟩
  · rw [show bmpR r e t = r from if_neg h]; exact .refl r
theorem lrn_stays (r : Rpl) (id q : Int) (p : ByteArray) : Stays r (lrnR r id q p) := by
  unfold lrnR
  split
  · split
    · exact .refl r
    · split
      · exact rput_stays r _
      · exact .refl r
  · exact .refl r
theorem lrn_rep {r : Rpl} {id q : Int} {p : ByteArray} (h : lrnB r id q p = true) : repB (lrnR r id q p) = true := by
  unfold lrnB at h
  split at h
  · rename_i hc
    exact (lrn_stays r id q p).rep hc.1
  · cases h
theorem lrn_find {r : Rpl} {id q : Int} {p : ByteArray} (h : lrnB r id q p = true) : findB (lrnR r id q p).entries id = true ∧ findT (lrnR r id q p).entries id = lrnE r id q p := by
  unfold lrnB at h
  split at h
  · rename_i hc
    by_cases hf : findB r.entries id = true
    · rw [show lrnR r id q p = r from (if_pos hc).trans (if_pos hf), show lrnE r id q p = findT r.entries id from (if_pos hc).trans (if_pos hf)]
      exact ⟨hf, rfl⟩
    · rw [if_neg hf] at h
      split at h
      · rename_i he
        rw [show lrnR r id q p = rputR r (.new id q p) from (if_pos hc).trans ((if_neg hf).trans (if_pos he.1)), show lrnE r id q p = .new id q p from (if_pos hc).trans ((if_neg hf).trans (if_pos he)), rputR_yes he.2]
        exact (put_find (rep_ents hc.1).1 id).1 rfl
      · cases h
  · cases h
theorem lrn_ent {r : Rpl} {id q : Int} {p : ByteArray} (h : lrnB r id q p = true) : entB (lrnE r id q p) = true := by
  obtain ⟨h1, h2⟩ := lrn_find h
  rw [← h2]
  exact (ents_pw.1 (rep_ents (lrn_rep h)).1).2.1 _ (find_mem h1).1
theorem lrn_id {r : Rpl} {id q : Int} {p : ByteArray} (h : lrnB r id q p = true) : (lrnE r id q p).id = id := by
  obtain ⟨h1, h2⟩ := lrn_find h
  rw [← h2]
  exact (find_mem h1).2
theorem lrn_self {r : Rpl} {id q : Int} {p : ByteArray} : (lrnR r id q p).self = r.self := (lrn_stays r id q p).self
theorem tk_stays (r : Rpl) (e : Ent) (t b : Int) : Stays r (tkR r e t b) := by
  unfold tkR
  split
  · exact bmp_stays _ _ _
  · exact .refl r
theorem find_ent {r : Rpl} {id : Int} (h : repB r = true) (hf : findB r.entries id = true) : entB (findT r.entries id) = true := (ents_pw.1 (rep_ents h).1).2.1 _ (find_mem hf).1
end Go.Proofs.YtbjepdfnmbdplaaGreat
end
