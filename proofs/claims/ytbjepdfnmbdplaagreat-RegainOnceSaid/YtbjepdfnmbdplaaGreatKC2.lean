/- Texts joined by wip/gen/kpack.py: PB Ty. -/
import Derived.IntWalk
import Derived.MapKept
import Derived.ProofKit
import Derived.OpenShut
import Derived.Deep.Slices
import Derived.Deep.Fields
import Derived.Laws.StructEq
import Derived.LoopN
import Derived.Test.YtbjepdfnmbdplaaGreatChecked
import Derived.Test.YtbjepdfnmbdplaaGreatKC1
section
namespace Go.Proofs.YtbjepdfnmbdplaaGreat
set_option linter.unusedSimpArgs false
set_option linter.unusedVariables false
set_option linter.unusedSectionVars false
open Go.RowKit
noncomputable def tst (p : Prop) : Bool := @decide p (Classical.propDecidable p)
theorem tst_eq (p : Prop) [h : Decidable p] : tst p = decide p := by
  unfold tst
  by_cases hp : p
  · rw [decide_eq_true hp, @decide_eq_true p (Classical.propDecidable p) hp]
  · rw [decide_eq_false hp, @decide_eq_false p (Classical.propDecidable p) hp]
theorem tst_true {p : Prop} : tst p = true ↔ p := by unfold tst; exact @decide_eq_true_iff p (Classical.propDecidable p)
theorem tst_false {p : Prop} : tst p = false ↔ ¬ p := by unfold tst; exact @decide_eq_false_iff_not p (Classical.propDecidable p)
theorem i64_wrap {a : Int} (h1 : -9223372036854775808 ≤ a) (h2 : a ≤ 9223372036854775807) : IntKind.i64.wrap a = a := IntWalk.i64_in _ ⟨h1, h2⟩
theorem str_beq (x y : ByteArray) : (x.toList == y.toList) = decide (x = y) := by
  rw [← beq_toListBytes]
  cases h : x == y
  · symm
    apply decide_eq_false
    intro e
    rw [(MapKept.bytes_beq x y).2 e] at h
    cases h
  · symm
    apply decide_eq_true
    exact (MapKept.bytes_beq x y).1 h
section
variable {P : Program} {σ : St} {dst : Option Tmp} {ty : TypeId} {pos : String} {after : Array Edge} {guard : Option (Nat × Bool)} {t yt : TypeId} {x y : Operand} {a b : Int} {k : IntKind}
theorem ok_lss (hx : σ.ev x = some (.v (.int k a)) := by rfl) (hy : σ.ev y = some (.v (.int k b)) := by rfl) (hd : inB σ dst = true := by rfl) : OpOK P ⟨dst, .binOp .lss t x y yt, ty, pos, after, guard⟩ σ (.v (.bool (tst (a < b)))) [] :=
  ok_bin hx hy (fun w => by simp [eqGuard, binOp, Op.intCmp, tst_eq]) hd
theorem ok_leq (hx : σ.ev x = some (.v (.int k a)) := by rfl) (hy : σ.ev y = some (.v (.int k b)) := by rfl) (hd : inB σ dst = true := by rfl) : OpOK P ⟨dst, .binOp .leq t x y yt, ty, pos, after, guard⟩ σ (.v (.bool (tst (a ≤ b)))) [] :=
  ok_bin hx hy (fun w => by simp [eqGuard, binOp, Op.intCmp, tst_eq]) hd
theorem ok_gtr (hx : σ.ev x = some (.v (.int k a)) := by rfl) (hy : σ.ev y = some (.v (.int k b)) := by rfl) (hd : inB σ dst = true := by rfl) : OpOK P ⟨dst, .binOp .gtr t x y yt, ty, pos, after, guard⟩ σ (.v (.bool (tst (b < a)))) [] :=
  ok_bin hx hy (fun w => by simp [eqGuard, binOp, Op.intCmp, tst_eq]) hd
theorem ok_geq (hx : σ.ev x = some (.v (.int k a)) := by rfl) (hy : σ.ev y = some (.v (.int k b)) := by rfl) (hd : inB σ dst = true := by rfl) : OpOK P ⟨dst, .binOp .geq t x y yt, ty, pos, after, guard⟩ σ (.v (.bool (tst (b ≤ a)))) [] :=
  ok_bin hx hy (fun w => by simp [eqGuard, binOp, Op.intCmp, tst_eq]) hd
theorem ok_eql (hx : σ.ev x = some (.v (.int k a)) := by rfl) (hy : σ.ev y = some (.v (.int k b)) := by rfl) (hd : inB σ dst = true := by rfl) : OpOK P ⟨dst, .binOp .eql t x y yt, ty, pos, after, guard⟩ σ (.v (.bool (tst (a = b)))) [] :=
  ok_bin hx hy (fun w => by simp [eqGuard, binOp, Op.intCmp, tst_eq]; rfl) hd
theorem ok_neq (hx : σ.ev x = some (.v (.int k a)) := by rfl) (hy : σ.ev y = some (.v (.int k b)) := by rfl) (hd : inB σ dst = true := by rfl) : OpOK P ⟨dst, .binOp .neq t x y yt, ty, pos, after, guard⟩ σ (.v (.bool (!tst (a = b)))) [] :=
  ok_bin hx hy (fun w => by simp [eqGuard, binOp, Op.intCmp, tst_eq]; rfl) hd
theorem ok_eqlS {a b : ByteArray} (hx : σ.ev x = some (.v (.string a)) := by rfl) (hy : σ.ev y = some (.v (.string b)) := by rfl) (hd : inB σ dst = true := by rfl) : OpOK P ⟨dst, .binOp .eql t x y yt, ty, pos, after, guard⟩ σ (.v (.bool (tst (a = b)))) [] :=
  ok_bin hx hy (fun w => by simp [eqGuard, binOp, Op.stringOp, str_beq, tst_eq]) hd
theorem ok_neqS {a b : ByteArray} (hx : σ.ev x = some (.v (.string a)) := by rfl) (hy : σ.ev y = some (.v (.string b)) := by rfl) (hd : inB σ dst = true := by rfl) : OpOK P ⟨dst, .binOp .neq t x y yt, ty, pos, after, guard⟩ σ (.v (.bool (!tst (a = b)))) [] :=
  ok_bin hx hy (fun w => by simp [eqGuard, binOp, Op.stringOp, str_beq, tst_eq]) hd
theorem run_eqlB (hu : P.underlying t = some .bool) (a b : Bool) (w : World) : (Op.equal t (.bool a) (.bool b)).run P w = .ok (a == b) w := run_equalIn_bool' w 9999 t a b hu
theorem ok_eqlB {a b : Bool} [hu : BoolT P t] (hx : σ.ev x = some (.v (.bool a)) := by rfl) (hy : σ.ev y = some (.v (.bool b)) := by rfl) (hd : inB σ dst = true := by rfl) : OpOK P ⟨dst, .binOp .eql t x y yt, ty, pos, after, guard⟩ σ (.v (.bool (a == b))) [] :=
  ok_bin hx hy (fun w => by simp [eqGuard, binOp, run_eqlB hu.h]) hd
theorem ok_neqB {a b : Bool} [hu : BoolT P t] (hx : σ.ev x = some (.v (.bool a)) := by rfl) (hy : σ.ev y = some (.v (.bool b)) := by rfl) (hd : inB σ dst = true := by rfl) : OpOK P ⟨dst, .binOp .neq t x y yt, ty, pos, after, guard⟩ σ (.v (.bool (!(a == b)))) [] :=
  ok_bin hx hy (fun w => by simp [eqGuard, binOp, run_eqlB hu.h]) hd
theorem ok_not {a : Bool} (hx : σ.ev x = some (.v (.bool a)) := by rfl) (hd : inB σ dst = true := by rfl) : OpOK P ⟨dst, .unOp .not t x, ty, pos, after, guard⟩ σ (.v (.bool (!a))) [] :=
  ok_un hx (fun w => by simp [Op.unary]) hd
end
section
variable {P : Program} {σ : St} {dst : Option Tmp} {ty : TypeId} {pos : String} {after : Array Edge} {guard : Option (Nat × Bool)}
theorem ok_loadA_ptr {t : TypeId} {x : Operand} {n : Nat} {cs : List PV} [ht : TySz P t true n] (hx : σ.ev x = some (.ptr cs) := by rfl) (hn : Nat.beq cs.length n = true := by rfl) (hd : inB σ dst = true := by rfl) : OpOK P ⟨dst, .load t x, ty, pos, after, guard⟩ σ (.agg cs) [] := by
  have e := Nat.eq_of_beq_eq_true hn
  have h := ok_loadN_ptr (P := P) (σ := σ) (dst := dst) (ty := ty) (pos := pos) (after := after) (guard := guard) (t := t) hx (by rw [Nat.ble_eq]; omega) hd
  rwa [List.take_of_length_le (by omega)] at h
theorem ok_loadA_lp {t : TypeId} {x : Operand} {id n : Nat} {cells : List PV} [ht : TySz P t true n] (hx : σ.ev x = some (.lp id 0) := by rfl) (hb : σ.blk id = some (.box cells) := by rfl) (hn : Nat.beq cells.length n = true := by rfl) (hd : inB σ dst = true := by rfl) : OpOK P ⟨dst, .load t x, ty, pos, after, guard⟩ σ (.agg cells) [] := by
  have e := Nat.eq_of_beq_eq_true hn
  have h := ok_loadN_lp (P := P) (σ := σ) (dst := dst) (ty := ty) (pos := pos) (after := after) (guard := guard) (t := t) hx hb (by rw [Nat.ble_eq]; omega) hd
  rwa [List.drop_zero, List.take_of_length_le (by omega)] at h
theorem putL_full {α : Type} : ∀ (ps cs pre : List α), cs.length = ps.length → putL (pre ++ cs) pre.length ps = pre ++ ps
  | [], cs, pre, h => by
    have : cs = [] := List.eq_nil_of_length_eq_zero h
    subst this
    rfl
  | p :: ps, [], pre, h => by simp at h
  | p :: ps, c :: cs, pre, h => by
    rw [putL, List.set_append_right _ _ (Nat.le_refl _), Nat.sub_self, List.set_cons_zero]
    have := putL_full ps cs (pre ++ [p]) (by simpa using h)
    rw [List.length_append, List.length_singleton, List.append_assoc, List.append_assoc] at this
    exact this
end
section
variable {P : Program} {X : XF} {w0 : World} {ops : Array Oper} {l : List Oper} {nt d : Nat} {env : List (Nat × PV)} {lh : List (Nat × LB)} {op : Op} {ty : TypeId} {pos : String} {after : Array Edge} {p : PV} {K : St → Prop}
theorem RW.st (h : OpOK P ⟨some d, op, ty, pos, after, none⟩ ⟨nt, env, lh⟩ p []) (k : RW P X w0 ops l ⟨nt, (d, p) :: env, lh⟩ K) : RW P X w0 ops (⟨some d, op, ty, pos, after, none⟩ :: l) ⟨nt, env, lh⟩ K := RW.ok rfl h k
theorem RW.stB {b : LB} (h : OpOK P ⟨some d, op, ty, pos, after, none⟩ ⟨nt, env, lh⟩ p [(d, b)]) (hn : look d lh = none) (k : RW P X w0 ops l ⟨nt, (d, p) :: env, (d, b) :: lh⟩ K) : RW P X w0 ops (⟨some d, op, ty, pos, after, none⟩ :: l) ⟨nt, env, lh⟩ K := RW.okB rfl h hn k
theorem RW.stE {o : Oper} {σ' : St} (hg : o.guard = none) (h : OpEff P o ⟨nt, env, lh⟩ σ') (k : RW P X w0 ops l σ' K) : RW P X w0 ops (o :: l) ⟨nt, env, lh⟩ K := RW.eff hg h k
theorem RW.stS {o : Oper} {id : Nat} {b : LB} (hg : o.guard = none) (h : OpEff P o ⟨nt, env, lh⟩ (St.setB ⟨nt, env, lh⟩ id b)) (k : RW P X w0 ops l ⟨nt, env, (id, b) :: lh⟩ K) : RW P X w0 ops (o :: l) ⟨nt, env, lh⟩ K := RW.eff hg h k
theorem RW.stA {o : Oper} {id d : Nat} {b : LB} {p : PV} (hg : o.guard = none) (h : OpEff P o ⟨nt, env, lh⟩ ((St.setB ⟨nt, env, lh⟩ id b).put (some d) p)) (k : RW P X w0 ops l ⟨nt, (d, p) :: env, (id, b) :: lh⟩ K) : RW P X w0 ops (o :: l) ⟨nt, env, lh⟩ K := RW.eff hg h k
structure DW (P : Program) (ops : Array Oper) (i : Nat) (l : List Oper) (σ : St) (K : St → Prop) : Prop where
  ex : ∃ σe, DRun P ops i l σ σe ∧ K σe
theorem OpOK.unguard {g : Option (Nat × Bool)} {σ : St} {nb : List (Nat × LB)} (h : OpOK P ⟨some d, op, ty, pos, after, none⟩ σ p nb) : OpOK P ⟨some d, op, ty, pos, after, g⟩ σ p nb := ⟨fun σ' hag hn => ⟨fun X w0 a w μ K Q s hK =>
  (h.run σ' ⟨hag.nt, hag.ev, hag.blk⟩ hn).run X w0 a w μ K Q s hK⟩⟩
theorem Weak.bool {X : XF} {w0 : World} {t : Nat} {b want : Bool} (hb : look t env = some (.v (.bool b))) (h : b = want) : Weak X w0 ⟨nt, env, lh⟩ ⟨nt, (t, .v (.bool want)) :: env, lh⟩ := ⟨fun a w μ s => ⟨μ, s.less rfl (fun t' p hp => by
  have hp' : look t' ((t, .v (.bool want)) :: env) = some p := hp
  by_cases e : t' = t
  · subst e; rw [look_cons_eq] at hp'; injection hp' with hp'; subst hp'; rw [← h]; exact hb
  · rw [look_cons_ne e] at hp'; exact hp') (fun _ => rfl)⟩⟩
theorem RW.gdS {j t : Nat} {want b : Bool} {oj : Oper} (hj : ops[j]? = some oj) (hd : oj.dst = some t) (hb : look t env = some (.v (.bool b))) (hdst : Nat.blt d nt = true)
    (hy : b = want → RW P X w0 ops (⟨some d, op, ty, pos, after, none⟩ :: l) ⟨nt, (t, .v (.bool want)) :: env, lh⟩ K) (hn : b = (!want) → RW P X w0 ops l ⟨nt, (d, .v undef) :: (t, .v (.bool (!want))) :: env, lh⟩ K) : RW P X w0 ops (⟨some d, op, ty, pos, after, some (j, want)⟩ :: l) ⟨nt, env, lh⟩ K :=
  RW.guard rfl hj hd hb hdst (fun e => RW.weak (Weak.bool hb e) (hy e)) (fun e => RW.weak (by
    refine ⟨fun a w μ s => ?_⟩
    have hb' : look t ((d, .v undef) :: env) = some (.v (.bool b)) ∨ t = d := by
      by_cases h : t = d
      · exact .inr h
      · rw [look_cons_ne h]; exact .inl hb
    refine ⟨μ, s.less rfl (fun t' p hp => ?_) (fun _ => rfl)⟩
    have hp' : look t' ((d, .v undef) :: (t, .v (.bool (!want))) :: env) = some p := hp
    show look t' ((d, .v undef) :: env) = some p
    by_cases e1 : t' = d
    · subst e1; rw [look_cons_eq] at hp' ⊢; exact hp'
    · rw [look_cons_ne e1] at hp' ⊢
      by_cases e2 : t' = t
      · subst e2; rw [look_cons_eq] at hp'; injection hp' with hp'; subst hp'; rw [← e]; exact hb
      · rw [look_cons_ne e2] at hp'; exact hp') (hn e))
theorem PW.cond_t {c : Operand} {x y : Code} {σ : St} {K : Exit → St → Prop} (hc : σ.ev c = some (.v (.bool true))) (h : PW P X w0 x σ K) : PW P X w0 (.cond c x y) σ K := PW.cond hc (fun _ => h) (fun e => by cases e)
theorem PW.cond_f {c : Operand} {x y : Code} {σ : St} {K : Exit → St → Prop} (hc : σ.ev c = some (.v (.bool false))) (h : PW P X w0 y σ K) : PW P X w0 (.cond c x y) σ K := PW.cond hc (fun e => by cases e) (fun _ => h)
end
mutual
def PV.noId (id : Nat) : PV → Bool
  | .lp i _ | .row i _ | .rp i _ _ _ _ | .rs i _ _ _ _ | .mo i => !Nat.beq i id
  | .agg cs | .tup cs => noIdL id cs
  | .fn _ a b => noIdL id a && noIdL id b
  | .ifc _ x => x.noId id
  | _ => true
def noIdL (id : Nat) : List PV → Bool
  | [] => true
  | c :: cs => c.noId id && noIdL id cs
end
def LMap.del (μ : LMap) (id : Nat) : LMap := ⟨μ.F, fun k => if k = id then Option.none else μ.m k⟩
theorem LMap.del_ne (μ : LMap) {id k : Nat} (h : k ≠ id) : (μ.del id).m k = μ.m k := if_neg h
theorem LMap.del_eq (μ : LMap) (id : Nat) : (μ.del id).m id = Option.none := if_pos rfl
theorem LMap.del_owns {μ : LMap} {id g : Nat} (h : (μ.del id).owns g) : μ.owns g := by
  rcases h with h | ⟨k, l, hl, hb⟩
  · exact .inl h
  · by_cases e : k = id
    · subst e; rw [LMap.del_eq] at hl; cases hl
    · rw [LMap.del_ne _ e] at hl; exact .inr ⟨k, l, hl, hb⟩
theorem Later.del {w : World} {μ : LMap} {id : Nat} : Later w μ.shut w (μ.del id).shut :=
  ⟨fun a u hc ho => ⟨hc, fun h => ho (by rw [LMap.shut_owns] at h ⊢; exact LMap.del_owns h)⟩, fun _ _ h => (by cases h), fun _ _ _ h => (by cases h), fun g es c hg ho => ⟨hg, fun h => ho (by rw [LMap.shut_owns] at h ⊢; exact LMap.del_owns h)⟩⟩
theorem beq_ne {a b : Nat} (h : (!Nat.beq a b) = true) : a ≠ b := by
  intro e
  subst e
  simp at h
mutual
theorem Rep.del {w : World} {μ : LMap} {id : Nat} : ∀ (p : PV) (y : Value), p.noId id = true → Rep w μ p y → Rep w (μ.del id) p y
  | .v _, _, _, r => r
  | .any, _, _, _ => trivial
  | .agg cs, _, h, ⟨vs, e, r, h1⟩ => ⟨vs, e, RepL.del cs vs (by simpa [PV.noId] using h) r, h1⟩
  | .tup cs, _, h, ⟨vs, e, r⟩ => ⟨vs, e, RepL.del cs vs (by simpa [PV.noId] using h) r⟩
  | .sl sz xs, _, _, ⟨A, c, e, h1, h2, r⟩ => ⟨A, c, e, h1, h2, RepR.later Later.del A sz xs 0 r⟩
  | .ptr cs, _, _, ⟨a, e, r⟩ => ⟨a, e, RepC.later Later.del (some a) cs 0 r⟩
  | .lp i o, _, h, ⟨g, hg, e⟩ => ⟨g, by rw [LMap.del_ne _ (beq_ne h)]; exact hg, e⟩
  | .row i ver, _, h, ⟨z, k, hz, r⟩ => ⟨z, k, by rw [LMap.del_ne _ (beq_ne h)]; exact hz, r⟩
  | .rp i ver _ _ _, _, h, ⟨z, k, hz, r⟩ => ⟨z, k, by rw [LMap.del_ne _ (beq_ne h)]; exact hz, r⟩
  | .own _ _ _, _, _, r => r
  | .fn _ first caps, _, h, ⟨vs, us, e, r1, r2⟩ => by
    simp only [PV.noId, Bool.and_eq_true] at h
    exact ⟨vs, us, e, RepL.del first vs h.1 r1, RepL.del caps us h.2 r2⟩
  | .ifc _ x, _, h, ⟨z, e, r⟩ => ⟨z, e, Rep.del x z (by simpa [PV.noId] using h) r⟩
  | .rs i ver _ _ _, _, h, ⟨z, k, hz, r⟩ => ⟨z, k, by rw [LMap.del_ne _ (beq_ne h)]; exact hz, r⟩
  | .mp _, _, _, ⟨g, es, clk, e, hg, ho, hm⟩ => ⟨g, es, clk, e, hg, fun h => ho (LMap.del_owns h), hm⟩
  | .mo i, _, h, ⟨g, hg, e⟩ => ⟨g, by rw [LMap.del_ne _ (beq_ne h)]; exact hg, e⟩
theorem RepL.del {w : World} {μ : LMap} {id : Nat} : ∀ (cs : List PV) (vs : List Value), noIdL id cs = true → RepL w μ cs vs → RepL w (μ.del id) cs vs
  | [], _, _, r => r
  | c :: cs, _, h, ⟨u, us, e, r1, r2⟩ => by
    simp only [noIdL, Bool.and_eq_true] at h
    exact ⟨u, us, e, Rep.del c u h.1 r1, RepL.del cs us h.2 r2⟩
end
def LB.noId (id : Nat) : LB → Bool
  | .box cells => noIdL id cells
  | .row _ _ _ xs => xs.all (noIdL id)
  | _ => true
theorem noIdL_append {id : Nat} : ∀ {a b : List PV}, noIdL id a = true → noIdL id b = true → noIdL id (a ++ b) = true
  | [], _, _, h => h
  | c :: a, _, h1, h2 => by
    simp only [noIdL, Bool.and_eq_true, List.cons_append] at h1 ⊢
    exact ⟨h1.1, noIdL_append h1.2 h2⟩
theorem noIdL_flatten {id : Nat} : ∀ {xs : List (List PV)}, xs.all (noIdL id) = true → noIdL id xs.flatten = true
  | [], _ => rfl
  | e :: es, h => by
    rw [List.all_cons, Bool.and_eq_true] at h
    rw [List.flatten_cons]
    exact noIdL_append h.1 (noIdL_flatten h.2)
def frNo (id : Nat) (l : List (List (Nat × PV) × Array Value)) : Bool := l.all fun e => e.1.all fun (_, p) => p.noId id
theorem look_mem {α : Type} {k : Nat} {x : α} : ∀ {l : List (Nat × α)}, look k l = some x → (k, x) ∈ l
  | [], h => by cases h
  | (j, y) :: l, h => by
    by_cases e : k = j
    · subst e; rw [look_cons_eq] at h; injection h with h; subst h; exact List.mem_cons_self ..
    · rw [look_cons_ne e] at h; exact List.mem_cons_of_mem _ (look_mem h)
theorem frNo_del {X : XF} {w : World} {μ : LMap} {id : Nat} (h : frNo id X.fr = true) (f : FrOK X w μ) : FrOK X w (μ.del id) := fun e he t p hp => by
  obtain ⟨y, hy, r⟩ := f e he t p hp
  have h1 := List.all_eq_true.1 (List.all_eq_true.1 h e he) (t, p) (look_mem hp)
  exact ⟨y, hy, Rep.del p y h1 r⟩
theorem SimM.del {X : XF} {w0 w : World} {σ : St} {a : Act} {μ : LMap} (s : SimM X w0 σ a w μ) (id : Nat) (hfr : frNo id X.fr = true) {env : List (Nat × PV)} {lh : List (Nat × LB)}
    (he : ∀ t p, look t env = some p → ∃ y, a.tmps[t]? = some y ∧ Rep w (μ.del id) p y)
    (hb : ∀ k b, look k lh = some b → k ≠ id ∧ b.noId id = true ∧ σ.blk k = some b) (hb' : ∀ k, k ≠ id → look k lh = none → σ.blk k = none) : SimM X w0 ⟨σ.nt, env, lh⟩ a w (μ.del id) := by
  refine ⟨s.nt, s.defers, s.keep, s.F, s.hF, s.hX, frNo_del hfr s.fr, he, ?_, ?_, ?_, ?_⟩
  · intro k b hk
    obtain ⟨hne, hno, hkb⟩ := hb k b hk
    have hok := s.blk k b hkb
    cases b with
    | box cells =>
      obtain ⟨g, cs, ty, hm, hg, r, h1⟩ := hok
      exact ⟨g, cs, ty, by rw [LMap.del_ne _ hne]; exact hm, hg, RepL.del _ _ hno r, h1⟩
    | row ty sz ver xs =>
      obtain ⟨y, vs, hm, hown, r, h1, h2⟩ := hok
      exact ⟨y, vs, by rw [LMap.del_ne _ hne]; exact hm, hown, RepL.del _ _ (noIdL_flatten hno) r, h1, h2⟩
    | mp kv =>
      obtain ⟨g, es, clk, hm, r⟩ := hok
      exact ⟨g, es, clk, by rw [LMap.del_ne _ hne]; exact hm, r⟩
    | it kv seen =>
      obtain ⟨g, gm, es, clk, bs, hm, hg, hgm, ho, r⟩ := hok
      exact ⟨g, gm, es, clk, bs, by rw [LMap.del_ne _ hne]; exact hm, hg, hgm, fun h => ho (LMap.del_owns h), r⟩
  · intro k l hk
    by_cases e : k = id
    · subst e; rw [LMap.del_eq] at hk; cases hk
    · rw [LMap.del_ne _ e] at hk
      obtain ⟨b, hkb⟩ := s.dom k l hk
      cases hl : look k lh with
      | none => rw [hb' k e hl] at hkb; cases hkb
      | some b' => exact ⟨b', hl⟩
  · intro k k' l l' g h1 h2 g1 g2
    by_cases e : k = id
    · subst e; rw [LMap.del_eq] at h1; cases h1
    · by_cases e' : k' = id
      · subst e'; rw [LMap.del_eq] at h2; cases h2
      · rw [LMap.del_ne _ e] at h1
        rw [LMap.del_ne _ e'] at h2
        exact s.apart k k' l l' g h1 h2 g1 g2
  · intro k l g hk hg
    by_cases e : k = id
    · subst e; rw [LMap.del_eq] at hk; cases hk
    · rw [LMap.del_ne _ e] at hk
      exact s.fresh k l g hk hg
def frzE (σ : St) (id : Nat) (old new : PV) : List (Nat × PV) → Prop
  | [] => True
  | (t, p) :: l => ((σ.get t = some p ∧ p.noId id = true) ∨ (σ.get t = some old ∧ p = new)) ∧ frzE σ id old new l
theorem frzE_get {σ : St} {id : Nat} {old new : PV} : ∀ {l : List (Nat × PV)}, frzE σ id old new l → ∀ t p, look t l = some p → (σ.get t = some p ∧ p.noId id = true) ∨ (σ.get t = some old ∧ p = new)
  | [], _, _, _, h => by cases h
  | (j, q) :: l, hs, t, p, h => by
    by_cases e : t = j
    · subst e; rw [look_cons_eq] at h; injection h with h; subst h; exact hs.1
    · rw [look_cons_ne e] at h; exact frzE_get hs.2 t p h
def frzB (σ : St) (id : Nat) : List (Nat × LB) → Prop
  | [] => True
  | (k, b) :: l => (k ≠ id ∧ b.noId id = true ∧ σ.blk k = some b) ∧ frzB σ id l
theorem frzB_get {σ : St} {id : Nat} : ∀ {l : List (Nat × LB)}, frzB σ id l → ∀ k b, look k l = some b → k ≠ id ∧ b.noId id = true ∧ σ.blk k = some b
  | [], _, _, _, h => by cases h
  | (j, q) :: l, hs, t, p, h => by
    by_cases e : t = j
    · subst e; rw [look_cons_eq] at h; injection h with h; subst h; exact hs.1
    · rw [look_cons_ne e] at h; exact frzB_get hs.2 t p h
def keepsB (lh new : List (Nat × LB)) (id : Nat) : Bool := lh.all fun (k, _) => Nat.beq k id || new.any fun (j, _) => Nat.beq j k
theorem keepsB_spec {lh new : List (Nat × LB)} {id : Nat} (h : keepsB lh new id = true) : ∀ k, k ≠ id → look k new = none → look k lh = none := by
  have hnone : ∀ (l : List (Nat × LB)) (k : Nat), (∀ b, (k, b) ∉ l) → look k l = none := by
    intro l
    induction l with
    | nil => intro _ _; rfl
    | cons x l ih =>
      obtain ⟨j, b⟩ := x
      intro k hk
      rw [look_cons_ne (fun e => hk b (by rw [e]; exact List.mem_cons_self ..))]
      exact ih k (fun b' hb => hk b' (List.mem_cons_of_mem _ hb))
  have hsome : ∀ (l : List (Nat × LB)) (k : Nat), look k l = none → ∀ b, (k, b) ∉ l := by
    intro l
    induction l with
    | nil => intro _ _ b hb; cases hb
    | cons x l ih =>
      obtain ⟨j, b0⟩ := x
      intro k hk b hb
      by_cases e : k = j
      · subst e; rw [look_cons_eq] at hk; cases hk
      · rw [look_cons_ne e] at hk
        rcases List.mem_cons.1 hb with hb | hb
        · injection hb with hb _; exact e hb
        · exact ih k hk b hb
  intro k hne hk
  refine hnone lh k (fun b hb => ?_)
  have h1 := List.all_eq_true.1 h (k, b) hb
  simp only [Bool.or_eq_true] at h1
  rcases h1 with h1 | h1
  · exact hne (Nat.eq_of_beq_eq_true h1)
  · obtain ⟨⟨j, b'⟩, hm, he⟩ := List.any_eq_true.1 h1
    obtain rfl := Nat.eq_of_beq_eq_true he
    exact hsome new j hk b' hm
section
variable {X : XF} {w0 : World} {nt : Nat} {env env' : List (Nat × PV)} {lh lh' : List (Nat × LB)}
theorem Weak.frz {id ver rt sz : Nat} {xs : List (List PV)} (hb : look id lh = some (.row rt sz ver xs)) (hc : xs.all closedL = true) (he : frzE ⟨nt, env, lh⟩ id (.row id ver) (.sl sz xs) env') (hb1 : frzB ⟨nt, env, lh⟩ id lh') (hb2 : keepsB lh lh' id = true) (hfr : frNo id X.fr = true := by rfl) : Weak X w0 ⟨nt, env, lh⟩ ⟨nt, env', lh'⟩ := by
  refine ⟨fun a w μ s => ?_⟩
  have hcl : closedL xs.flatten = true := closedL_flatten hc
  obtain ⟨y, vs, hm, hown, r, hl, h1⟩ := s.blk id _ hb
  refine ⟨μ.del id, s.del id hfr (fun t p hp => ?_) (fun k b hk => frzB_get hb1 k b hk) (fun k hne hk => keepsB_spec hb2 k hne hk)⟩
  rcases frzE_get he t p hp with ⟨hg, hno⟩ | ⟨hg, rfl⟩
  · obtain ⟨z, hz, rz⟩ := s.env t p hg
    exact ⟨z, hz, Rep.del p z hno rz⟩
  · obtain ⟨z, hz, rz⟩ := s.env t _ hg
    refine ⟨z, hz, ?_⟩
    simp only [Rep] at rz
    obtain ⟨z', k, hz', _, _, e⟩ := rz
    rw [hm] at hz'
    injection hz' with hz'
    injection hz' with e1 e2
    subst e1 e2
    have e' := e rfl
    subst e'
    simp only [Rep]
    rcases hown.2 with ⟨hv, h0⟩ | ⟨g, cap, cur, hv, hbg, hh, hnc, hmx, _⟩
    · have : xs = [] := List.eq_nil_of_length_eq_zero h0
      subst this
      exact ⟨none, 0, hv, by simp, by simp [maxLen], by simp [RepR]⟩
    · refine ⟨some ⟨g, 0, none⟩, cap, hv, hnc, hmx, RepR.of_flat hl (RepC.of_cells ?_ (RepL.later Later.del _ _ (RepL.shuts _ _ hcl r)) h1 (fun j u hu => ?_))⟩
      · rw [LMap.shut_owns]
        rintro (hF | ⟨k, l, hk, hlb⟩)
        · have : X.F g := by have h2 : (μ.del id).F = μ.F := rfl; rw [h2, s.F] at hF; exact hF
          have := s.hF g this
          omega
        · by_cases e : k = id
          · subst e; rw [LMap.del_eq] at hk; cases hk
          · rw [LMap.del_ne _ e] at hk
            exact e (s.apart k id _ _ g hk hm hlb (by rw [hv]; rfl))
      · have := hown.cells (g := g) (by rw [hv]; rfl) j u hu
        rw [Nat.zero_add]
        exact this
theorem Weak.frzBox {id : Nat} {cells : List PV} (hb : look id lh = some (.box cells)) (hc : closedL cells = true) (he : frzE ⟨nt, env, lh⟩ id (.lp id 0) (.ptr cells) env') (hb1 : frzB ⟨nt, env, lh⟩ id lh') (hb2 : keepsB lh lh' id = true) (hfr : frNo id X.fr = true := by rfl) : Weak X w0 ⟨nt, env, lh⟩ ⟨nt, env', lh'⟩ := by
  refine ⟨fun a w μ s => ?_⟩
  obtain ⟨g, cs, ty, hm, hg, r, h1⟩ := s.blk id _ hb
  by_cases hgF : X.F g
  · exact absurd (s.hF g hgF) (fun h => by
      rcases (s.fresh id _ g hm rfl).2 with h2 | h2
      · omega
      · exact s.hX g h2 hgF)
  · refine ⟨μ.del id, s.del id hfr (fun t p hp => ?_) (fun k b hk => frzB_get hb1 k b hk) (fun k hne hk => keepsB_spec hb2 k hne hk)⟩
    rcases frzE_get he t p hp with ⟨hgt, hno⟩ | ⟨hgt, rfl⟩
    · obtain ⟨z, hz, rz⟩ := s.env t p hgt
      exact ⟨z, hz, Rep.del p z hno rz⟩
    · obtain ⟨z, hz, rz⟩ := s.env t _ hgt
      refine ⟨z, hz, ?_⟩
      simp only [Rep] at rz
      obtain ⟨g', hg', rfl⟩ := rz
      rw [hm] at hg'
      injection hg' with hg'
      injection hg' with hg'
      subst hg'
      simp only [Rep]
      refine ⟨⟨g, 0, none⟩, rfl, RepC.of_cells ?_ (RepL.later Later.del _ _ (RepL.shuts _ _ hc r)) h1 (fun j u hu => ?_)⟩
      · rw [LMap.shut_owns]
        rintro (hF | ⟨k, l, hk, hlb⟩)
        · have h2 : (μ.del id).F = μ.F := rfl
          rw [h2, s.F] at hF
          exact hgF hF
        · by_cases e : k = id
          · subst e; rw [LMap.del_eq] at hk; cases hk
          · rw [LMap.del_ne _ e] at hk
            exact e (s.apart k id _ _ g hk hm hlb rfl)
      · rw [Nat.zero_add, add_lit, Nat.zero_add, cell_of_row w g j cs ty _ hg]
        simpa using hu
theorem Weak.nilrow {t rt sz : Nat} {id : Nat} (hz : look t env = some (.v (.slice none 0 0))) (hn : look id lh = none) : Weak X w0 ⟨nt, env, lh⟩ ⟨nt, (t, .row id 0) :: env, (id, .row rt sz 0 []) :: lh⟩ := by
  refine ⟨fun a w μ s => ?_⟩
  have s1 := s.new (Below.refl w.heap.size w) (id := id) hn (l := .row (.slice none 0 0) 0) (fun g hg => by cases hg) (bk := .row rt sz 0 []) ⟨.slice none 0 0, [], LMap.set_eq _ _ _, World.ownsRow_nil _ _ _ _, rfl, by simp, by simp⟩
  refine ⟨_, s1.nt, s1.defers, s1.keep, s1.F, s1.hF, s1.hX, s1.fr, ?_, s1.blk, s1.dom, s1.apart, s1.fresh⟩
  intro t' p hp
  have hp' : look t' ((t, .row id 0) :: env) = some p := hp
  by_cases e : t' = t
  · subst e
    rw [look_cons_eq] at hp'
    injection hp' with hp'
    subst hp'
    obtain ⟨y, hy, r⟩ := s.env t' _ hz
    simp only [Rep] at r
    subst r
    exact ⟨_, hy, by simp only [Rep]; exact ⟨_, 0, LMap.set_eq _ _ _, Nat.le_refl _, rfl, fun _ => rfl⟩⟩
  · rw [look_cons_ne e] at hp'
    exact s1.env t' p hp'
def subB (σ : St) : List (Nat × LB) → Prop
  | [] => True
  | (k, b) :: l => σ.blk k = some b ∧ subB σ l
theorem subB_get {σ : St} : ∀ {l : List (Nat × LB)}, subB σ l → ∀ k b, look k l = some b → σ.blk k = some b
  | [], _, _, _, h => by cases h
  | (j, q) :: l, hs, t, p, h => by
    by_cases e : t = j
    · subst e; rw [look_cons_eq] at h; injection h with h; subst h; exact hs.1
    · rw [look_cons_ne e] at h; exact subB_get hs.2 t p h
def sameIds (lh new : List (Nat × LB)) : Bool := lh.all fun (k, _) => new.any fun (j, _) => Nat.beq j k
theorem Weak.to (he : subEnv ⟨nt, env, lh⟩ env') (hb : subB ⟨nt, env, lh⟩ lh') (hs : sameIds lh lh' = true) : Weak X w0 ⟨nt, env, lh⟩ ⟨nt, env', lh'⟩ := by
  refine ⟨fun a w μ s => ⟨μ, s.less rfl (fun t p hp => subEnv_get he t p hp) (fun id => ?_)⟩⟩
  show look id lh' = look id lh
  cases h : look id lh' with
  | some b => exact (subB_get hb id b h).symm
  | none =>
    have hk : keepsB lh lh' (lh.foldl (fun m x => max m x.1) 0 + lh'.foldl (fun m x => max m x.1) 0 + id + 1) = true := by
      unfold keepsB
      unfold sameIds at hs
      rw [List.all_eq_true] at hs ⊢
      intro x hx
      have := hs x hx
      obtain ⟨k, b⟩ := x
      simp only at this ⊢
      rw [this, Bool.or_true]
    exact (keepsB_spec hk id (by omega) h).symm
end
end Go.Proofs.YtbjepdfnmbdplaaGreat
namespace Go.Proofs.YtbjepdfnmbdplaaGreat
set_option linter.unusedSimpArgs false
set_option linter.unusedVariables false
set_option linter.unusedSectionVars false
open Go.RowKit
section
variable {P : Program} {σ : St} {dst : Option Tmp} {ty : TypeId} {pos : String} {after : Array Edge} {guard : Option (Nat × Bool)} {t yt : TypeId} {x y : Operand} {a b : Int} {k k' : IntKind}
def bitI (op : BinOp) (k : IntKind) (a b : Int) : Int := match op with
  | .and => k.wrap ((BitVec.ofInt k.bits a &&& BitVec.ofInt k.bits b).toNat)
  | .or => k.wrap ((BitVec.ofInt k.bits a ||| BitVec.ofInt k.bits b).toNat)
  | .xor => k.wrap ((BitVec.ofInt k.bits a ^^^ BitVec.ofInt k.bits b).toNat)
  | _ => 0
theorem ok_and (hx : σ.ev x = some (.v (.int k a)) := by rfl) (hy : σ.ev y = some (.v (.int k b)) := by rfl) (hd : inB σ dst = true := by rfl) : OpOK P ⟨dst, .binOp .and t x y yt, ty, pos, after, guard⟩ σ (.v (.int k (bitI .and k a b))) [] :=
  ok_bin hx hy (fun w => by simp [eqGuard, binOp, Op.intBits, bitI]) hd
theorem ok_or (hx : σ.ev x = some (.v (.int k a)) := by rfl) (hy : σ.ev y = some (.v (.int k b)) := by rfl) (hd : inB σ dst = true := by rfl) : OpOK P ⟨dst, .binOp .or t x y yt, ty, pos, after, guard⟩ σ (.v (.int k (bitI .or k a b))) [] :=
  ok_bin hx hy (fun w => by simp [eqGuard, binOp, Op.intBits, bitI]) hd
theorem ok_shl (hx : σ.ev x = some (.v (.int k a)) := by rfl) (hy : σ.ev y = some (.v (.int k' b)) := by rfl) (hd : inB σ dst = true := by rfl) (hb : 0 ≤ b := by omega) : OpOK P ⟨dst, .binOp .shl t x y yt, ty, pos, after, guard⟩ σ (.v (.int k (k.wrap (a * 2 ^ (min b.toNat k.bits))))) [] :=
  ok_bin hx hy (fun w => by
    have hn : ¬ b < 0 := by omega
    simp [eqGuard, binOp, Op.shift, hn]) hd
theorem ok_shr (hx : σ.ev x = some (.v (.int k a)) := by rfl) (hy : σ.ev y = some (.v (.int k' b)) := by rfl) (hd : inB σ dst = true := by rfl) (hb : 0 ≤ b := by omega) : OpOK P ⟨dst, .binOp .shr t x y yt, ty, pos, after, guard⟩ σ (.v (.int k (a.fdiv (2 ^ (min b.toNat k.bits))))) [] :=
  ok_bin hx hy (fun w => by
    have hn : ¬ b < 0 := by omega
    simp [eqGuard, binOp, Op.shift, hn]) hd
theorem ok_addW (hx : σ.ev x = some (.v (.int k a)) := by rfl) (hy : σ.ev y = some (.v (.int k b)) := by rfl) (hd : inB σ dst = true := by rfl) : OpOK P ⟨dst, .binOp .add t x y yt, ty, pos, after, guard⟩ σ (.v (.int k (k.wrap (a + b)))) [] :=
  ok_bin hx hy (fun w => by simp [eqGuard, binOp, Op.intArith]) hd
theorem ok_subW (hx : σ.ev x = some (.v (.int k a)) := by rfl) (hy : σ.ev y = some (.v (.int k b)) := by rfl) (hd : inB σ dst = true := by rfl) : OpOK P ⟨dst, .binOp .sub t x y yt, ty, pos, after, guard⟩ σ (.v (.int k (k.wrap (a - b)))) [] :=
  ok_bin hx hy (fun w => by simp [eqGuard, binOp, Op.intArith]) hd
theorem ok_mulW (hx : σ.ev x = some (.v (.int k a))) (hy : σ.ev y = some (.v (.int k b))) (hd : inB σ dst = true) : OpOK P ⟨dst, .binOp .mul t x y yt, ty, pos, after, guard⟩ σ (.v (.int k (k.wrap (a * b)))) [] :=
  ok_bin hx hy (fun w => by simp [eqGuard, binOp, Op.intArith]) hd
theorem ok_quoT (hx : σ.ev x = some (.v (.int k a))) (hy : σ.ev y = some (.v (.int k b))) (hd : inB σ dst = true) (hb : b ≠ 0) : OpOK P ⟨dst, .binOp .quo t x y yt, ty, pos, after, guard⟩ σ (.v (.int k (k.wrap (a.tdiv b)))) [] :=
  ok_bin hx hy (fun w => by simp [eqGuard, binOp, Op.intDiv, hb]) hd
class IntT (P : Program) (t : TypeId) (k : outParam IntKind) : Prop where
  h : P.underlying t = some (.int k)
theorem ok_convI {src tgt : TypeId} [h1 : IntT P src k] [h2 : IntT P tgt k'] (hx : σ.ev x = some (.v (.int k a)) := by rfl) (hd : inB σ dst = true := by rfl) : OpOK P ⟨dst, .convert src tgt x, ty, pos, after, guard⟩ σ (.v (.int k' (k'.wrap a))) [] :=
  ok_convert hx (fun w => by simp [convert, run_underlying h1.h, run_underlying h2.h, Conv.intToInt]) hd
class HasSpec (P : Program) (f : FuncId) (args : List PV) (r : outParam PV) : Prop where
  h : Spec P f args r
class HasSpecO (P : Program) (f : FuncId) (args : List PV) (ty sz : outParam Nat) (xs : outParam (List (List PV))) : Prop where
  h : Spec P f args (.own ty sz xs)
end
end Go.Proofs.YtbjepdfnmbdplaaGreat
namespace Go.Proofs.YtbjepdfnmbdplaaGreat
set_option linter.unusedSimpArgs false
set_option linter.unusedVariables false
set_option linter.unusedSectionVars false
open Go.RowKit
section
variable {P : Program} {X : XF} {w0 : World} {nt : Nat} {env : List (Nat × PV)} {lh : List (Nat × LB)} {dst : Option Tmp} {ty : TypeId} {pos : String} {after : Array Edge} {ats : Array TypeId}
inductive InlK (P : Program) (rs : List ResultVar) (k : PV → List (Nat × LB) → Prop) : Exit → St → Prop
  | n {σ : St} {ps : List PV} : RVs P σ rs ps → k (oneOr ps) σ.lh → InlK P rs k .normal σ
  | r {σ : St} {ps : List PV} : RVs P σ rs ps → k (oneOr ps) σ.lh → InlK P rs k .ret σ
theorem SimM.enter {a : Act} {w : World} {μ : LMap} (s : SimM X w0 ⟨nt, env, lh⟩ a w μ) {args : List PV} {vs : List Value} {m : Nat} (hv : RepL w μ args vs) (hn : Nat.ble args.length m = true) :
    SimM ⟨X.box, X.F, (env, a.tmps) :: X.fr, []⟩ w0 ⟨m, envOf 0 args, lh⟩ { tmps := vs.toArray ++ Array.replicate (m - vs.toArray.size) undef, defers := [] } w μ := by
  rw [Nat.ble_eq] at hn
  have hvl := hv.length
  refine ⟨?_, rfl, s.keep, s.F, s.hF, s.hX, ?_, ?_, s.blk, s.dom, s.apart, s.fresh⟩
  · simp
    omega
  · intro e he t p hp
    rcases List.mem_cons.1 he with rfl | he
    · exact s.env t p hp
    · exact s.fr e he t p hp
  · intro t p hp
    have hp' : look t (envOf 0 args) = some p := hp
    rw [look_envOf, if_pos (Nat.zero_le _), Nat.sub_zero] at hp'
    obtain ⟨y, hy, r⟩ := hv.get t p hp'
    have ht : t < vs.length := (List.getElem?_eq_some_iff.1 hy).1
    refine ⟨y, ?_, r⟩
    rw [Array.getElem?_append_left (by simpa using ht)]
    simpa using hy
theorem SimM.leave {a a' : Act} {w w' : World} {μ μ' : LMap} {σ' : St} {df : List Deferred} {y : Value} {r : PV} (s : SimM X w0 ⟨nt, env, lh⟩ a w μ) (s' : SimM ⟨X.box, X.F, (env, a.tmps) :: X.fr, df⟩ w0 σ' a' w' μ') (hd : inB ⟨nt, env, lh⟩ dst = true) (hr : Rep w' μ' r y) :
    SimM X w0 ((⟨nt, env, σ'.lh⟩ : St).put dst r) (a.put dst y) w' μ' := by
  have s1 : SimM X w0 ⟨nt, env, σ'.lh⟩ a w' μ' := ⟨s.nt, s.defers, s'.keep, s'.F, s'.hF, s'.hX, fun e he => s'.fr e (List.mem_cons_of_mem _ he), fun t p hp => s'.fr _ (List.mem_cons_self ..) t p hp, s'.blk, s'.dom, s'.apart, s'.fresh⟩
  exact s1.put (by cases dst <;> exact hd) hr
theorem RW.inl_ {ops : Array Oper} {l : List Oper} {K : St → Prop} {c : Operand} {g : FuncId} {first caps ps : List PV} {xs : List Operand} {fn : Func} {code : Code} {m : Nat} {rs : List ResultVar}
    (hc : (⟨nt, env, lh⟩ : St).ev c = some (.fn (.func g) first caps)) (hx : xs.mapM (⟨nt, env, lh⟩ : St).ev = some ps) (hf : P.funcs[g]? = some fn) (hb : fn.body = some code) (hent : Enters P g) (hnt : fn.ntmps = m) (hrs : fn.results = rs.toArray) (hn : Nat.ble (first ++ ps ++ caps).length m = true)
    (hd : inB ⟨nt, env, lh⟩ dst = true)
    (h : ∀ tm : Array Value, PW P ⟨X.box, X.F, (env, tm) :: X.fr, []⟩ w0 code ⟨m, envOf 0 (first ++ ps ++ caps), lh⟩ (InlK P rs fun r lh' => RW P X w0 ops l ((⟨nt, env, lh'⟩ : St).put dst r) K)) :
    RW P X w0 ops (⟨dst, .call { callee := .value c, args := xs.toArray, argTypes := ats }, ty, pos, after, none⟩ :: l) ⟨nt, env, lh⟩ K := by
  subst hnt
  refine ⟨fun Q hQ a w μ s => wpList_plain rfl fun K' hK => ?_⟩
  obtain ⟨vs, hv, hrun⟩ := run_call (dst := dst) (ty := ty) (pos := pos) (after := after) (guard := none) (ats := ats) s hc hx hent
  unfold Oper.wp
  rw [hrun]
  refine calls_of_wp hf hb ?_
  refine wp_mono ((h a.tmps).run _ w _ (s.enter hv hn)) ?_
  rintro ex a' w' ⟨σ', μ', hk, s'⟩
  have hrl : fn.results.toList = rs := by rw [hrs]
  have fin : ∀ {ps' : List PV}, RVs P σ' rs ps' → RW P X w0 ops l ((⟨nt, env, σ'.lh⟩ : St).put dst (oneOr ps')) K → a'.defers = [] ∧ ∃ v, (results fn a'.tmps).run P w' = .ok v w' ∧ K' (a.put dst v) w' := by
    intro ps' hrv k
    refine ⟨s'.defers, ?_⟩
    obtain ⟨y, hy, rep⟩ := run_results s' (fn := fn) (hrl ▸ hrv)
    exact ⟨y, hy, hK _ _ (k.run Q hQ _ w' μ' (s.leave s' hd rep))⟩
  cases hk with
  | n h1 h2 => exact fin h1 h2
  | r h1 h2 => exact fin h1 h2
end
end Go.Proofs.YtbjepdfnmbdplaaGreat
namespace Go.Proofs.YtbjepdfnmbdplaaGreat
set_option linter.unusedSimpArgs false
set_option linter.unusedVariables false
set_option linter.unusedSectionVars false
open Go.RowKit Go.ChangeShapes Go.WideShapes Go.Deep
abbrev μ0 : LMap := LMap.none fun _ => False
theorem μ0_owns (g : Nat) : ¬ μ0.owns g := fun h => LMap.none_owns h
section
variable {P : Program} {w : World}
def Reads (P : Program) (w : World) (t : TypeId) {α : Type} (ok : α → Prop) (f : α → List PV) : Prop :=
  ∀ {H : Type} (enc : TypeId × Value → H) (base : Nat) (spare : Nat → Bool) (held : Bool) (fuel : Nat) (cs : List Value) (x : DataW H × List MemPlace), DataW.trod enc P w base spare held fuel t cs = some x → ∃ a : α, ok a ∧ RepL w μ0 (f a) cs ∧ ∀ u ∈ cs, u.oneCell' = true
def okI (x : Int) : Prop := -9223372036854775808 ≤ x ∧ x ≤ 9223372036854775807
theorem reads_int {t : TypeId} (ht : P.underlying t = some (.int .i64)) : Reads P w t okI (fun x => [PV.v (.int .i64 x)]) := fun enc base spare held fuel cs x h => by
  obtain ⟨n, rfl, _, hw⟩ := DataW.trod_int ht h
  simp only [Lit.wf, Bool.and_eq_true, decide_eq_true_eq] at hw
  refine ⟨n, ?_, ⟨_, _, rfl, rfl, rfl⟩, fun u hu => by rw [List.mem_singleton] at hu; subst hu; rfl⟩
  have h1 : IntKind.i64.min = -9223372036854775808 := by decide
  have h2 : IntKind.i64.max = 9223372036854775807 := by decide
  unfold okI
  omega
theorem reads_string {t : TypeId} (ht : P.underlying t = some .string) : Reads P w t (fun s : ByteArray => s.size ≤ 9223372036854775807) (fun x => [PV.v (.string x)]) := fun enc base spare held fuel cs x h => by
  obtain ⟨n, rfl, _, hs⟩ := DataW.trod_string ht h
  have : maxLen = 9223372036854775807 := by decide
  exact ⟨n, by omega, ⟨_, _, rfl, rfl, rfl⟩, fun u hu => by rw [List.mem_singleton] at hu; subst hu; rfl⟩
theorem list_of_all {α : Type} {Q : Nat → α → Prop} : ∀ n, (∀ i, i < n → ∃ a, Q i a) → ∃ l : List α, l.length = n ∧ ∀ i a, l[i]? = some a → Q i a
  | 0, _ => ⟨[], rfl, fun i a h => by simp at h⟩
  | n + 1, h => by
    obtain ⟨l, hl, hq⟩ := list_of_all n (fun i hi => h i (by omega))
    obtain ⟨a, ha⟩ := h n (by omega)
    refine ⟨l ++ [a], by simp [hl], fun i b hb => ?_⟩
    rcases Nat.lt_or_ge i n with h1 | h1
    · rw [List.getElem?_append_left (by omega)] at hb; exact hq i b hb
    · rw [List.getElem?_append_right (by omega), hl] at hb
      have : i - n = 0 := by
        have := (List.getElem?_eq_some_iff.1 hb).1
        simp at this; omega
      rw [this] at hb
      simp at hb
      subst hb
      rw [show i = n from by omega]; exact ha
theorem RepR.of_get {μ : LMap} {A : Option Addr} {sz : Nat} : ∀ {xs : List (List PV)} {k : Nat}, (∀ i e, xs[i]? = some e → e.length = sz ∧ RepC w μ A e (k + i * sz)) → RepR w μ A sz xs k
  | [], _, _ => trivial
  | x :: xs, k, h => by
    simp only [RepR]
    have h0 := h 0 x rfl
    refine ⟨h0.1, by simpa using h0.2, RepR.of_get fun i e he => ?_⟩
    have h1 := h (i + 1) e (by simpa using he)
    rwa [show k + (i + 1) * sz = k + sz + i * sz from by rw [Nat.succ_mul]; omega] at h1
theorem reads_slice {t e sz : Nat} {α : Type} {ok : α → Prop} {f : α → List PV} (ht : P.underlying t = some (.slice e)) (hC : P.cellsOf e = sz) (hf : ∀ a, (f a).length = sz) (he : Reads P w e ok f) :
    Reads P w t (fun l : List α => ∀ x ∈ l, ok x) (fun l => [.sl sz (l.map f)]) := fun {H} enc base spare held fuel cs x h => by
  rcases open_slice ht h with ⟨hcs, _⟩ | ⟨a, len, cap, m, n', D, Pl, hcs, _, hl, hm, hmm, _, hi⟩
  · subst hcs
    refine ⟨[], by simp, ⟨_, _, rfl, ?_, rfl⟩, fun u hu => by rw [List.mem_singleton] at hu; subst hu; rfl⟩
    simp only [Rep, List.map_nil, RepR]
    exact ⟨none, 0, rfl, Nat.le_refl _, Nat.zero_le _, trivial⟩
  · subst hcs
    have hlm : len ≤ m := by rw [hmm]; split <;> omega
    obtain ⟨l, hll, hq⟩ := list_of_all (Q := fun i x => ok x ∧ RepC w μ0 (some a) (f x) (i * sz)) len (fun i hin => by
      obtain ⟨cs', hc, ht'⟩ := hi i (by omega)
      obtain ⟨x, hx, hr, h1⟩ := he enc _ _ _ _ _ _ ht'
      rw [hC] at hc
      obtain ⟨_, hcl, hat⟩ := World.cells?_some hc
      refine ⟨x, hx, RepC.of_cells (μ0_owns _) hr h1 (fun j u hu => ?_)⟩
      obtain ⟨hj, hu'⟩ := List.getElem?_eq_some_iff.1 hu
      have h2 := hat j (by omega)
      rw [← add_of_add, h2]
      exact hu)
    refine ⟨l, fun x hx => ?_, ⟨_, _, rfl, ?_, rfl⟩, fun u hu => by rw [List.mem_singleton] at hu; subst hu; rfl⟩
    · obtain ⟨i, hi', rfl⟩ := List.mem_iff_getElem.1 hx
      exact (hq i _ (List.getElem?_eq_getElem hi')).1
    · simp only [Rep, List.length_map]
      refine ⟨some a, cap, by rw [hll], by omega, hm, ?_⟩
      rw [LMap.shut_none]
      refine RepR.of_get (fun i e he' => ?_)
      rw [List.getElem?_map] at he'
      obtain ⟨x, hx, rfl⟩ := Option.map_eq_some_iff.1 he'
      exact ⟨hf x, by rw [Nat.zero_add]; exact (hq i x hx).2⟩
theorem arg_one {H : Type} {enc : TypeId × Value → H} {base : Nat} {spare : Nat → Bool} {held : Bool} {t : TypeId} {α : Type} {ok : α → Prop} {f : α → PV} {v : Value} {d : DataW H} {p : List MemPlace} (hr : Reads P w t ok fun a => [f a]) (hv : v.cells = #[v]) (h : DataW.Trod enc P w base spare held t v d p) : ∃ a, ok a ∧ Rep w μ0 (f a) v := by
  obtain ⟨fuel, hf⟩ := h
  obtain ⟨a, ha, r, _⟩ := hr _ _ _ _ _ _ _ hf
  rw [hv] at r
  obtain ⟨u, us, e, r1, _⟩ := r
  injection e with e1 _
  subst e1
  exact ⟨a, ha, r1⟩
theorem arg_agg {H : Type} {enc : TypeId × Value → H} {base : Nat} {spare : Nat → Bool} {held : Bool} {t : TypeId} {α : Type} {ok : α → Prop} {f : α → List PV} {v : Value} {d : DataW H} {p : List MemPlace} (hr : Reads P w t ok f) (hv : ∃ cs, v = .agg cs) (h : DataW.Trod enc P w base spare held t v d p) : ∃ a, ok a ∧ Rep w μ0 (.agg (f a)) v := by
  obtain ⟨cs, rfl⟩ := hv
  obtain ⟨fuel, hf⟩ := h
  obtain ⟨a, ha, r, h1⟩ := hr _ _ _ _ _ _ _ hf
  exact ⟨a, ha, cs.toList, rfl, r, h1⟩
theorem repL_nil {μ : LMap} : RepL w μ [] [] := rfl
theorem repL_cons {μ : LMap} {p : PV} {ps : List PV} {u : Value} {us : List Value} (h : Rep w μ p u) (hs : RepL w μ ps us) : RepL w μ (p :: ps) (u :: us) := ⟨u, us, rfl, h, hs⟩
theorem rep_v {μ : LMap} {v : Value} : Rep w μ (.v v) v := rfl
theorem law_calls {f : FuncId} {args : List PV} {vs : List Value} (hs : HasSpec P f args (.v (.bool true))) (hv : RepL w μ0 args vs) : Calls P f vs.toArray w fun e w' => e = .returned (.bool true) ∧ Below w.heap.size w w' :=
  (hs.h.run (fun _ => False) w vs (fun _ h => h.elim) hv).mono fun e w' ⟨y, he, hb, hr⟩ => by
    simp only [RepRes, Rep] at hr
    subst hr
    exact ⟨he, hb⟩
end
end Go.Proofs.YtbjepdfnmbdplaaGreat
namespace Go.Proofs.YtbjepdfnmbdplaaGreat
set_option linter.unusedSimpArgs false
set_option linter.unusedVariables false
set_option linter.unusedSectionVars false
open Go.RowKit
section
variable {P : Program} {X : XF} {w0 : World} {nt d : Nat} {env : List (Nat × PV)} {lh : List (Nat × LB)} {op : Op} {ty : TypeId} {pos : String} {after : Array Edge} {l : List Oper} {ops : Array Oper} {K : St → Prop}
end
theorem sB : (∀ p : Prop, (tst p = true) = p) ∧ (∀ p : Prop, (tst p = false) = ¬ p) ∧ (∀ b : Bool, ((!b) = true) = (b = false)) ∧ (∀ b : Bool, ((!b) = false) = (b = true)) ∧ (∀ a b : Int, (¬ a < b) = (b ≤ a)) ∧ (∀ a b : Int, (¬ a ≤ b) = (b < a)) ∧ (∀ (α : Type) (f : α → List PV) (l : List α), (l.map f).length = l.length) ∧ ((!true) = false) ∧ ((!false) = true) ∧ ((true = false) = False) ∧ ((false = true) = False) ∧ ((¬ True) = False) ∧ ((¬ False) = True) ∧ (∀ p : Prop, (p ∧ True) = p) ∧ (∀ p : Prop, (True ∧ p) = p) ∧ (∀ p : Prop, (p ∧ False) = False) ∧ (∀ p : Prop, (False ∧ p) = False) ∧ (∀ b : Bool, (b == b) = true) ∧ (∀ h : Decidable True, @decide True h = true) ∧ (∀ h : Decidable False, @decide False h = false) := by
  refine ⟨fun p => propext tst_true, fun p => propext tst_false, ?_, ?_, fun a b => propext Int.not_lt, fun a b => propext Int.not_le, fun _ _ _ => List.length_map .., rfl, rfl, ?_, ?_, ?_, ?_, ?_, ?_, ?_, ?_, ?_, ?_, ?_⟩ <;> simp
end Go.Proofs.YtbjepdfnmbdplaaGreat
namespace Go.Proofs.YtbjepdfnmbdplaaGreat
set_option linter.unusedSimpArgs false
set_option linter.unusedVariables false
set_option linter.unusedSectionVars false
open Go.RowKit
section
variable {P : Program}
def fldsInt (P : Program) : Nat → List Field → Bool
  | _, [] => true
  | i, f :: fs => (f.name != "_") && Nat.beq f.offset i && decide (tyB P f.type = some (false, 1)) && (match P.underlying f.type with | some (.int .i64) => true | _ => false) && fldsInt P (i + 1) fs
class EqT (P : Program) (t : TypeId) (n : outParam Nat) : Prop where
  und : P.underlying t = some (.struct (P.fieldsOf t))
  flds : fldsInt P 0 (P.fieldsOf t).toList = true
  len : (P.fieldsOf t).toList.length = n
  held : P.stoodInHeld t = false
  grd : P.eqGuardType P.depth t = false
theorem run_part1 {t : TypeId} (ht : tyB P t = some (false, 1)) {xs : Array Value} {i : Nat} {v : Value} (h : xs[i]? = some v) (w : World) : (part t xs i).run P w = .ok v w := by
  simp [part, run_isAgg ht, h]
theorem run_eqFields (d : Nat) (w : World) (xs ys : Array Value) : ∀ (fs : List Field) (i : Nat) (za bs : List Int), fldsInt P i fs = true → za.length = fs.length → bs.length = fs.length →
    (∀ (j : Nat) (z : Int), za[j]? = some z → xs[i + j]? = some (Value.int .i64 z)) → (∀ (j : Nat) (z : Int), bs[j]? = some z → ys[i + j]? = some (Value.int .i64 z)) → (Op.eqFields (d + 1) xs ys fs).run P w = .ok (decide (za = bs)) w
  | [], i, za, bs, _, ha, hb, _, _ => by
    have e1 := List.eq_nil_of_length_eq_zero ha
    have e2 := List.eq_nil_of_length_eq_zero hb
    subst e1 e2
    rfl
  | f :: fs, i, a :: za, b :: bs, hf, ha, hb, hx, hy => by
    simp only [fldsInt, Bool.and_eq_true, bne_iff_ne] at hf
    obtain ⟨⟨⟨⟨h1, h2⟩, h3⟩, h4⟩, h5⟩ := hf
    have e := Nat.eq_of_beq_eq_true h2
    have h3 := of_decide_eq_true h3
    have hu : P.underlying f.type = some (.int .i64) := by
      split at h4
      · assumption
      · cases h4
    have hxa := hx 0 a rfl
    have hyb := hy 0 b rfl
    rw [Nat.add_zero] at hxa hyb
    rw [e.symm] at hxa hyb
    have ih := run_eqFields d w xs ys fs (i + 1) za bs h5 (by simpa using ha) (by simpa using hb) (fun j z hj => by
      have := hx (j + 1) z (by simpa using hj)
      rwa [show i + (j + 1) = i + 1 + j from by omega] at this) (fun j z hj => by
      have := hy (j + 1) z (by simpa using hj)
      rwa [show i + (j + 1) = i + 1 + j from by omega] at this)
    simp only [Op.eqFields, if_pos h1, Sem.run_bind, run_part1 h3 hxa, run_part1 h3 hyb, Result.andThen_ok, run_equalIn_int w d f.type .i64 .i64 a b hu]
    by_cases hab : a = b
    · subst hab
      simp [ih]
    · have : (a == b) = false := by simpa using hab
      rw [this]
      have : decide (a :: za = b :: bs) = false := by simp [hab]
      rw [this]
      rfl
  | _ :: _, _, [], _, _, ha, _, _, _ => by simp at ha
  | _ :: _, _, _ :: _, [], _, _, hb, _, _ => by simp at hb
inductive SV where
  | i (x : Int)
  | s (b : ByteArray)
def SV.v : SV → Value
  | .i x => .int .i64 x
  | .s b => .string b
def SV.k : SV → Bool
  | .i _ => false
  | .s _ => true
abbrev pvS (x : SV) : PV := .v x.v
def fldsSV (P : Program) : Nat → List Field → List Bool → Bool
  | _, [], [] => true
  | i, f :: fs, k :: ks => (f.name != "_") && Nat.beq f.offset i && decide (tyB P f.type = some (false, 1)) && (match P.underlying f.type, k with | some (.int .i64), false => true | some .string, true => true | _, _ => false) && fldsSV P (i + 1) fs ks
  | _, _, _ => false
class EqS (P : Program) (t : TypeId) (ks : outParam (List Bool)) : Prop where
  und : P.underlying t = some (.struct (P.fieldsOf t))
  flds : fldsSV P 0 (P.fieldsOf t).toList ks = true
  held : P.stoodInHeld t = false
  grd : P.eqGuardType P.depth t = false
theorem run_equalSV (d : Nat) (w : World) {P : Program} {t : TypeId} : ∀ (a b : SV), a.k = b.k → (match P.underlying t, a.k with | some (.int .i64), false => true | some .string, true => true | _, _ => false) = true → (Op.equalIn (d + 1) t a.v b.v).run P w = .ok (tst (a = b)) w
  | .i x, .i y, _, h => by
    have hu : P.underlying t = some (.int .i64) := by
      simp only [SV.k] at h
      split at h
      · assumption
      · rename_i h2; cases h2
      · cases h
    show (Op.equalIn (d + 1) t (.int .i64 x) (.int .i64 y)).run P w = _
    rw [run_equalIn_int w d t .i64 .i64 x y hu, show (x == y) = tst (SV.i x = SV.i y) by rw [Bool.eq_iff_iff, tst_true, beq_iff_eq]; exact ⟨fun e => by rw [e], fun e => by injection e⟩]
  | .s x, .s y, _, h => by
    have hu : P.underlying t = some .string := by
      simp only [SV.k] at h
      split at h
      · rename_i h2; cases h2
      · assumption
      · cases h
    show (Op.equalIn (d + 1) t (.string x) (.string y)).run P w = _
    rw [run_equalIn_string w d t x y hu, str_beq, show decide (x = y) = tst (SV.s x = SV.s y) by rw [← tst_eq, Bool.eq_iff_iff, tst_true, tst_true]; exact ⟨fun e => by rw [e], fun e => by injection e⟩]
  | .i _, .s _, h, _ => by cases h
  | .s _, .i _, h, _ => by cases h
theorem tst_cons {α : Type} (a b : α) (l m : List α) : tst (a :: l = b :: m) = (tst (a = b) && tst (l = m)) := by
  rw [Bool.eq_iff_iff, Bool.and_eq_true, tst_true, tst_true, tst_true]
  exact ⟨fun e => by injection e with h1 h2; exact ⟨h1, h2⟩, fun ⟨h1, h2⟩ => by rw [h1, h2]⟩
theorem run_eqFieldsS (d : Nat) (w : World) {P : Program} (xs ys : Array Value) : ∀ (fs : List Field) (ks : List Bool) (i : Nat) (za bs : List SV), fldsSV P i fs ks = true → za.map SV.k = ks → bs.map SV.k = ks →
    (∀ (j : Nat) (z : SV), za[j]? = some z → xs[i + j]? = some z.v) → (∀ (j : Nat) (z : SV), bs[j]? = some z → ys[i + j]? = some z.v) → (Op.eqFields (d + 1) xs ys fs).run P w = .ok (tst (za = bs)) w
  | [], [], i, [], [], _, _, _, _, _ => by rw [tst_true.2 rfl]; rfl
  | f :: fs, k :: ks, i, a :: za, b :: bs, hf, ha, hb, hx, hy => by
    simp only [fldsSV, Bool.and_eq_true, bne_iff_ne] at hf
    obtain ⟨⟨⟨⟨h1, h2⟩, h3⟩, h4⟩, h5⟩ := hf
    have e := Nat.eq_of_beq_eq_true h2
    have h3 := of_decide_eq_true h3
    rw [List.map_cons] at ha hb
    injection ha with hak ha
    injection hb with hbk hb
    have hxa := hx 0 a rfl
    have hyb := hy 0 b rfl
    rw [Nat.add_zero] at hxa hyb
    rw [e.symm] at hxa hyb
    have ih := run_eqFieldsS d w xs ys fs ks (i + 1) za bs h5 ha hb (fun j z hj => by
      have := hx (j + 1) z (by simpa using hj)
      rwa [show i + (j + 1) = i + 1 + j from by omega] at this) (fun j z hj => by
      have := hy (j + 1) z (by simpa using hj)
      rwa [show i + (j + 1) = i + 1 + j from by omega] at this)
    have hq := run_equalSV d w (P := P) (t := f.type) a b (hak.trans hbk.symm) (by rw [hak]; exact h4)
    simp only [Op.eqFields, if_pos h1, Sem.run_bind, run_part1 h3 hxa, run_part1 h3 hyb, Result.andThen_ok, hq]
    rw [tst_cons]
    cases hab : tst (a = b) with
    | true => simp [ih]
    | false => rfl
  | [], _ :: _, _, _, _, h, _, _, _, _ => by cases h
  | _ :: _, [], _, _, _, h, _, _, _, _ => by cases h
  | [], [], _, _ :: _, _, _, h, _, _, _ => by cases h
  | [], [], _, [], _ :: _, _, _, h, _, _ => by cases h
  | _ :: _, _ :: _, _, [], _, _, h, _, _, _ => by cases h
  | _ :: _, _ :: _, _, _ :: _, [], _, _, h, _, _ => by cases h
end
section
variable {P : Program} {σ : St} {dst : Option Tmp} {ty : TypeId} {pos : String} {after : Array Edge} {guard : Option (Nat × Bool)}
abbrev pvI (x : Int) : PV := .v (.int .i64 x)
theorem rep_ints {w : World} {μ : LMap} : ∀ {za : List Int} {vs : List Value}, RepL w μ (za.map pvI) vs → ∀ (j : Nat) (z : Int), za[j]? = some z → vs[j]? = some (Value.int .i64 z)
  | [], _, _, _, _, h => by simp at h
  | a :: za, vs, r, j, z, h => by
    simp only [List.map_cons, RepL] at r
    obtain ⟨u, us, rfl, r1, r2⟩ := r
    simp only [Rep] at r1
    subst r1
    cases j with
    | zero => simp at h; subst h; rfl
    | succ j => exact rep_ints r2 j z (by simpa using h)
theorem ok_eqs {neg : Bool} {t yt : TypeId} {x y : Operand} {n : Nat} {za bs : List Int} (h : EqT P t n) (hx : σ.ev x = some (.agg (za.map pvI))) (hy : σ.ev y = some (.agg (bs.map pvI))) (ha : za.length = n) (hb : bs.length = n) (hd : inB σ dst = true) :
    OpOK P ⟨dst, .binOp (bif neg then .neq else .eql) t x y yt, ty, pos, after, guard⟩ σ (.v (.bool (bif neg then !tst (za = bs) else tst (za = bs)))) [] :=
  OpOK.val hd fun X w0 σ' a w μ hag s => by
    have h1 := eval_tmp s (hag.ev x (by cases neg <;> simp [Op.operands]) _ hx)
    have h2 := eval_tmp s (hag.ev y (by cases neg <;> simp [Op.operands]) _ hy)
    simp only [Rep] at h1 h2
    obtain ⟨vs, e1, r1, _⟩ := h1
    obtain ⟨us, e2, r2, _⟩ := h2
    have he := run_eqFields (P := P) 9998 w vs.toArray us.toArray (P.fieldsOf t).toList 0 za bs h.flds (ha.trans h.len.symm) (hb.trans h.len.symm) (fun j z hj => by simpa using rep_ints r1 j z hj) (fun j z hj => by simpa using rep_ints r2 j z hj)
    have hq := run_equalIn_struct (P := P) w 9999 t vs.toArray us.toArray h.und h.held
    rw [he] at hq
    refine ⟨_, ?_, rfl⟩
    rw [tst_eq]
    cases neg with
    | true =>
      simp only [cond_true, execOp, e1, e2, Sem.run_bind, run_eqGuard_agg w _ _ _ _ _ _ h.grd, Result.andThen_ok, run_neq_struct, hq]
      rfl
    | false =>
      simp only [cond_false, execOp, e1, e2, Sem.run_bind, run_eqGuard_agg w _ _ _ _ _ _ h.grd, Result.andThen_ok, run_eql_struct, hq]
      rfl
theorem rep_svs {w : World} {μ : LMap} : ∀ {za : List SV} {vs : List Value}, RepL w μ (za.map pvS) vs → ∀ (j : Nat) (z : SV), za[j]? = some z → vs[j]? = some z.v
  | [], _, _, _, _, h => by simp at h
  | a :: za, vs, r, j, z, h => by
    simp only [List.map_cons, RepL] at r
    obtain ⟨u, us, rfl, r1, r2⟩ := r
    simp only [Rep] at r1
    subst r1
    cases j with
    | zero => simp at h; subst h; rfl
    | succ j => exact rep_svs r2 j z (by simpa using h)
theorem ok_eqsS {neg : Bool} {t yt : TypeId} {x y : Operand} {ks : List Bool} {za bs : List SV} (h : EqS P t ks) (hx : σ.ev x = some (.agg (za.map pvS))) (hy : σ.ev y = some (.agg (bs.map pvS))) (ha : za.map SV.k = ks) (hb : bs.map SV.k = ks) (hd : inB σ dst = true) :
    OpOK P ⟨dst, .binOp (bif neg then .neq else .eql) t x y yt, ty, pos, after, guard⟩ σ (.v (.bool (bif neg then !tst (za = bs) else tst (za = bs)))) [] :=
  OpOK.val hd fun X w0 σ' a w μ hag s => by
    have h1 := eval_tmp s (hag.ev x (by cases neg <;> simp [Op.operands]) _ hx)
    have h2 := eval_tmp s (hag.ev y (by cases neg <;> simp [Op.operands]) _ hy)
    simp only [Rep] at h1 h2
    obtain ⟨vs, e1, r1, _⟩ := h1
    obtain ⟨us, e2, r2, _⟩ := h2
    have he := run_eqFieldsS (P := P) 9998 w vs.toArray us.toArray (P.fieldsOf t).toList ks 0 za bs h.flds ha hb (fun j z hj => by simpa using rep_svs r1 j z hj) (fun j z hj => by simpa using rep_svs r2 j z hj)
    have hq := run_equalIn_struct (P := P) w 9999 t vs.toArray us.toArray h.und h.held
    rw [he] at hq
    refine ⟨_, ?_, rfl⟩
    cases neg with
    | true =>
      simp only [cond_true, execOp, e1, e2, Sem.run_bind, run_eqGuard_agg w _ _ _ _ _ _ h.grd, Result.andThen_ok, run_neq_struct, hq]
      rfl
    | false =>
      simp only [cond_false, execOp, e1, e2, Sem.run_bind, run_eqGuard_agg w _ _ _ _ _ _ h.grd, Result.andThen_ok, run_eql_struct, hq]
      rfl
def EqR (P : Program) (t : TypeId) (cs ds : List PV) (b : Bool) : Prop := (∃ (n : Nat) (za bs : List Int), EqT P t n ∧ cs = za.map pvI ∧ ds = bs.map pvI ∧ za.length = n ∧ bs.length = n ∧ b = tst (za = bs)) ∨ ∃ (ks : List Bool) (za bs : List SV), EqS P t ks ∧ cs = za.map pvS ∧ ds = bs.map pvS ∧ za.map SV.k = ks ∧ bs.map SV.k = ks ∧ b = tst (za = bs)
theorem ok_eqR {neg : Bool} {t yt : TypeId} {x y : Operand} {cs ds : List PV} {b : Bool} (h : EqR P t cs ds b) (hx : σ.ev x = some (.agg cs)) (hy : σ.ev y = some (.agg ds)) (hd : inB σ dst = true) :
    OpOK P ⟨dst, .binOp (bif neg then .neq else .eql) t x y yt, ty, pos, after, guard⟩ σ (.v (.bool (bif neg then !b else b))) [] := by
  rcases h with ⟨n, za, bs, hE, rfl, rfl, h3, h4, rfl⟩ | ⟨ks, za, bs, hE, rfl, rfl, h3, h4, rfl⟩
  · exact ok_eqs hE hx hy h3 h4 hd
  · exact ok_eqsS hE hx hy h3 h4 hd
theorem ok_nilrow {d t e sz bytes : Nat} {z : Value} {parts : Array (Nat × Operand)} [h : SliceT P t e sz] [hz : ElemT P e z sz bytes] (hp : parts.toList = []) (hk : (Nat.beq z.cells.size sz && !Nat.beq sz 0 && z.cells.toList.all Value.oneCell') = true) (hd : inB σ (some d) = true) :
    OpOK P ⟨some d, .buildSlice t 0 parts, ty, pos, after, guard⟩ σ (.row d 0) [(d, .row e sz 0 [])] := by
  have := ok_litrow (P := P) (σ := σ) (d := d) (ty := ty) (pos := pos) (after := after) (guard := guard) (t := t) (n := 0) (parts := parts.toList) (ps := []) (cs := []) (by rw [hp]; rfl) rfl (by
    rw [Bool.and_eq_true, Bool.and_eq_true] at hk ⊢
    rw [Bool.and_eq_true]
    exact ⟨⟨⟨by rw [Nat.zero_mul]; rfl, hk.1.1⟩, hk.1.2⟩, hk.2⟩) hd
  rw [Array.toArray_toList] at this
  exact this
theorem RW.nilcmp {X : XF} {w0 : World} {nt d : Nat} {env : List (Nat × PV)} {lh : List (Nat × LB)} {ops : Array Oper} {l : List Oper} {K : St → Prop} {neg : Bool} {t e yt sz sz' : Nat} {x : Operand} {xs : List (List PV)} (ht : sliceB P t = some (e, sz)) (hz : sz' ≠ 0) (hx : (⟨nt, env, lh⟩ : St).ev x = some (.sl sz' xs)) (hd : Nat.blt d nt = true)
    (h : ∀ b : Bool, (b = true → xs = []) → RW P X w0 ops l ⟨nt, (d, .v (.bool (bif neg then !b else b))) :: env, lh⟩ K) : RW P X w0 ops (⟨some d, .binOp (bif neg then .neq else .eql) t x (.const (.slice none 0 0)) yt, ty, pos, after, none⟩ :: l) ⟨nt, env, lh⟩ K :=
  ⟨fun Q hQ a w μ s => wpList_plain rfl fun K' hK => by
    obtain ⟨inf, hu, _, _⟩ := slice_parts ht
    have h1 := eval_tmp s hx
    simp only [Rep] at h1
    obtain ⟨A, c, e1, _, _, r⟩ := h1
    have hn : A.isNone = true → xs = [] := by
      cases A with
      | none => exact fun _ => RepR.none_nil hz r
      | some a => exact fun h => by cases h
    unfold Oper.wp
    have hrun : (execOp a.eval ⟨some d, .binOp (bif neg then .neq else .eql) t x (.const (.slice none 0 0)) yt, ty, pos, after, none⟩).run P w = .ok (.value (.bool (bif neg then !A.isNone else A.isNone))) w := by
      have hcv : a.eval (.const (.slice none 0 0)) = .slice none 0 0 := rfl
      cases neg with
      | true => simp [execOp, e1, hcv, eqGuard, binOp, Op.equal, Op.maxDepth, Lib.run_equalIn_slice_nil w 9999 t e A xs.length c 0 0 hu]
      | false => simp [execOp, e1, hcv, eqGuard, binOp, Op.equal, Op.maxDepth, Lib.run_equalIn_slice_nil w 9999 t e A xs.length c 0 0 hu]
    rw [hrun]
    exact hK _ _ ((h A.isNone hn).run Q hQ _ w μ (s.put (d := some d) (p := .v (.bool (bif neg then !A.isNone else A.isNone))) hd rfl))⟩
end
end Go.Proofs.YtbjepdfnmbdplaaGreat
namespace Go.Proofs.YtbjepdfnmbdplaaGreat
set_option linter.unusedSimpArgs false
set_option linter.unusedVariables false
set_option linter.unusedSectionVars false
open Go.RowKit
def wantsU (ops : Array Oper) (σ : St) (o : Oper) (w : Bool) : Prop := wantsP ops σ o w ∨ (w = false ∧ ∃ j want oj t, o.guard = some (j, want) ∧ ops[j]? = some oj ∧ oj.dst = some t ∧ σ.get t = some (.v undef))
theorem yielded_undef {X : XF} {w0 : World} {ops : Array Oper} {σ : St} {a : Act} {w : World} {μ : LMap} {j t : Nat} {oj : Oper} (s : SimM X w0 σ a w μ) (hj : ops[j]? = some oj) (hd : oj.dst = some t) (hb : σ.get t = some (.v undef)) : yielded ops a.tmps j = none := by
  obtain ⟨y, hy, r⟩ := s.env t _ hb
  simp only [Rep] at r
  subst r
  unfold yielded
  simp [hj, hd, hy, undef]
theorem wantedU_of {X : XF} {w0 : World} {ops : Array Oper} {o : Oper} {σ : St} {a : Act} {w : World} {μ : LMap} {b : Bool} (s : SimM X w0 σ a w μ) (h : wantsU ops σ o b) : Region.wanted o (yielded ops a.tmps) = b := by
  rcases h with h | ⟨rfl, j, want, oj, t, hg, hj, hd, hu⟩
  · exact wanted_of s h
  · unfold Region.wanted
    rw [hg]
    simp only [yielded_undef s hj hd hu]
    rfl
theorem wantsU_mono {ops : Array Oper} {o : Oper} {σ σ' : St} {b : Bool} (h : wantsU ops σ o b) (hm : ∀ t ∈ guardTmp ops.toList o, ∀ q, σ.get t = some q → σ'.get t = some q) : wantsU ops σ' o b := by
  rcases h with h | ⟨e, j, want, oj, t, hg, hj, hd, hu⟩
  · exact .inl (wantsP_mono h hm)
  · exact .inr ⟨e, j, want, oj, t, hg, hj, hd, hm t (guardTmp_of hg hj hd) _ hu⟩
theorem RW.guardU {P : Program} {X : XF} {w0 : World} {ops : Array Oper} {o : Oper} {l : List Oper} {σ : St} {K : St → Prop} {j t : Nat} {want : Bool} {oj : Oper} (hg : o.guard = some (j, want)) (hj : ops[j]? = some oj) (hd : oj.dst = some t) (hb : σ.get t = some (.v undef)) (hdst : inB σ o.dst = true) (hn : RW P X w0 ops l (σ.put o.dst (.v undef)) K) : RW P X w0 ops (o :: l) σ K := ⟨fun Q hQ a w μ s => by
  have hw : Region.wanted o (yielded ops a.tmps) = false := wantedU_of s (.inr ⟨rfl, j, want, oj, t, hg, hj, hd, hb⟩)
  have h1 := hn.run Q hQ _ w μ (s.put hdst (p := .v undef) (y := undef) rfl)
  unfold wpList
  rw [hw, if_neg (by simp)]
  exact h1⟩
structure OpUP (P : Program) (o : Oper) (σ : St) (p : PV) (id : Nat) (b : LB) : Prop where
  run : ∀ σ', Agree o σ σ' → OpEff P o σ' ((σ'.setB id b).put o.dst p)
inductive OpU (P : Program) (o : Oper) (σ : St) : PV → List (Nat × LB) → Prop
  | new {p : PV} {nb : List (Nat × LB)} : OpOK P o σ p nb → nbOK o nb → newB σ nb → OpU P o σ p nb
  | upd {p : PV} {id : Nat} {b : LB} : OpUP P o σ p id b → OpU P o σ p [(id, b)]
inductive URun (P : Program) (ops : Array Oper) : List Oper → St → St → List (List Nat × List Nat) → Prop
  | nil {σ : St} : URun P ops [] σ σ []
  | ok {o : Oper} {l : List Oper} {σ σe : St} {p : PV} {nb : List (Nat × LB)} {tl : List (List Nat × List Nat)} : wantsU ops σ o true → OpU P o σ p nb → URun P ops l ((σ.addB nb).put o.dst p) σe tl → URun P ops (o :: l) σ σe ((nb.map Prod.fst, σ.ids o) :: tl)
  | skip {o : Oper} {l : List Oper} {σ σe : St} {tl : List (List Nat × List Nat)} : wantsU ops σ o false → inB σ o.dst = true → URun P ops l (σ.put o.dst (.v undef)) σe tl → URun P ops (o :: l) σ σe (([], []) :: tl)
def StepU (P : Program) (ops : Array Oper) (o : Oper) (σ : St) (p : PV) (nb : List (Nat × LB)) (wt : List Nat × List Nat) : Prop :=
  (wantsU ops σ o true ∧ OpU P o σ p nb ∧ wt = (nb.map Prod.fst, σ.ids o)) ∨ (wantsU ops σ o false ∧ inB σ o.dst = true ∧ p = .v undef ∧ nb = [] ∧ wt = ([], []))
theorem URun.steps {P : Program} {ops : Array Oper} : ∀ {l : List Oper} {σ σe : St} {tl : List (List Nat × List Nat)}, URun P ops l σ σe tl →
    ∃ (p : Nat → PV) (nb : Nat → List (Nat × LB)) (sg : Nat → St), sg 0 = σ ∧ sg l.length = σe ∧ tl.length = l.length ∧ ∀ j o, l[j]? = some o → sg (j + 1) = ((sg j).addB (nb j)).put o.dst (p j) ∧ ∃ wt, tl[j]? = some wt ∧ StepU P ops o (sg j) (p j) (nb j) wt
  | [], σ, σe, tl, h => by
    cases h
    exact ⟨fun _ => .any, fun _ => [], fun _ => σ, rfl, rfl, rfl, fun j o h => by simp at h⟩
  | o :: l, σ, σe, tl, h => by
    have key : ∀ (p0 : PV) (nb0 : List (Nat × LB)) (wt0 : List Nat × List Nat) (tl' : List (List Nat × List Nat)), StepU P ops o σ p0 nb0 wt0 → URun P ops l ((σ.addB nb0).put o.dst p0) σe tl' →
        ∃ (p : Nat → PV) (nb : Nat → List (Nat × LB)) (sg : Nat → St), sg 0 = σ ∧ sg (o :: l).length = σe ∧ (wt0 :: tl').length = (o :: l).length ∧ ∀ j o', (o :: l)[j]? = some o' → sg (j + 1) = ((sg j).addB (nb j)).put o'.dst (p j) ∧ ∃ wt, (wt0 :: tl')[j]? = some wt ∧ StepU P ops o' (sg j) (p j) (nb j) wt := by
      intro p0 nb0 wt0 tl' hs hr
      obtain ⟨p, nb, sg, h0, he, hl, hst⟩ := URun.steps hr
      refine ⟨fun | 0 => p0 | j + 1 => p j, fun | 0 => nb0 | j + 1 => nb j, fun | 0 => σ | j + 1 => sg j, rfl, he, by simp [hl], ?_⟩
      intro j o' hj
      cases j with
      | zero =>
        simp at hj
        subst hj
        exact ⟨h0, wt0, rfl, hs⟩
      | succ j => exact hst j o' (by simpa using hj)
    cases h with
    | ok h1 h2 h3 => exact key _ _ _ _ (.inl ⟨h1, h2, rfl⟩) h3
    | skip h1 h2 h3 => exact key (.v undef) [] _ _ (.inr ⟨h1, h2, rfl, rfl, rfl⟩) h3
def confOK (ops : List Oper) (tl : List (List Nat × List Nat)) : Bool :=
  let m := closA [] ops
  tl.zipIdx.all fun (x, i) => tl.zipIdx.all fun (y, j) => Nat.beq i j || y.1.all fun id => !(x.1.any (Nat.beq id) || x.2.any (Nat.beq id)) || (Nat.blt j i && ancB m i j) || (Nat.blt i j && ancB m j i)
theorem confOK_spec {ops : List Oper} {tl : List (List Nat × List Nat)} (h : confOK ops tl = true) {i j : Nat} {x y : List Nat × List Nat} (hi : tl[i]? = some x) (hj : tl[j]? = some y) (hij : i ≠ j) {id : Nat} (hy : id ∈ y.1) (hx : id ∈ x.1 ∨ id ∈ x.2) : (j < i ∧ ancB (closA [] ops) i j = true) ∨ (i < j ∧ ancB (closA [] ops) j i = true) := by
  unfold confOK at h
  have hz : ∀ (k : Nat) (x : List Nat × List Nat), tl[k]? = some x → (x, k) ∈ tl.zipIdx := fun k x hk => by rw [List.mem_zipIdx_iff_getElem?]; exact hk
  have h1 := List.all_eq_true.1 (List.all_eq_true.1 h (x, i) (hz i x hi)) (y, j) (hz j y hj)
  have hne : Nat.beq i j = false := by
    cases e : Nat.beq i j
    · rfl
    · exact absurd (Nat.eq_of_beq_eq_true e) hij
  simp only [hne, Bool.false_or] at h1
  have h2 := List.all_eq_true.1 h1 id hy
  have h3 : (x.1.any (Nat.beq id) || x.2.any (Nat.beq id)) = true := by
    rw [Bool.or_eq_true, List.any_eq_true, List.any_eq_true]
    rcases hx with hx | hx
    · exact .inl ⟨id, hx, Nat.beq_refl id⟩
    · exact .inr ⟨id, hx, Nat.beq_refl id⟩
  rw [h3] at h2
  simp only [Bool.not_true, Bool.false_or, Bool.or_eq_true, Bool.and_eq_true] at h2
  rcases h2 with h2 | h2
  · exact .inl ⟨of_eq_true_blt h2.1, h2.2⟩
  · exact .inr ⟨of_eq_true_blt h2.1, h2.2⟩
theorem look_in {α : Type} {id : Nat} {b : α} {l : List (Nat × α)} (h : look id l = some b) : id ∈ l.map Prod.fst := List.mem_map.2 ⟨(id, b), look_mem h, rfl⟩
structure AtU (ops : List Oper) (σ0 : St) (p : Nat → PV) (nb : Nat → List (Nat × LB)) (D : Nat → Prop) (σ : St) : Prop where
  nt : σ.nt = σ0.nt
  inn : ∀ i o t, ops[i]? = some o → D i → o.dst = some t → σ.get t = some (p i)
  out : ∀ t, (∀ i o, ops[i]? = some o → D i → o.dst ≠ some t) → σ.get t = σ0.get t
  blk : ∀ id, (∃ i o b, ops[i]? = some o ∧ D i ∧ look id (nb i) = some b ∧ (∀ j oj, ops[j]? = some oj → D j → i < j → look id (nb j) = none) ∧ σ.blk id = some b) ∨ ((∀ i o, ops[i]? = some o → D i → look id (nb i) = none) ∧ σ.blk id = σ0.blk id)
theorem AtU.step {ops : List Oper} {σ0 σ : St} {p : Nat → PV} {nb : Nat → List (Nat × LB)} {D : Nat → Prop} (h : AtU ops σ0 p nb D σ) {i : Nat} {o : Oper} (hi : ops[i]? = some o) (hD : ¬ D i)
    (hdst : ∀ j oj d, ops[j]? = some oj → j ≠ i → o.dst = some d → oj.dst ≠ some d) (hnb : ∀ j oj id b b', ops[j]? = some oj → D j → look id (nb i) = some b → look id (nb j) = some b' → j < i) :
    AtU ops σ0 p nb (fun j => j = i ∨ D j) (((σ.addB (nb i))).put o.dst (p i)) := by
  refine ⟨by rw [St.nt_put]; exact h.nt, ?_, ?_, ?_⟩
  · intro j oj t hj hDj ht
    cases hd : o.dst with
    | none =>
      rcases hDj with rfl | hDj
      · rw [hi] at hj; injection hj with hj; subst hj; rw [hd] at ht; cases ht
      · exact h.inn j oj t hj hDj ht
    | some d =>
      rw [St.get_put]
      by_cases hji : j = i
      · subst hji
        rw [hi] at hj; injection hj with hj; subst hj; rw [hd] at ht; injection ht with ht
        rw [if_pos ht.symm]
      · rw [if_neg (fun e : t = d => hdst j oj d hj hji hd (by rw [← e]; exact ht)), St.get_addB]
        exact h.inn j oj t hj (hDj.resolve_left hji) ht
  · intro t ht
    cases hd : o.dst with
    | none => exact h.out t (fun j oj hj hDj => ht j oj hj (.inr hDj))
    | some d =>
      rw [St.get_put, if_neg (fun e : t = d => ht i o hi (.inl rfl) (by rw [e]; exact hd)), St.get_addB]
      exact h.out t (fun j oj hj hDj => ht j oj hj (.inr hDj))
  · intro id
    rw [St.blk_put, St.blk_addB]
    cases hl : look id (nb i) with
    | some b =>
      refine .inl ⟨i, o, b, hi, .inl rfl, hl, fun j oj hj hDj hij => ?_, rfl⟩
      rcases hDj with rfl | hDj
      · omega
      · cases hlj : look id (nb j) with
        | none => rfl
        | some b' => have := hnb j oj id b b' hj hDj hl hlj; omega
    | none =>
      rcases h.blk id with ⟨k, ok, b, hk, hDk, hlk, hlast, hb⟩ | ⟨hno, hb⟩
      · refine .inl ⟨k, ok, b, hk, .inr hDk, hlk, fun j oj hj hDj hkj => ?_, hb⟩
        rcases hDj with rfl | hDj
        · exact hl
        · exact hlast j oj hj hDj hkj
      · refine .inr ⟨fun j oj hj hDj => ?_, hb⟩
        rcases hDj with rfl | hDj
        · exact hl
        · exact hno j oj hj hDj
structure RunU (P : Program) (ops : Array Oper) (σ0 : St) (p : Nat → PV) (nb : Nat → List (Nat × LB)) (sg : Nat → St) (tl : List (List Nat × List Nat)) : Prop where
  reg : regOK ops.toList = true
  conf : confOK ops.toList tl = true
  zero : sg 0 = σ0
  step : ∀ j o, ops.toList[j]? = some o → sg (j + 1) = ((sg j).addB (nb j)).put o.dst (p j) ∧ ∃ wt, tl[j]? = some wt ∧ StepU P ops o (sg j) (p j) (nb j) wt
section
variable {P : Program} {X : XF} {w0 : World} {ops : Array Oper} {σ0 : St} {p : Nat → PV} {nb : Nat → List (Nat × LB)} {sg : Nat → St} {tl : List (List Nat × List Nat)}
theorem RunU.apart (R : RunU P ops σ0 p nb sg tl) {i j : Nat} {o oj : Oper} (hi : ops.toList[i]? = some o) (hj : ops.toList[j]? = some oj) (hji : j ≠ i) {d : Nat} (h : o.dst = some d) : oj.dst ≠ some d :=
  ((regOK_spec R.reg hj).2 i o hi (Ne.symm hji) d h).1
theorem RunU.wr (R : RunU P ops σ0 p nb sg tl) {j : Nat} {o : Oper} (hj : ops.toList[j]? = some o) {wt : List Nat × List Nat} (hw : tl[j]? = some wt) {id : Nat} {b : LB} (h : look id (nb j) = some b) : id ∈ wt.1 := by
  obtain ⟨_, wt', hw', hs⟩ := R.step j o hj
  rw [hw] at hw'
  injection hw' with hw'
  subst hw'
  rcases hs with ⟨_, _, rfl⟩ | ⟨_, _, _, hn, _⟩
  · exact look_in h
  · rw [hn] at h; cases h
theorem RunU.lex (R : RunU P ops σ0 p nb sg tl) : ∀ i, i ≤ ops.size → AtU ops.toList σ0 p nb (fun j => j < i) (sg i)
  | 0, _ => by
    rw [R.zero]
    exact ⟨rfl, fun _ _ _ _ h => absurd h (Nat.not_lt_zero _), fun _ _ => rfl, fun _ => .inr ⟨fun _ _ _ h => absurd h (Nat.not_lt_zero _), rfl⟩⟩
  | i + 1, h => by
    have ih := RunU.lex R i (by omega)
    have hi : ops.toList[i]? = some (ops.toList[i]'(by simp; omega)) := List.getElem?_eq_getElem _
    generalize ops.toList[i]'(by simp; omega) = o at hi
    have hs := ih.step hi (Nat.lt_irrefl i) (fun j oj d hj hji hd => R.apart hi hj hji hd) (fun j oj id b b' hj hD _ _ => hD)
    rw [(R.step i o hi).1]
    have e : (fun j => j = i ∨ j < i) = fun j => j < i + 1 := by funext j; simp; omega
    rwa [e] at hs
theorem RunU.reads (R : RunU P ops σ0 p nb sg tl) {D : Nat → Prop} {σ : St} (hat : AtU ops.toList σ0 p nb D σ) (hcl : Closed ops.toList D) {i : Nat} {o : Oper} (hi : ops.toList[i]? = some o) (hD : ¬ D i)
    (hpre : ∀ e ∈ o.after.toList, Region.binds .any e = true → D e.on) {t : Nat} (ht : t ∈ tmpsOf o ∨ t ∈ guardTmp ops.toList o) {q : PV} (hq : (sg i).get t = some q) : σ.get t = some q := by
  have hil : i < ops.size := by have := (List.getElem?_eq_some_iff.1 hi).1; simpa using this
  have hlex := R.lex i (Nat.le_of_lt hil)
  by_cases hw : ∃ j oj, ops.toList[j]? = some oj ∧ j ≠ i ∧ oj.dst = some t
  · obtain ⟨j, oj, hj, hji, hd⟩ := hw
    rcases ((regOK_spec R.reg hi).2 j oj hj hji t hd).2 ht with ⟨h1, h2⟩ | ⟨h1, h2⟩
    · rw [hlex.inn j oj t hj h1 hd] at hq
      rw [← hq]
      exact hat.inn j oj t hj (goodA ops.toList i o j hi h2 D hcl hpre) hd
    · have hnj : ¬ D j := fun h => hD (goodA ops.toList j oj i hj h2 D hcl (fun e he hb => hcl j oj hj h e he hb))
      rw [hlex.out t (fun k ok hk hlt e => by
        by_cases hkj : k = j
        · omega
        · exact R.apart hj hk hkj hd e)] at hq
      rw [hat.out t (fun k ok hk hDk e => by
        by_cases hkj : k = j
        · exact hnj (hkj ▸ hDk)
        · exact R.apart hj hk hkj hd e)]
      exact hq
  · have hno : ∀ j oj, ops.toList[j]? = some oj → j ≠ i → oj.dst ≠ some t := fun j oj hj hji hd => hw ⟨j, oj, hj, hji, hd⟩
    rw [hlex.out t (fun k ok hk hlt => hno k ok hk (by omega))] at hq
    rw [hat.out t (fun k ok hk hDk => hno k ok hk (fun e => hD (e ▸ hDk)))]
    exact hq
theorem RunU.blks (R : RunU P ops σ0 p nb sg tl) {D : Nat → Prop} {σ : St} (hat : AtU ops.toList σ0 p nb D σ) (hcl : Closed ops.toList D) {i : Nat} {o : Oper} (hi : ops.toList[i]? = some o) (hD : ¬ D i)
    (hpre : ∀ e ∈ o.after.toList, Region.binds .any e = true → D e.on) {wt : List Nat × List Nat} (hw : tl[i]? = some wt) {id : Nat} (hid : id ∈ wt.1 ∨ id ∈ wt.2) :
    σ.blk id = (sg i).blk id ∧ ∀ j oj b, ops.toList[j]? = some oj → D j → look id (nb j) = some b → j < i := by
  have hil : i < ops.size := by have := (List.getElem?_eq_some_iff.1 hi).1; simpa using this
  have hlex := R.lex i (Nat.le_of_lt hil)
  have W : ∀ j oj b, ops.toList[j]? = some oj → j ≠ i → look id (nb j) = some b → (j < i ∧ D j) ∨ (i < j ∧ ¬ D j) := by
    intro j oj b hj hji hl
    obtain ⟨_, wtj, hwj, _⟩ := R.step j oj hj
    rcases confOK_spec R.conf hw hwj (Ne.symm hji) (R.wr hj hwj hl) hid with ⟨h1, h2⟩ | ⟨h1, h2⟩
    · exact .inl ⟨h1, goodA ops.toList i o j hi h2 D hcl hpre⟩
    · exact .inr ⟨h1, fun h => hD (goodA ops.toList j oj i hj h2 D hcl (fun e he hb => hcl j oj hj h e he hb))⟩
  refine ⟨?_, fun j oj b hj hDj hl => ?_⟩
  · rcases hlex.blk id with ⟨k, ok, b, hk, hki, hlk, hlast, hb⟩ | ⟨hno, hb⟩
    · have hDk : D k := by
        rcases W k ok b hk (by omega) hlk with h | h
        · exact h.2
        · omega
      rcases hat.blk id with ⟨k', ok', b', hk', hDk', hlk', hlast', hb'⟩ | ⟨hno', hb'⟩
      · have hne : k' ≠ i := fun e => hD (e ▸ hDk')
        have hk'i : k' < i := by
          rcases W k' ok' b' hk' hne hlk' with h | h
          · exact h.1
          · exact absurd hDk' h.2
        have e : k = k' := by
          rcases Nat.lt_trichotomy k k' with h | h | h
          · rw [hlast k' ok' hk' hk'i h] at hlk'; cases hlk'
          · exact h
          · rw [hlast' k ok hk hDk h] at hlk; cases hlk
        subst e
        rw [hlk] at hlk'
        injection hlk' with hlk'
        rw [hb, hb', hlk']
      · rw [hno' k ok hk hDk] at hlk; cases hlk
    · rcases hat.blk id with ⟨k', ok', b', hk', hDk', hlk', hlast', hb'⟩ | ⟨hno', hb'⟩
      · have hne : k' ≠ i := fun e => hD (e ▸ hDk')
        have hk'i : k' < i := by
          rcases W k' ok' b' hk' hne hlk' with h | h
          · exact h.1
          · exact absurd hDk' h.2
        rw [hno k' ok' hk' hk'i] at hlk'; cases hlk'
      · rw [hb, hb']
  · have hne : j ≠ i := fun e => hD (e ▸ hDj)
    rcases W j oj b hj hne hl with h | h
    · exact h.1
    · exact absurd hDj h.2
theorem RunU.one (R : RunU P ops σ0 p nb sg tl) {D : Nat → Prop} {σ : St} (hat : AtU ops.toList σ0 p nb D σ) (hcl : Closed ops.toList D) {i : Nat} {o : Oper} (hi : ops.toList[i]? = some o) (hD : ¬ D i)
    (hpre : ∀ e ∈ o.after.toList, Region.binds .any e = true → D e.on) {a : Act} {w : World} {μ : LMap} (s : SimM X w0 σ a w μ) {Q : Exit → Act → World → Prop} {K : Act → World → Prop}
    (hK : ∀ σ' a' w' μ', AtU ops.toList σ0 p nb (fun j => j = i ∨ D j) σ' → SimM X w0 σ' a' w' μ' → K a' w') : wpOp P ops Q i K a w := by
  have hil : i < ops.size := by have := (List.getElem?_eq_some_iff.1 hi).1; simpa using this
  have hio : ops[i]? = some o := by simpa using hi
  have hlex := R.lex i (Nat.le_of_lt hil)
  obtain ⟨hsg, wt, hwt, hs⟩ := R.step i o hi
  have hreads : ∀ t, t ∈ tmpsOf o ∨ t ∈ guardTmp ops.toList o → ∀ q, (sg i).get t = some q → σ.get t = some q := fun t ht q hq => R.reads hat hcl hi hD hpre ht hq
  have hblks : ∀ id, id ∈ wt.1 ∨ id ∈ wt.2 → σ.blk id = (sg i).blk id ∧ ∀ j oj b, ops.toList[j]? = some oj → D j → look id (nb j) = some b → j < i := fun id h => R.blks hat hcl hi hD hpre hwt h
  have hstep := hat.step hi hD (fun j oj d hj hji hd => R.apart hi hj hji hd) (fun j oj id b b' hj hDj h1 h2 => (hblks id (.inl (R.wr hi hwt h1))).2 j oj b' hj hDj h2)
  unfold wpOp
  rw [hio]
  rcases hs with ⟨hw, hok, hwt'⟩ | ⟨hw, hb, hp, hnb, _⟩
  · have hw' := wantedU_of s (wantsU_mono hw (fun t ht q hq => hreads t (.inr ht) q hq))
    simp only [hw', if_true]
    have hag : Agree o (sg i) σ := by
      refine ⟨hat.nt.trans hlex.nt.symm, ?_, ?_⟩
      · intro x hx q hq
        cases x with
        | tmp t => exact hreads t (.inl (mem_tmpsOf hx)) q hq
        | const v => exact hq
        | func f => exact hq
        | global g => exact hq
      · intro x hx q id b hq hid hb
        have hmem : id ∈ (sg i).ids o := List.mem_filterMap.2 ⟨q, List.mem_filterMap.2 ⟨x, hx, hq⟩, hid⟩
        rw [(hblks id (.inr (by rw [hwt']; exact hmem))).1]
        exact hb
    have fin : OpEff P o σ (((σ.addB (nb i))).put o.dst (p i)) := by
      generalize hpi : p i = pi at hok ⊢
      generalize hnbi : nb i = nbi at hok ⊢
      cases hok with
      | new h1 h2 h3 =>
        refine h1.run σ hag ?_
        intro id b hl
        rw [(hblks id (.inl (by rw [hwt', hnbi]; exact look_in hl))).1]
        exact h3 id b hl
      | upd h1 => exact h1.run σ hag
    exact .inl (fin.run X w0 a w μ K Q s fun a' w' μ' s' => hK _ a' w' μ' hstep s')
  · have hw' := wantedU_of s (wantsU_mono hw (fun t ht q hq => hreads t (.inr ht) q hq))
    simp only [hw', Bool.false_eq_true, if_false]
    rw [hnb, hp] at hstep
    have hb' : inB σ o.dst = true := by
      cases hd : o.dst with
      | none => rfl
      | some d =>
        rw [hd] at hb
        simp only [inB] at hb ⊢
        rw [hat.nt, ← hlex.nt]
        exact hb
    exact hK _ _ w μ hstep (s.put hb' (p := .v undef) (y := undef) rfl)
theorem RunU.any (R : RunU P ops σ0 p nb sg tl) {Q : Exit → Act → World → Prop} (hQ : ∀ σ a w μ, AtU ops.toList σ0 p nb (fun j => j < ops.size) σ → SimM X w0 σ a w μ → Q .normal a w) :
    ∀ (fuel : Nat) (listed : Array Bool) (σ : St) (a : Act) (w : World) (μ : LMap), listed.size = ops.size → cntB ops.size (fun i => !listed.getD i true) ≤ fuel → Closed ops.toList (fun j => listed.getD j false = true) →
      AtU ops.toList σ0 p nb (fun j => listed.getD j false = true) σ → SimM X w0 σ a w μ → wpAny P .any ops Q fuel listed a w := by
  have fin : ∀ (listed : Array Bool) (σ : St) (a : Act) (w : World) (μ : LMap), listed.size = ops.size → Region.ready .any ops listed = [] → AtU ops.toList σ0 p nb (fun j => listed.getD j false = true) σ → SimM X w0 σ a w μ → Q .normal a w := by
    intro listed σ a w μ hsz hr hat s
    have hall : ∀ n, ∀ j, j < n → j < ops.size → listed.getD j false = true := by
      intro n
      induction n with
      | zero => intro j h; omega
      | succ n ih =>
        intro j hj hjs
        rcases Nat.lt_or_ge j n with h1 | h1
        · exact ih j h1 hjs
        · obtain rfl : j = n := by omega
          cases hL : listed.getD j false with
          | true => rfl
          | false =>
            exfalso
            have hjo : ops[j]? = some ops[j] := Array.getElem?_eq_getElem hjs
            have hmem : j ∈ Region.ready .any ops listed := by
              rw [mem_ready]
              refine ⟨?_, ops[j], hjo, fun e he hb => ?_⟩
              · have hl : j < listed.size := by omega
                simp [Array.getD, hl] at hL ⊢
                exact hL
              · have he' : e ∈ ops[j].after.toList := by simpa using he
                have hlt := (regOK_spec R.reg (show ops.toList[j]? = some ops[j] from by rw [Array.getElem?_toList]; exact hjo)).1 e he' hb
                exact ih e.on hlt (by omega)
            rw [hr] at hmem
            cases hmem
    have e : ∀ j, j < ops.size → listed.getD j false = true := fun j hjs => hall (j + 1) j (by omega) hjs
    have e' : ∀ j o, ops.toList[j]? = some o → j < ops.size := fun j o hj => by have := (List.getElem?_eq_some_iff.1 hj).1; simpa using this
    refine hQ σ a w μ ⟨hat.nt, fun i o t hi hl hd => hat.inn i o t hi (e i hl) hd, fun t ht => hat.out t (fun i o hi _ => ht i o hi (e' i o hi)), fun id => ?_⟩ s
    rcases hat.blk id with ⟨k, ok, b, hk, _, hlk, hlast, hb⟩ | ⟨hno, hb⟩
    · exact .inl ⟨k, ok, b, hk, e' k ok hk, hlk, fun j oj hj hjs hkj => hlast j oj hj (e j hjs) hkj, hb⟩
    · exact .inr ⟨fun j oj hj hjs => hno j oj hj (e j hjs), hb⟩
  intro fuel
  induction fuel with
  | zero =>
    intro listed σ a w μ hsz hc hcl hat s
    have hr : Region.ready .any ops listed = [] := by
      rw [List.eq_nil_iff_forall_not_mem]
      intro i hi
      have h0 := (mem_ready.1 hi).1
      have hlt := (getD_true h0).1
      have hpos : 0 < cntB ops.size (fun i => !listed.getD i true) := by
        unfold cntB
        apply List.length_pos_of_mem (a := i)
        rw [List.mem_filter, List.mem_range]
        exact ⟨by omega, by rw [h0]; rfl⟩
      omega
    exact ⟨hr, fin listed σ a w μ hsz hr hat s⟩
  | succ fuel ih =>
    intro listed σ a w μ hsz hc hcl hat s
    refine ⟨fun hr => fin listed σ a w μ hsz hr hat s, fun i hi => ?_⟩
    obtain ⟨h0, o, hio, hpre⟩ := mem_ready.1 hi
    obtain ⟨hlt, hnl⟩ := getD_true h0
    have hil : ops.toList[i]? = some o := by simpa using hio
    refine R.one hat hcl hil (by rw [hnl]; decide) (fun e he hb => hpre e (by simpa using he) hb) s ?_
    intro σ' a' w' μ' hat' s'
    have hset : ∀ j, (listed.setIfInBounds i true).getD j false = true ↔ (j = i ∨ listed.getD j false = true) := by
      intro j
      by_cases hji : j = i
      · subst hji
        simp [Array.getD, hlt]
      · simp only [hji, false_or]
        by_cases hjl : j < listed.size
        · simp [Array.getD, hjl, Array.getElem_setIfInBounds, Ne.symm hji]
        · simp [Array.getD, hjl]
    have hDD : (fun j => (listed.setIfInBounds i true).getD j false = true) = fun j => j = i ∨ listed.getD j false = true := by
      funext j
      exact propext (hset j)
    refine ih (listed.setIfInBounds i true) σ' a' w' μ' (by simpa using hsz) ?_ ?_ (by rw [hDD]; exact hat') s'
    · have : cntB ops.size (fun k => !(listed.setIfInBounds i true).getD k true) < cntB ops.size (fun k => !listed.getD k true) := by
        unfold cntB
        refine filter_len_lt ?_ (y := i) ?_ ?_ _ (List.mem_range.2 (by omega))
        · intro k hk
          simp only [Bool.not_eq_true'] at hk ⊢
          have hk1 := (getD_true hk).1
          by_cases hki : k = i
          · subst hki; exact h0
          · have hkl : k < listed.size := by simpa using hk1
            simp [Array.getD, hkl, Array.getElem_setIfInBounds, Ne.symm hki] at hk ⊢
            exact hk
        · simp [Array.getD, hlt]
        · rw [h0]; rfl
      omega
    · rw [hDD]
      intro k ok hk hDk e he hb
      rcases hDk with rfl | hDk
      · rw [hil] at hk; injection hk with hk; subst hk
        exact .inr (hpre e (by simpa using he) hb)
      · exact .inr (hcl k ok hk hDk e he hb)
theorem PW.drawU {id : Nat} {l : List Oper} {σ σe : St} {tl : List (List Nat × List Nat)} {K : Exit → St → Prop} (hm : P.follows .mixedOrders = true) (hreg : regOK l = true) (hconf : confOK l tl = true) (hrun : URun P l.toArray l σ σe tl) (k : K .normal σe) : PW P X w0 (.region id l.toArray true) σ K := ⟨fun a w μ s => by
  obtain ⟨p, nb, sg, h0, he, hl, hst⟩ := hrun.steps
  have R : RunU P l.toArray σ p nb sg tl := ⟨by simpa using hreg, by simpa using hconf, h0, fun j o hj => by simpa using hst j o (by simpa using hj)⟩
  refine wp_region_any hm (R.any (X := X) (w0 := w0) ?_ _ _ σ a _ μ (by simp) ?_ ?_ ?_ (s.below (bdrew (a := w))))
  · intro σ' a' w' μ' hat s'
    have hlex := R.lex l.toArray.size (Nat.le_refl _)
    have hse : sg l.toArray.size = σe := by simpa using he
    rw [hse] at hlex
    refine ⟨σe, μ', k, s'.less (hlex.nt.trans hat.nt.symm) ?_ ?_⟩
    · intro t q hq
      by_cases hw : ∃ i o, l.toArray.toList[i]? = some o ∧ i < l.toArray.size ∧ o.dst = some t
      · obtain ⟨i, o, hi, hl, hd⟩ := hw
        rw [hlex.inn i o t hi hl hd] at hq
        rw [hat.inn i o t hi hl hd]; exact hq
      · rw [hlex.out t (fun i o hi hl hd => hw ⟨i, o, hi, hl, hd⟩)] at hq
        rw [hat.out t (fun i o hi hl hd => hw ⟨i, o, hi, hl, hd⟩)]; exact hq
    · intro id
      rcases hlex.blk id with ⟨i, o, b, hi, hil, hlb, hlast, hb⟩ | ⟨hno, hb⟩
      · rcases hat.blk id with ⟨i', o', b', hi', hil', hlb', hlast', hb'⟩ | ⟨hno', hb'⟩
        · have e : i = i' := by
            rcases Nat.lt_trichotomy i i' with h | h | h
            · rw [hlast i' o' hi' hil' h] at hlb'; cases hlb'
            · exact h
            · rw [hlast' i o hi hil h] at hlb; cases hlb
          subst e
          rw [hlb] at hlb'
          injection hlb' with hlb'
          rw [hb, hb', hlb']
        · rw [hno' i o hi hil] at hlb; cases hlb
      · rcases hat.blk id with ⟨i', o', b', hi', hil', hlb', hlast', hb'⟩ | ⟨hno', hb'⟩
        · rw [hno i' o' hi' hil'] at hlb'; cases hlb'
        · rw [hb, hb']
  · unfold cntB
    exact Nat.le_trans (List.length_filter_le _ _) (by simp)
  · intro i o _ h
    simp [Array.getD] at h
  · have e : (fun j => (Array.replicate l.toArray.size false).getD j false = true) = fun _ => False := by
      funext j
      simp [Array.getD]
    rw [e]
    exact ⟨rfl, fun _ _ _ _ h => h.elim, fun _ _ => rfl, fun _ => .inr ⟨fun _ _ _ h => h.elim, rfl⟩⟩⟩
end
end Go.Proofs.YtbjepdfnmbdplaaGreat
namespace Go.Proofs.YtbjepdfnmbdplaaGreat
set_option linter.unusedSimpArgs false
set_option linter.unusedVariables false
set_option linter.unusedSectionVars false
open Go.RowKit
inductive TK where
  | struct (fs : List (Nat × Nat × Bool)) (pl : List (Nat × Nat))
  | slice (e sz : Nat)
  | arr (n e sz : Nat)
  | str
  | int (k : IntKind)
  | bool
  | other
structure TI where
  ag : Bool
  sz : Nat
  kind : TK
  zero : Option (List Value)
  ez : Option (Value × Nat)
def fldsB (P : Program) (t : TypeId) : Option (List (Nat × Nat × Bool)) := match P.underlying t with
  | some (.struct fs) => fs.toList.mapM fun fl => (tyB P fl.type).map fun x => (fl.offset, x.2, x.1)
  | _ => none
def KindOK (P : Program) (t : TypeId) : TK → Prop
  | .struct fs pl => fldsB P t = some fs ∧ structB P t = some pl
  | .slice e sz => sliceB P t = some (e, sz)
  | .arr n e sz => arrB P t = some (n, e, sz)
  | .str => P.underlying t = some .string
  | .int k => P.underlying t = some (.int k)
  | .bool => P.underlying t = some .bool
  | .other => True
def ZeroOK (P : Program) (t : TypeId) : Option (List Value) → Prop
  | some z => zeroB P t = some z
  | none => True
def ezB (P : Program) (t : TypeId) : Option (Option Value × Nat × Nat) := (P.info? t).map fun i => (i.zero, i.size, i.bytes)
def EzOK (P : Program) (t : TypeId) (sz : Nat) : Option (Value × Nat) → Prop
  | some (z, b) => ezB P t = some (some z, sz, b)
  | none => True
structure TIok (P : Program) (t : TypeId) (i : TI) : Prop where
  ty : tyB P t = some (i.ag, i.sz)
  kind : KindOK P t i.kind
  zero : ZeroOK P t i.zero
  ez : EzOK P t i.sz i.ez
inductive TT where
  | e
  | n (v : Option TI) (l r : TT)
def TT.get : TT → Nat → Option TI
  | .e, _ => none
  | .n v l r, k => bif Nat.beq k 0 then v else bif Nat.beq (k % 2) 1 then l.get (k / 2) else r.get (k / 2 - 1)
def TT.Ok (P : Program) : TT → (Nat → Nat) → Prop
  | .e, _ => True
  | .n v l r, f => (∀ i, v = some i → TIok P (f 0) i) ∧ l.Ok P (fun k => f (2 * k + 1)) ∧ r.Ok P (fun k => f (2 * k + 2))
theorem TT.get_ok {P : Program} : ∀ {T : TT} {f : Nat → Nat}, T.Ok P f → ∀ {k : Nat} {i : TI}, T.get k = some i → TIok P (f k) i
  | .e, _, _, _, _, h => by cases h
  | .n v l r, f, h, k, i, hg => by
    unfold TT.get at hg
    cases h0 : Nat.beq k 0 with
    | true =>
      have := Nat.eq_of_beq_eq_true h0
      subst this
      rw [h0] at hg
      exact h.1 i hg
    | false =>
      have hk : k ≠ 0 := fun e => by subst e; cases h0
      rw [h0, cond_false] at hg
      cases h1 : Nat.beq (k % 2) 1 with
      | true =>
        have := Nat.eq_of_beq_eq_true h1
        rw [h1, cond_true] at hg
        have g := TT.get_ok h.2.1 hg
        rwa [show 2 * (k / 2) + 1 = k from by omega] at g
      | false =>
        have : k % 2 ≠ 1 := fun e => by rw [e] at h1; cases h1
        rw [h1, cond_false] at hg
        have g := TT.get_ok h.2.2 hg
        rwa [show 2 * (k / 2 - 1) + 2 = k from by omega] at g
def evE (env : List (Nat × PV)) : Operand → Option PV
  | .tmp t => look t env
  | .const x => some (.v x)
  | .func f => some (.fn (.func f) [] [])
  | .global _ => none
theorem evE_eq {nt : Nat} {env : List (Nat × PV)} {lh : List (Nat × LB)} (x : Operand) : (⟨nt, env, lh⟩ : St).ev x = evE env x := by cases x <;> rfl
def evL (env : List (Nat × PV)) : List Operand → Option (List PV)
  | [] => some []
  | x :: xs => match evE env x with
    | some p => match evL env xs with
      | some ps => some (p :: ps)
      | none => none
    | none => none
theorem evL_eq {nt : Nat} {env : List (Nat × PV)} {lh : List (Nat × LB)} : ∀ {xs : List Operand} {ps : List PV}, evL env xs = some ps → xs.mapM (⟨nt, env, lh⟩ : St).ev = some ps
  | [], ps, h => by injection h with h; subst h; rfl
  | x :: xs, ps, h => by
    unfold evL at h
    split at h
    · rename_i p hp
      split at h
      · rename_i qs hq
        injection h with h
        subst h
        rw [List.mapM_cons, evE_eq, hp, evL_eq hq]
        rfl
      · cases h
    · cases h
def evPl (env : List (Nat × PV)) : List (Nat × Operand) → Option (List (Nat × PV))
  | [] => some []
  | (i, x) :: l => match evE env x with
    | some p => match evPl env l with
      | some ps => some ((i, p) :: ps)
      | none => none
    | none => none
theorem evPl_eq {nt : Nat} {env : List (Nat × PV)} {lh : List (Nat × LB)} : ∀ {l : List (Nat × Operand)} {ps : List (Nat × PV)}, evPl env l = some ps → (⟨nt, env, lh⟩ : St).evP l = some ps
  | [], ps, h => by injection h with h; subst h; rfl
  | (i, x) :: l, ps, h => by
    unfold evPl at h
    split at h
    · rename_i p hp
      split at h
      · rename_i qs hq
        injection h with h
        subst h
        simp only [St.evP, evE_eq, hp, evPl_eq hq]
      · cases h
    · cases h
def evO (env : List (Nat × PV)) : Option Operand → Option (Option Int)
  | none => some none
  | some x => match evE env x with
    | some (.v (.int _ i)) => some (some i)
    | _ => none
inductive OpR where
  | ok (p : PV)
  | agg (cs : List PV)
  | sls (sz n : Nat) (cs : List PV)
  | mkr (ty sz : Nat)
  | eqs (t : Nat) (neg : Bool) (cs ds : List PV)
  | mk (b : LB)
  | need (q : Prop) (p : PV)
  | wrap (k : IntKind) (z : Int)
  | div (rem : Bool) (k : IntKind) (a b : Int)
  | ix (xs : List (List PV)) (i : Int)
  | ar (rem : List PV) (n : Nat) (i : Int)
  | ld (cs : List PV) (k : Nat)
  | len (xs : List (List PV))
  | br (b : Bool) (p q : PV)
  | cut (sz : Nat) (xs : List (List PV)) (l h : Option Int)
  | call (g : Nat) (args : List PV)
  | no
def bndOK : Option Int → Nat → Nat → Prop
  | some i, _, m => 0 ≤ i ∧ m = i.toNat
  | none, d, m => m = d
section
variable (P : Program) (dst : Option Tmp) (op : Op) (ty : TypeId) (pos : String) (after : Array Edge) (guard : Option (Nat × Bool)) (σ : St)
def OpR.Good : OpR → Prop
  | .ok p => OpOK P ⟨dst, op, ty, pos, after, guard⟩ σ p []
  | .agg cs => OpOK P ⟨dst, op, ty, pos, after, guard⟩ σ (.agg cs) []
  | .sls sz n cs => OpOK P ⟨dst, op, ty, pos, after, guard⟩ σ (.sl sz (chunks sz n cs)) []
  | .mkr e sz => ∀ d, dst = some d → OpOK P ⟨dst, op, ty, pos, after, guard⟩ σ (.row d 0) [(d, .row e sz 0 [])]
  | .eqs t neg cs ds => ∀ b : Bool, EqR P t cs ds b → OpOK P ⟨dst, op, ty, pos, after, guard⟩ σ (.v (.bool (bif neg then !b else b))) []
  | .mk b => ∀ d, dst = some d → OpOK P ⟨dst, op, ty, pos, after, guard⟩ σ (.lp d 0) [(d, b)]
  | .need q p => q → OpOK P ⟨dst, op, ty, pos, after, guard⟩ σ p []
  | .wrap k z => OpOK P ⟨dst, op, ty, pos, after, guard⟩ σ (.v (.int k (k.wrap z))) []
  | .div r k a b => b ≠ 0 → OpOK P ⟨dst, op, ty, pos, after, guard⟩ σ (.v (.int k (bif r then a.tmod b else k.wrap (a.tdiv b)))) []
  | .ix xs i => ∀ c, 0 ≤ i → xs[i.toNat]? = some c → OpOK P ⟨dst, op, ty, pos, after, guard⟩ σ (.ptr c) []
  | .ar cs n i => 0 ≤ i → i < n → ∀ p, cs[i.toNat]? = some p → OpOK P ⟨dst, op, ty, pos, after, guard⟩ σ p []
  | .ld cs k => ∀ p, cs[k]? = some p → OpOK P ⟨dst, op, ty, pos, after, guard⟩ σ p []
  | .len xs => OpOK P ⟨dst, op, ty, pos, after, guard⟩ σ (.v (.int .i64 (xs.length : Int))) []
  | .br b p q => (b = true → OpOK P ⟨dst, op, ty, pos, after, guard⟩ σ p []) ∧ (b = false → OpOK P ⟨dst, op, ty, pos, after, guard⟩ σ q [])
  | .cut sz xs l h => ∀ l' h', bndOK l 0 l' → bndOK h xs.length h' → l' ≤ h' → h' ≤ xs.length → OpOK P ⟨dst, op, ty, pos, after, guard⟩ σ (.sl sz ((xs.take h').drop l')) []
  | .call g args => ∀ r, Spec P g args r → closedL args = true → (r.noOwn = true → OpOK P ⟨dst, op, ty, pos, after, guard⟩ σ r []) ∧ (∀ d rt sz ys, dst = some d → r = .own rt sz ys → OpOK P ⟨dst, op, ty, pos, after, guard⟩ σ (.row d 0) [(d, .row rt sz 0 ys)])
  | .no => True
end
def kEq (k k' : IntKind) : Bool := decide (k = k')
noncomputable def binI (op : BinOp) (k : IntKind) (a b : Int) : OpR := match op with
  | .add => .wrap k (a + b)
  | .sub => .wrap k (a - b)
  | .mul => .wrap k (a * b)
  | .quo => .div false k a b
  | .rem => .div true k a b
  | .lss => .ok (.v (.bool (tst (a < b))))
  | .leq => .ok (.v (.bool (tst (a ≤ b))))
  | .gtr => .ok (.v (.bool (tst (b < a))))
  | .geq => .ok (.v (.bool (tst (b ≤ a))))
  | .eql => .ok (.v (.bool (tst (a = b))))
  | .neq => .ok (.v (.bool (!tst (a = b))))
  | .and => .ok (.v (.int k (bitI .and k a b)))
  | .or => .ok (.v (.int k (bitI .or k a b)))
  | _ => .no
noncomputable def binS (T : TT) (op : BinOp) (t : Nat) : PV → PV → OpR
  | .v (.int k a), .v (.int k' b) => match op with
    | .shl => .need (0 ≤ b) (.v (.int k (k.wrap (a * 2 ^ (min b.toNat k.bits)))))
    | .shr => .need (0 ≤ b) (.v (.int k (a.fdiv (2 ^ (min b.toNat k.bits)))))
    | op => bif kEq k k' then binI op k a b else .no
  | .v (.string a), .v (.string b) => match op with
    | .eql => .ok (.v (.bool (tst (a = b))))
    | .neq => .ok (.v (.bool (!tst (a = b))))
    | _ => .no
  | .v (.bool a), .v (.bool b) => match T.get t with
    | some ⟨_, _, .bool, _, _⟩ => match op with
      | .eql => .ok (.v (.bool (a == b)))
      | .neq => .ok (.v (.bool (!(a == b))))
      | _ => .no
    | _ => .no
  | .agg cs, .agg ds => match op with
    | .eql => .eqs t false cs ds
    | .neq => .eqs t true cs ds
    | _ => .no
  | _, _ => .no
def fieldS (T : TT) (s f : Nat) (cs : List PV) : OpR := match T.get s with
  | some ⟨_, _, .struct fs _, _, _⟩ => match fs[f]? with
    | some (off, n, true) => .agg ((cs.drop off).take n)
    | some (off, n, false) => bif Nat.beq n 1 then (match cs[off]? with | some p => .ok p | none => .no) else .no
    | none => .no
  | _ => .no
def fieldAS (T : TT) (s f : Nat) (lh : List (Nat × LB)) : PV → OpR := fun p => match T.get s with
  | some ⟨_, _, .struct fs _, _, _⟩ => match fs[f]? with
    | some (off, n, _) => bif Nat.beq n 0 then .no else match p with
      | .lp id k => .ok (.lp id (k + off))
      | .ptr cs => .ok (.ptr (cs.drop off))
      | .rp id ver sz i j => match look id lh with
        | some (.row _ sz' ver' _) => bif Nat.beq sz sz' && Nat.beq ver ver' then .ok (.rp id ver sz i (j + off)) else .no
        | _ => .no
      | _ => .no
    | none => .no
  | _ => .no
def loadS (T : TT) (t : Nat) (lh : List (Nat × LB)) : PV → OpR := fun p => match T.get t with
  | some ⟨ag, n, _, _, _⟩ => match p with
    | .lp id k => match look id lh with
      | some (.box cells) => bif ag then (bif Nat.beq k 0 && Nat.beq cells.length n then .ok (.agg cells) else bif Nat.ble (k + n) cells.length then .agg ((cells.drop k).take n) else .no)
        else bif Nat.beq n 1 then .ld cells k else .no
      | _ => .no
    | .ptr cs => bif ag then (bif Nat.beq cs.length n then .ok (.agg cs) else bif Nat.ble n cs.length then .agg (cs.take n) else .no)
        else bif Nat.beq n 1 then (match cs with | p :: _ => .ok p | [] => .no) else .no
    | _ => .no
  | none => .no
def indexAS (T : TT) (t : Nat) : PV → PV → OpR
  | .sl sz xs, .v (.int _ i) => match T.get t with
    | some ⟨_, _, .slice _ sz', _, _⟩ => bif Nat.beq sz sz' && !Nat.beq sz 0 then .ix xs i else .no
    | _ => .no
  | .lp id o, .v (.int _ i) => match T.get t with
    | some ⟨_, _, .arr n _ sz, _, _⟩ => .need (0 ≤ i ∧ i < n) (.lp id (o + i.toNat * sz))
    | _ => .no
  | .ptr cs, .v (.int _ i) => match T.get t with
    | some ⟨_, _, .arr n _ sz, _, _⟩ => .need (0 ≤ i ∧ i < n) (.ptr (cs.drop (i.toNat * sz)))
    | _ => .no
  | _, _ => .no
def indexS (T : TT) (t : Nat) : PV → PV → OpR
  | .agg cs, .v (.int _ i) => match T.get t with
    | some ⟨_, _, .arr n e sz, _, _⟩ => match T.get e with
      | some ⟨false, n1, _, _, _⟩ => bif Nat.beq sz 1 && Nat.beq n1 1 then .ar cs n i else .no
      | _ => .no
    | _ => .no
  | _, _ => .no
def buildS (T : TT) (t : Nat) (env : List (Nat × PV)) (parts : List (Nat × Operand)) : OpR := match T.get t with
  | some ⟨_, _, .struct _ pl, some zs, _⟩ => match evPl env parts with
    | some ps => match fillF (fun i => pl[i]?) (zs.map PV.v) ps with
      | some cs => bif zs.all Value.oneCell' then .agg cs else .no
      | none => .no
    | none => .no
  | _ => .no
def bslS (T : TT) (t : Nat) (n : Nat) (env : List (Nat × PV)) (parts : List (Nat × Operand)) : OpR := match T.get t with
  | some ⟨_, _, .slice e sz, _, _⟩ => match T.get e with
    | some ⟨_, sz', _, _, some (z, _)⟩ => bif Nat.beq n 0 then (match parts with | [] => (bif Nat.beq sz sz' && (Nat.beq z.cells.size sz && !Nat.beq sz 0 && z.cells.toList.all Value.oneCell') then .mkr e sz else .no) | _ => .no) else match evPl env parts with
      | some ps => match fillF (fun i => some (i * sz, sz)) (zeroPV n z.cells.toList) ps with
        | some cs => bif Nat.beq sz sz' && closedL cs && (Nat.ble (n * sz) 16777216 && Nat.beq z.cells.size sz && !Nat.beq sz 0 && z.cells.toList.all Value.oneCell') then .sls sz n cs else .no
        | none => .no
      | none => .no
    | _ => .no
  | _ => .no
def lenS (T : TT) (t : Nat) (lh : List (Nat × LB)) : PV → OpR
  | .sl _ xs => match T.get t with
    | some ⟨_, _, .slice _ _, _, _⟩ => .len xs
    | _ => .no
  | .v (.slice _ n _) => match T.get t with
    | some ⟨_, _, .slice _ _, _, _⟩ => .ok (.v (.int .i64 (n : Int)))
    | _ => .no
  | .v (.string s) => match T.get t with
    | some ⟨_, _, .str, _, _⟩ => .ok (.v (.int .i64 (s.size : Int)))
    | _ => .no
  | .row id ver => match T.get t, look id lh with
    | some ⟨_, _, .slice _ _, _, _⟩, some (.row _ _ ver' xs) => bif Nat.beq ver ver' then .len xs else .no
    | _, _ => .no
  | _ => .no
def boxS : PV → OpR
  | .agg cs => bif (PV.agg cs).lies then .mk (.box cs) else .no
  | p => bif p.lies then .mk (.box p.cells) else .no
def capp (first ps caps : List PV) : List PV := match first, caps with
  | [], [] => ps
  | _, _ => first ++ ps ++ caps
theorem capp_eq (first ps caps : List PV) : capp first ps caps = first ++ ps ++ caps := by
  unfold capp
  split
  · simp
  · rfl
def callS (T : TT) (c : Call) (env : List (Nat × PV)) (lh : List (Nat × LB)) : OpR := match c.callee with
  | .builtin b => match b, c.args.toList, c.argTypes.toList with
    | .len, [x], [t] => (match evE env x with | some p => lenS T t lh p | none => .no)
    | .max, [x, y], _ => (match evE env x, evE env y with | some (.v (.int .i64 i)), some (.v (.int .i64 j)) => .ok (.v (.int .i64 (max i j))) | _, _ => .no)
    | .min, [x, y], _ => (match evE env x, evE env y with | some (.v (.int .i64 i)), some (.v (.int .i64 j)) => .ok (.v (.int .i64 (min i j))) | _, _ => .no)
    | _, _, _ => .no
  | .value f => match evE env f with
    | some (.fn (.func g) first caps) => match evL env c.args.toList with
      | some ps => .call g (capp first ps caps)
      | none => .no
    | _ => .no
  | _ => .no
noncomputable def opS (T : TT) (nt : Nat) (env : List (Nat × PV)) (lh : List (Nat × LB)) : Op → OpR
  | .move x => (match evE env x with | some p => .ok p | none => .no)
  | .assign x => (match evE env x with | some p => .ok p | none => .no)
  | .pick c x y => (match evE env c with
    | some (.v (.bool b)) => match evE env x, evE env y with
      | some p, some q => .br b p q
      | _, _ => .no
    | _ => .no)
  | .extract x i => (match evE env x with
    | some (.tup cs) => match cs[i]? with
      | some p => .ok p
      | none => .no
    | _ => .no)
  | .nilCheck x => (match evE env x with
    | some (.lp id k) => .ok (.lp id k)
    | some (.ptr cs) => .ok (.ptr cs)
    | some (.fn (.func f) l r) => .ok (.fn (.func f) l r)
    | _ => .no)
  | .field s x f => (match evE env x with | some (.agg cs) => fieldS T s f cs | _ => .no)
  | .fieldAddr s x f => (match evE env x with | some p => fieldAS T s f lh p | none => .no)
  | .load t x => (match evE env x with | some p => loadS T t lh p | none => .no)
  | .indexAddr t x i => (match evE env x, evE env i with | some p, some q => indexAS T t p q | _, _ => .no)
  | .index t x i => (match evE env x, evE env i with | some p, some q => indexS T t p q | _, _ => .no)
  | .box _ x => (match evE env x with | some p => boxS p | none => .no)
  | .alloc e => (match T.get e with
    | some ⟨_, _, _, some zs, _⟩ => bif zs.all Value.oneCell' then .mk (.box (zs.map PV.v)) else .no
    | _ => .no)
  | .build t parts => buildS T t env parts.toList
  | .buildSlice t n parts => bslS T t n env parts.toList
  | .makeFunc fn first caps => (match evL env first.toList with
    | some ps => match evL env caps.toList with
      | some qs => .ok (.fn fn ps qs)
      | none => .no
    | none => .no)
  | .binOp op t x y _ => (match evE env x, evE env y with | some p, some q => binS T op t p q | _, _ => .no)
  | .unOp .not _ x => (match evE env x with | some (.v (.bool a)) => .ok (.v (.bool (!a))) | _ => .no)
  | .convert s t x => (match evE env x with
    | some (.v (.int k a)) => match T.get s with
      | some ⟨_, _, .int k1, _, _⟩ => match T.get t with
        | some ⟨_, _, .int k2, _, _⟩ => bif kEq k k1 then .wrap k2 a else .no
        | _ => .no
      | _ => .no
    | _ => .no)
  | .slice t x lo hi none => (match evE env x with
    | some (.sl sz xs) => match T.get t with
      | some ⟨_, _, .slice _ sz', _, _⟩ => match evO env lo with
        | some l => match evO env hi with
          | some h => bif Nat.beq sz sz' && !Nat.beq sz 0 then .cut sz xs l h else .no
          | none => .no
        | none => .no
      | _ => .no
    | _ => .no)
  | .call c => callS T c env lh
  | _ => .no
end Go.Proofs.YtbjepdfnmbdplaaGreat
namespace Go.Proofs.YtbjepdfnmbdplaaGreat
set_option linter.unusedSimpArgs false
set_option linter.unusedVariables false
set_option linter.unusedSectionVars false
open Go.RowKit
def kindB (P : Program) (t : TypeId) : TK → Bool
  | .struct fs pl => decide (fldsB P t = some fs) && decide (structB P t = some pl)
  | .slice e sz => decide (sliceB P t = some (e, sz))
  | .arr n e sz => decide (arrB P t = some (n, e, sz))
  | .str => (match P.underlying t with | some .string => true | _ => false)
  | .int k => (match P.underlying t with | some (.int k') => decide (k = k') | _ => false)
  | .bool => (match P.underlying t with | some .bool => true | _ => false)
  | .other => true
theorem kindOK_of {P : Program} {t : TypeId} {k : TK} (h : kindB P t k = true) : KindOK P t k := by
  cases k with
  | struct fs pl =>
    simp only [kindB, Bool.and_eq_true, decide_eq_true_eq] at h
    exact h
  | slice e sz =>
    have h : decide (sliceB P t = some (e, sz)) = true := h
    exact (decide_eq_true_iff (p := sliceB P t = some (e, sz))).1 h
  | arr n e sz =>
    have h : decide (arrB P t = some (n, e, sz)) = true := h
    exact (decide_eq_true_iff (p := arrB P t = some (n, e, sz))).1 h
  | str =>
    simp only [kindB] at h
    split at h
    · assumption
    · cases h
  | int k =>
    simp only [kindB] at h
    split at h
    · have := of_decide_eq_true h
      subst this
      assumption
    · cases h
  | bool =>
    simp only [kindB] at h
    split at h
    · assumption
    · cases h
  | other => trivial
theorem zeroOK_of {P : Program} {t : TypeId} {z : List Value} (h : zeroB P t = some z) : ZeroOK P t (some z) := h
theorem ezOK_of {P : Program} {t : TypeId} {sz b : Nat} {z : Value} (h : ezB P t = some (some z, sz, b)) : EzOK P t sz (some (z, b)) := h
theorem mapM_get {α β : Type} {g : α → Option β} : ∀ {l : List α} {r : List β}, l.mapM g = some r → ∀ (i : Nat) (b : β), r[i]? = some b → ∃ a, l[i]? = some a ∧ g a = some b
  | [], r, h, i, b, hi => by injection h with h; subst h; simp at hi
  | a :: l, r, h, i, b, hi => by
    rw [List.mapM_cons] at h
    cases hg : g a with
    | none => rw [hg] at h; cases h
    | some c =>
      cases hm : l.mapM g with
      | none => rw [hg, hm] at h; cases h
      | some cs =>
        rw [hg, hm] at h
        injection h with h
        subst h
        cases i with
        | zero => simp at hi; subst hi; exact ⟨a, rfl, hg⟩
        | succ i => simpa using mapM_get hm i b (by simpa using hi)
section
variable {P : Program} {T : TT} {dst : Option Tmp} {ty : TypeId} {pos : String} {after : Array Edge} {guard : Option (Nat × Bool)} {nt : Nat} {env : List (Nat × PV)} {lh : List (Nat × LB)}
theorem TT.at (hT : T.Ok P id) {t : Nat} {i : TI} (h : T.get t = some i) : TIok P t i := TT.get_ok hT h
theorem TIok.fld {t f off n : Nat} {ag : Bool} {i : TI} {fs : List (Nat × Nat × Bool)} {pl : List (Nat × Nat)} (h : TIok P t i) (hk : i.kind = .struct fs pl) (hf : fs[f]? = some (off, n, ag)) : FieldT P t f off n ag := by
  have h1 := h.kind
  rw [hk] at h1
  have h2 := h1.1
  refine ⟨?_⟩
  unfold fldsB at h2
  unfold fldB
  split at h2
  · rename_i l hu
    rw [hu]
    obtain ⟨fl, hl, hg⟩ := mapM_get h2 f _ hf
    simp only [show l[f]? = some fl from by simpa using hl, Option.bind_some]
    exact hg
  · cases h2
theorem good_field (hT : T.Ok P id) (hd : inB ⟨nt, env, lh⟩ dst = true) {s f : Nat} {x : Operand} {cs : List PV} (hx : evE env x = some (.agg cs)) : (fieldS T s f cs).Good P dst (.field s x f) ty pos after guard ⟨nt, env, lh⟩ := by
  unfold fieldS
  split
  · rename_i h0
    have h := TT.at hT h0
    split
    · rename_i hf
      have := h.fld rfl hf
      exact ok_fieldN (by rw [evE_eq]; exact hx) hd
    · rename_i off n hf
      have hF := h.fld rfl hf
      cases hn : Nat.beq n 1 with
      | false => trivial
      | true =>
        have := Nat.eq_of_beq_eq_true hn
        subst this
        rw [cond_true]
        split
        · exact ok_field1 (by rw [evE_eq]; exact hx) ‹_› hd
        · trivial
    · trivial
  · trivial
theorem beq_false_ne {n m : Nat} (h : Nat.beq n m = false) : n ≠ m := fun e => by subst e; simp at h
theorem good_fieldA (hT : T.Ok P id) (hd : inB ⟨nt, env, lh⟩ dst = true) {s f : Nat} {x : Operand} {p : PV} (hx : evE env x = some p) : (fieldAS T s f lh p).Good P dst (.fieldAddr s x f) ty pos after guard ⟨nt, env, lh⟩ := by
  unfold fieldAS
  split
  · rename_i h0
    have h := TT.at hT h0
    split
    · rename_i hf
      have hF := h.fld rfl hf
      cases hn : Nat.beq _ 0 with
      | true => trivial
      | false =>
        have hne := beq_false_ne hn
        rw [cond_false]
        split
        · exact ok_fieldAddr_lp (by rw [evE_eq]; exact hx) hne hd
        · exact ok_fieldAddr_ptr (by rw [evE_eq]; exact hx) hne hd
        · split
          · rename_i id ver sz i j _ rt sz' ver' xs hb
            cases hc : (Nat.beq sz sz' && Nat.beq ver ver') with
            | false => trivial
            | true =>
              rw [Bool.and_eq_true] at hc
              have e1 := Nat.eq_of_beq_eq_true hc.1
              have e2 := Nat.eq_of_beq_eq_true hc.2
              subst e1 e2
              exact ok_fieldAddr_rp (by rw [evE_eq]; exact hx) hne ⟨_, _, hb⟩ hd
          · trivial
        · trivial
    · trivial
  · trivial
theorem good_load (hT : T.Ok P id) (hd : inB ⟨nt, env, lh⟩ dst = true) {t : Nat} {x : Operand} {p : PV} (hx : evE env x = some p) : (loadS T t lh p).Good P dst (.load t x) ty pos after guard ⟨nt, env, lh⟩ := by
  unfold loadS
  split
  · rename_i ag n _ _ _ h0
    have h := TT.at hT h0
    have hz : TySz P t ag n := ⟨h.ty⟩
    have hx' : (⟨nt, env, lh⟩ : St).ev x = some p := by rw [evE_eq]; exact hx
    split
    · rename_i id k
      split
      · rename_i cells hb
        cases ag with
        | true =>
          rw [cond_true]
          cases hc : (Nat.beq k 0 && Nat.beq cells.length n) with
          | true =>
            rw [Bool.and_eq_true] at hc
            have e1 := Nat.eq_of_beq_eq_true hc.1
            subst e1
            exact ok_loadA_lp hx' hb hc.2 hd
          | false =>
            rw [cond_false]
            cases hc : Nat.ble (k + n) cells.length with
            | true => exact ok_loadN_lp hx' hb hc hd
            | false => trivial
        | false =>
          rw [cond_false]
          cases hn : Nat.beq n 1 with
          | false => trivial
          | true =>
            have e1 := Nat.eq_of_beq_eq_true hn
            subst e1
            exact fun p hp => ok_load1_lp hx' hb hp hd
      · trivial
    · rename_i cs
      cases ag with
      | true =>
        rw [cond_true]
        cases hc : Nat.beq cs.length n with
        | true => exact ok_loadA_ptr hx' hc hd
        | false =>
          rw [cond_false]
          cases hc : Nat.ble n cs.length with
          | true => exact ok_loadN_ptr hx' hc hd
          | false => trivial
      | false =>
        rw [cond_false]
        cases hn : Nat.beq n 1 with
        | false => trivial
        | true =>
          have e1 := Nat.eq_of_beq_eq_true hn
          subst e1
          rw [cond_true]
          cases cs with
          | nil => trivial
          | cons p cs => exact ok_load1_ptr hx' rfl hd
    · trivial
  · trivial
theorem good_indexA (hT : T.Ok P id) (hd : inB ⟨nt, env, lh⟩ dst = true) {t : Nat} {x ix : Operand} {p q : PV} (hx : evE env x = some p) (hi : evE env ix = some q) : (indexAS T t p q).Good P dst (.indexAddr t x ix) ty pos after guard ⟨nt, env, lh⟩ := by
  have hx' : (⟨nt, env, lh⟩ : St).ev x = some p := by rw [evE_eq]; exact hx
  have hi' : (⟨nt, env, lh⟩ : St).ev ix = some q := by rw [evE_eq]; exact hi
  unfold indexAS
  split
  · rename_i sz xs k i
    split
    · rename_i e sz' _ _ h0
      have h := TT.at hT h0
      cases hc : (Nat.beq sz sz' && !Nat.beq sz 0) with
      | false => trivial
      | true =>
        rw [Bool.and_eq_true] at hc
        have e1 := Nat.eq_of_beq_eq_true hc.1
        subst e1
        have : SliceT P t e sz := ⟨h.kind⟩
        exact fun c h0 hcc => ok_indexAddr_sl hx' hi' h0 hcc (beq_false_ne (by simpa using hc.2)) hd
    · trivial
  · split
    · rename_i n e sz _ _ h0
      have h := TT.at hT h0
      have : ArrT P t n e sz := ⟨h.kind⟩
      exact fun hq => ok_indexAddr_arr hx' hi' hq.1 hq.2 hd
    · trivial
  · split
    · rename_i n e sz _ _ h0
      have h := TT.at hT h0
      have : ArrT P t n e sz := ⟨h.kind⟩
      exact fun hq => ok_indexAddr_arrp hx' hi' hq.1 hq.2 hd
    · trivial
  · trivial
theorem good_index (hT : T.Ok P id) (hd : inB ⟨nt, env, lh⟩ dst = true) {t : Nat} {x ix : Operand} {p q : PV} (hx : evE env x = some p) (hi : evE env ix = some q) : (indexS T t p q).Good P dst (.index t x ix) ty pos after guard ⟨nt, env, lh⟩ := by
  have hx' : (⟨nt, env, lh⟩ : St).ev x = some p := by rw [evE_eq]; exact hx
  have hi' : (⟨nt, env, lh⟩ : St).ev ix = some q := by rw [evE_eq]; exact hi
  unfold indexS
  split
  · split
    · rename_i n e sz _ _ h0
      have h := TT.at hT h0
      split
      · rename_i n1 _ _ _ h1
        have h2 := TT.at hT h1
        cases hc : (Nat.beq sz 1 && Nat.beq n1 1) with
        | false => trivial
        | true =>
          rw [Bool.and_eq_true] at hc
          have e1 := Nat.eq_of_beq_eq_true hc.1
          have e2 := Nat.eq_of_beq_eq_true hc.2
          subst e1 e2
          have : ArrT P t n e 1 := ⟨h.kind⟩
          have : TySz P e false 1 := ⟨h2.ty⟩
          exact fun g0 g1 p hp => ok_index_arr1 hx' hi' g0 g1 hp hd
      · trivial
    · trivial
  · trivial
theorem good_build (hT : T.Ok P id) (hd : inB ⟨nt, env, lh⟩ dst = true) {t : Nat} {parts : Array (Nat × Operand)} : (buildS T t env parts.toList).Good P dst (.build t parts) ty pos after guard ⟨nt, env, lh⟩ := by
  unfold buildS
  simp only [fillF_eq]
  split
  · rename_i fs pl zs _ h0
    have h := TT.at hT h0
    have h1 : StructT P t pl := ⟨h.kind.2⟩
    have h2 : ZeroT P t zs := ⟨h.zero⟩
    split
    · rename_i ps hps
      split
      · rename_i cs hcs
        cases hc : zs.all Value.oneCell' with
        | false => trivial
        | true =>
          have := ok_build (P := P) (σ := ⟨nt, env, lh⟩) (dst := dst) (ty := ty) (pos := pos) (after := after) (guard := guard) (t := t) (parts := parts.toList) (evPl_eq hps) hcs hc hd
          rw [Array.toArray_toList] at this
          exact this
      · trivial
    · trivial
  · trivial
theorem good_bsl (hT : T.Ok P id) (hd : inB ⟨nt, env, lh⟩ dst = true) {t n : Nat} {parts : Array (Nat × Operand)} : (bslS T t n env parts.toList).Good P dst (.buildSlice t n parts) ty pos after guard ⟨nt, env, lh⟩ := by
  unfold bslS
  simp only [fillF_eq]
  split
  · rename_i e sz _ _ h0
    have h := TT.at hT h0
    have h1 : SliceT P t e sz := ⟨h.kind⟩
    split
    · rename_i sz' _ _ z b h00
      have h2 := TT.at hT h00
      cases hn0 : Nat.beq n 0 with
      | true =>
        have := Nat.eq_of_beq_eq_true hn0
        subst this
        rw [cond_true]
        split
        · rename_i hp
          cases hc : (Nat.beq sz sz' && (Nat.beq z.cells.size sz && !Nat.beq sz 0 && z.cells.toList.all Value.oneCell')) with
          | false => trivial
          | true =>
            rw [Bool.and_eq_true] at hc
            have e1 := Nat.eq_of_beq_eq_true hc.1
            subst e1
            have : ElemT P e z sz b := ⟨h2.ez⟩
            intro d hdd
            subst hdd
            exact ok_nilrow hp hc.2 hd
        · trivial
      | false =>
      rw [cond_false]
      split
      · rename_i ps hps
        split
        · rename_i cs hcs
          cases hc : (Nat.beq sz sz' && closedL cs && (Nat.ble (n * sz) 16777216 && Nat.beq z.cells.size sz && !Nat.beq sz 0 && z.cells.toList.all Value.oneCell')) with
          | false => trivial
          | true =>
            rw [Bool.and_eq_true, Bool.and_eq_true] at hc
            have e1 := Nat.eq_of_beq_eq_true hc.1.1
            subst e1
            have : ElemT P e z sz b := ⟨h2.ez⟩
            have := ok_lit (P := P) (σ := ⟨nt, env, lh⟩) (dst := dst) (ty := ty) (pos := pos) (after := after) (guard := guard) (t := t) (n := n) (parts := parts.toList) (evPl_eq hps) hcs hc.1.2 hc.2 hd
            rw [Array.toArray_toList] at this
            exact this
        · trivial
      · trivial
    · trivial
  · trivial
theorem good_binI (hd : inB ⟨nt, env, lh⟩ dst = true) {op : BinOp} {t yt : Nat} {x y : Operand} {k : IntKind} {a b : Int} (hx : evE env x = some (.v (.int k a))) (hy : evE env y = some (.v (.int k b))) : (binI op k a b).Good P dst (.binOp op t x y yt) ty pos after guard ⟨nt, env, lh⟩ := by
  have hx' : (⟨nt, env, lh⟩ : St).ev x = some (.v (.int k a)) := by rw [evE_eq]; exact hx
  have hy' : (⟨nt, env, lh⟩ : St).ev y = some (.v (.int k b)) := by rw [evE_eq]; exact hy
  cases op <;> first | trivial | exact ok_addW hx' hy' hd | exact ok_subW hx' hy' hd | exact ok_mulW hx' hy' hd | exact fun h => ok_quoT hx' hy' hd h | exact ok_lss hx' hy' hd | exact ok_leq hx' hy' hd | exact ok_gtr hx' hy' hd | exact ok_geq hx' hy' hd | exact ok_eql hx' hy' hd | exact ok_neq hx' hy' hd | exact ok_and hx' hy' hd | exact ok_or hx' hy' hd | skip
  exact fun hb => ok_bin hx' hy' (fun w => by simp [eqGuard, binOp, Op.intDiv, hb]) hd
theorem good_bin (hT : T.Ok P id) (hd : inB ⟨nt, env, lh⟩ dst = true) {op : BinOp} {t yt : Nat} {x y : Operand} {p q : PV} (hx : evE env x = some p) (hy : evE env y = some q) : (binS T op t p q).Good P dst (.binOp op t x y yt) ty pos after guard ⟨nt, env, lh⟩ := by
  have hx' : (⟨nt, env, lh⟩ : St).ev x = some p := by rw [evE_eq]; exact hx
  have hy' : (⟨nt, env, lh⟩ : St).ev y = some q := by rw [evE_eq]; exact hy
  unfold binS
  split
  · rename_i k a k' b
    split
    · exact fun h => ok_shl hx' hy' hd h
    · exact fun h => ok_shr hx' hy' hd h
    · cases hk : kEq k k' with
      | false => trivial
      | true =>
        have e := of_decide_eq_true hk
        subst e
        exact good_binI hd hx hy
  · split
    · exact ok_eqlS hx' hy' hd
    · exact ok_neqS hx' hy' hd
    · trivial
  · split
    · rename_i h0
      have h := TT.at hT h0
      have : BoolT P t := ⟨h.kind⟩
      split
      · exact ok_eqlB hx' hy' hd
      · exact ok_neqB hx' hy' hd
      · trivial
    · trivial
  · split
    · exact fun b hE => ok_eqR (neg := false) hE hx' hy' hd
    · exact fun b hE => ok_eqR (neg := true) hE hx' hy' hd
    · trivial
  · trivial
theorem good_len (hT : T.Ok P id) (hd : inB ⟨nt, env, lh⟩ dst = true) {t : Nat} {x : Operand} {p : PV} (hx : evE env x = some p) : (lenS T t lh p).Good P dst (.call { callee := .builtin .len, args := #[x], argTypes := #[t] }) ty pos after guard ⟨nt, env, lh⟩ := by
  have hx' : (⟨nt, env, lh⟩ : St).ev x = some p := by rw [evE_eq]; exact hx
  unfold lenS
  split
  · split
    · rename_i e sz _ _ h0
      have h := TT.at hT h0
      have : SliceT P t e sz := ⟨h.kind⟩
      exact ok_len hx' hd
    · trivial
  · split
    · rename_i e sz _ _ h0
      have h := TT.at hT h0
      have : SliceT P t e sz := ⟨h.kind⟩
      exact ok_len_nil hx' hd
    · trivial
  · split
    · rename_i h0
      have h := TT.at hT h0
      have : StrT P t := ⟨h.kind⟩
      exact ok_len_str hx' hd
    · trivial
  · split
    · rename_i id ver _ _ _ _ e sz _ _ rt sz' ver' xs h0 hb
      have h := TT.at hT h0
      have : SliceT P t e sz := ⟨h.kind⟩
      cases hv : Nat.beq ver ver' with
      | false => trivial
      | true =>
        have := Nat.eq_of_beq_eq_true hv
        subst this
        exact ok_len_row hx' hb hd
    · trivial
  · trivial
theorem toList1 {α : Type} {a : Array α} {x : α} (h : a.toList = [x]) : a = #[x] := by apply Array.ext'; simpa using h
theorem toList2 {α : Type} {a : Array α} {x y : α} (h : a.toList = [x, y]) : a = #[x, y] := by apply Array.ext'; simpa using h
theorem good_call (hT : T.Ok P id) (hd : inB ⟨nt, env, lh⟩ dst = true) {c : Call} : (callS T c env lh).Good P dst (.call c) ty pos after guard ⟨nt, env, lh⟩ := by
  obtain ⟨cal, args, ats⟩ := c
  unfold callS
  split
  · rename_i b hb
    simp only at hb
    subst hb
    split
    · rename_i x t ha ht
      simp only at ha ht
      rw [toList1 ha, toList1 ht]
      split
      · exact good_len hT hd ‹_›
      · trivial
    · rename_i x y _ ha
      simp only at ha
      rw [toList2 ha]
      split
      · rename_i i j hx hy
        have := ok_minmax (P := P) (mx := true) (σ := ⟨nt, env, lh⟩) (dst := dst) (t := ty) (pos := pos) (after := after) (guard := guard) (ats := ats) (by rw [evE_eq]; exact hx) (by rw [evE_eq]; exact hy) hd
        simp only [if_true] at this
        exact this
      · trivial
    · rename_i x y _ ha
      simp only at ha
      rw [toList2 ha]
      split
      · rename_i i j hx hy
        have := ok_minmax (P := P) (mx := false) (σ := ⟨nt, env, lh⟩) (dst := dst) (t := ty) (pos := pos) (after := after) (guard := guard) (ats := ats) (by rw [evE_eq]; exact hx) (by rw [evE_eq]; exact hy) hd
        simp only [Bool.false_eq_true, if_false] at this
        exact this
      · trivial
    · trivial
  · rename_i f hf
    simp only at hf
    subst hf
    split
    · rename_i g first caps hg
      split
      · rename_i ps hps
        intro r hs hcl
        rw [capp_eq] at hs hcl
        refine ⟨fun hno => ?_, fun d rt sz ys hdd hr => ?_⟩
        · have := ok_call (P := P) (σ := ⟨nt, env, lh⟩) (dst := dst) (ty := ty) (pos := pos) (after := after) (guard := guard) (ats := ats) (xs := args.toList) (by rw [evE_eq]; exact hg) (evL_eq hps) hs hcl hno hd
          rw [Array.toArray_toList] at this
          exact this
        · subst hdd hr
          have := ok_call_own (P := P) (σ := ⟨nt, env, lh⟩) (d := d) (ty := ty) (pos := pos) (after := after) (guard := guard) (ats := ats) (xs := args.toList) (by rw [evE_eq]; exact hg) (evL_eq hps) hs hcl hd
          rw [Array.toArray_toList] at this
          exact this
      · trivial
    · trivial
  · trivial
theorem evO_bnd {lo : Option Operand} {l : Option Int} {d m : Nat} (h : evO env lo = some l) (hm : bndOK l d m) : Bnd ⟨nt, env, lh⟩ lo d m := by
  cases lo with
  | none =>
    injection h with h
    subst h
    have : m = d := hm
    subst this
    exact .no
  | some x =>
    simp only [evO] at h
    split at h
    · rename_i k i hx
      injection h with h
      subst h
      obtain ⟨h0, h1⟩ := hm
      rw [h1]
      exact .lit (by rw [evE_eq]; exact hx) h0
    · cases h
theorem opS_good (hT : T.Ok P id) (hd : inB ⟨nt, env, lh⟩ dst = true) (op : Op) : (opS T nt env lh op).Good P dst op ty pos after guard ⟨nt, env, lh⟩ := by
  have E : ∀ {x : Operand} {p : PV}, evE env x = some p → (⟨nt, env, lh⟩ : St).ev x = some p := fun h => by rw [evE_eq]; exact h
  unfold opS
  split
  · split
    · exact ok_move (E ‹_›) hd
    · trivial
  · split
    · exact ok_assign (E ‹_›) hd
    · trivial
  · split
    · rename_i b hb
      split
      · rename_i p q hp hq
        refine ⟨fun h => ?_, fun h => ?_⟩
        · subst h; exact ok_pick_t (E hb) (E hp) hd
        · subst h; exact ok_pick_f (E hb) (E hq) hd
      · trivial
    · trivial
  · split
    · split
      · exact ok_extract (E ‹_›) ‹_› hd
      · trivial
    · trivial
  · split
    · exact ok_nilCheck_lp (E ‹_›) hd
    · exact ok_nilCheck_ptr (E ‹_›) hd
    · exact ok_nilCheck_fn (E ‹_›) hd
    · trivial
  · split
    · exact good_field hT hd ‹_›
    · trivial
  · split
    · exact good_fieldA hT hd ‹_›
    · trivial
  · split
    · exact good_load hT hd ‹_›
    · trivial
  · split
    · exact good_indexA hT hd ‹_› ‹_›
    · trivial
  · split
    · exact good_index hT hd ‹_› ‹_›
    · trivial
  · rename_i el x
    split
    · rename_i p hp
      have key : OpR.Good P dst (.box el x) ty pos after guard ⟨nt, env, lh⟩ (bif p.lies then .mk (.box p.cells) else .no) := by
        cases hl : p.lies with
        | false => trivial
        | true =>
          intro d h
          subst h
          exact ok_box (E hp) hl hd
      cases p <;> exact key
    · trivial
  · split
    · rename_i zs _ h0
      have h := TT.at hT h0
      cases ho : zs.all Value.oneCell' with
      | false => trivial
      | true =>
        intro d hdd
        subst hdd
        have : ZeroT P _ zs := ⟨h.zero⟩
        exact ok_alloc ho hd
    · trivial
  · exact good_build hT hd
  · exact good_bsl hT hd
  · rename_i fn first caps
    split
    · rename_i ps hps
      split
      · rename_i qs hqs
        have := ok_makeFunc (P := P) (σ := ⟨nt, env, lh⟩) (dst := dst) (ty := ty) (pos := pos) (after := after) (guard := guard) (fn := fn) (first := first.toList) (caps := caps.toList) (evL_eq hps) (evL_eq hqs) hd
        rw [Array.toArray_toList, Array.toArray_toList] at this
        exact this
      · trivial
    · trivial
  · split
    · exact good_bin hT hd ‹_› ‹_›
    · trivial
  · split
    · exact ok_not (E ‹_›) hd
    · trivial
  · split
    · rename_i k a hx
      split
      · rename_i k1 _ _ h0
        have h1 := TT.at hT h0
        split
        · rename_i k2 _ _ h00
          have h2 := TT.at hT h00
          cases hk : kEq k k1 with
          | false => trivial
          | true =>
            have e := of_decide_eq_true hk
            subst e
            have : IntT P _ k := ⟨h1.kind⟩
            have : IntT P _ k2 := ⟨h2.kind⟩
            exact ok_convI (E hx) hd
        · trivial
      · trivial
    · trivial
  · split
    · rename_i sz xs hx
      split
      · rename_i e sz' _ _ h0
        have h := TT.at hT h0
        split
        · rename_i l hl
          split
          · rename_i hh hhh
            cases hc : (Nat.beq sz sz' && !Nat.beq sz 0) with
            | false => trivial
            | true =>
              rw [Bool.and_eq_true] at hc
              have e1 := Nat.eq_of_beq_eq_true hc.1
              subst e1
              have : SliceT P _ e sz := ⟨h.kind⟩
              exact fun l' h' h1 h2 h3 h4 => ok_slice (E hx) (evO_bnd hl h1) (evO_bnd hhh h2) h3 h4 (beq_false_ne (by simpa using hc.2)) hd
          · trivial
        · trivial
      · trivial
    · trivial
  · exact good_call hT hd
  · trivial
end
end Go.Proofs.YtbjepdfnmbdplaaGreat
namespace Go.Proofs.YtbjepdfnmbdplaaGreat
set_option linter.unusedSimpArgs false
set_option linter.unusedVariables false
set_option linter.unusedSectionVars false
open Go.RowKit
inductive Fr where
  | seq (c : Code)
  | blk (k : Nat)
  | lp (n : Nat) (c : Code)
inductive Md where
  | code (c : Code)
  | ops (a : Array Oper) (l : List Oper)
  | dops (a : Array Oper) (l : List Oper) (tl : List (List Nat × List Nat))
  | ex (e : Exit)
structure Mc where
  md : Md
  nt : Nat
  env : List (Nat × PV)
  lh : List (Nat × LB)
  fs : List Fr
inductive StepR where
  | next (M : Mc)
  | fin (e : Exit) (σ : St)
  | br (b : Bool) (r1 r2 : StepR)
  | need (q : Prop) (r : StepR)
  | wrap (k : IntKind) (z : Int) (C : Int → StepR)
  | div (r : Bool) (k : IntKind) (a b : Int) (C : Int → StepR)
  | ix (xs : List (List PV)) (i : Int) (C : List PV → StepR)
  | ar (cs : List PV) (n : Nat) (i : Int) (C : PV → StepR)
  | ld (cs : List PV) (k : Nat) (C : PV → StepR)
  | eqs (t : Nat) (neg : Bool) (cs ds : List PV) (C : Bool → StepR)
  | len (xs : List (List PV)) (C : Int → StepR)
  | cut (xs : List (List PV)) (l h : Option Int) (C : List (List PV) → StepR)
  | call (g : Nat) (args : List PV) (d : Nat) (A : PV → Option LB → StepR) (M0 : Mc)
  | stop (M0 : Mc)
def forceL : List PV → (List PV → StepR) → StepR
  | [], k => k []
  | a :: l, k => forceL l fun l' => k (a :: l')
theorem forceL_eq : ∀ (l : List PV) (k : List PV → StepR), forceL l k = k l
  | [], _ => rfl
  | a :: l, k => forceL_eq l fun l' => k (a :: l')
def forceT : Nat → List PV → (List PV → List PV → StepR) → StepR
  | 0, cs, k => k [] cs
  | _ + 1, [], k => k [] []
  | s + 1, c :: cs, k => forceT s cs fun e r => k (c :: e) r
theorem forceT_eq : ∀ (s : Nat) (cs : List PV) (k : List PV → List PV → StepR), forceT s cs k = k (cs.take s) (cs.drop s)
  | 0, _, _ => rfl
  | s + 1, [], k => by simp [forceT]
  | s + 1, c :: cs, k => by simp only [forceT, forceT_eq s cs, List.take_succ_cons, List.drop_succ_cons]
def forceN (sz : Nat) : Nat → List PV → (List (List PV) → StepR) → StepR
  | 0, _, k => k []
  | n + 1, cs, k => forceT sz cs fun e r => forceN sz n r fun es => k (e :: es)
theorem chunks_succ {α : Type} (sz n : Nat) (cs : List α) : chunks sz (n + 1) cs = cs.take sz :: chunks sz n (cs.drop sz) := by
  unfold chunks
  rw [List.range_succ_eq_map, List.map_cons, List.map_map]
  simp only [Nat.zero_mul, List.drop_zero]
  congr 1
  apply List.map_congr_left
  intro i _
  simp only [Function.comp, List.drop_drop]
  rw [Nat.succ_mul, Nat.add_comm]
theorem forceN_eq (sz : Nat) : ∀ (n : Nat) (cs : List PV) (k : List (List PV) → StepR), forceN sz n cs k = k (chunks sz n cs)
  | 0, _, _ => rfl
  | n + 1, cs, k => by
    rw [forceN, forceT_eq, forceN_eq sz n, chunks_succ]
def opK (r : OpR) (d : Nat) (A : PV → Option LB → StepR) (M0 : Mc) : StepR := match r with
  | .ok p => A p none
  | .agg cs => forceL cs fun cs => A (.agg cs) none
  | .sls sz n cs => forceN sz n cs fun xs => A (.sl sz xs) none
  | .mk b => A (.lp d 0) (some b)
  | .need q p => .need q (A p none)
  | .wrap k z => .wrap k z fun z => A (.v (.int k z)) none
  | .div r k a b => .div r k a b fun z => A (.v (.int k z)) none
  | .ix xs i => .ix xs i fun c => A (.ptr c) none
  | .ar cs n i => .ar cs n i fun p => A p none
  | .ld cs k => .ld cs k fun p => A p none
  | .mkr e sz => A (.row d 0) (some (.row e sz 0 []))
  | .eqs t neg cs ds => .eqs t neg cs ds fun b => A (.v (.bool b)) none
  | .len xs => .len xs fun n => A (.v (.int .i64 n)) none
  | .br b p q => .br b (A p none) (A q none)
  | .cut sz xs l h => .cut xs l h fun ys => A (.sl sz ys) none
  | .call g args => forceL args fun args => .call g args d A M0
  | .no => .stop M0
def putA (a : Array Oper) (l : List Oper) (nt : Nat) (env : List (Nat × PV)) (lh : List (Nat × LB)) (fs : List Fr) (d : Nat) (M0 : Mc) : PV → Option LB → StepR
  | p, none => .next ⟨.ops a l, nt, (d, p) :: env, lh, fs⟩
  | p, some b => match look d lh with
    | none => .next ⟨.ops a l, nt, (d, p) :: env, (d, b) :: lh, fs⟩
    | some _ => .stop M0
def forceI : List Nat → (List Nat → StepR) → StepR
  | [], k => k []
  | a :: l, k => forceI l fun l' => k (a :: l')
theorem forceI_eq : ∀ (l : List Nat) (k : List Nat → StepR), forceI l k = k l
  | [], _ => rfl
  | a :: l, k => forceI_eq l fun l' => k (a :: l')
def putD (a : Array Oper) (o : Oper) (l : List Oper) (tl : List (List Nat × List Nat)) (nt : Nat) (env : List (Nat × PV)) (lh : List (Nat × LB)) (fs : List Fr) (d : Nat) (M0 : Mc) : PV → Option LB → StepR
  | p, none => forceI ((⟨nt, env, lh⟩ : St).ids o) fun ids => .next ⟨.dops a l (([], ids) :: tl), nt, (d, p) :: env, lh, fs⟩
  | p, some b => match look d lh with
    | none => forceI ((⟨nt, env, lh⟩ : St).ids o) fun ids => .next ⟨.dops a l (([d], ids) :: tl), nt, (d, p) :: env, (d, b) :: lh, fs⟩
    | some _ => .stop M0
def gT (ops : Array Oper) (j : Nat) (env : List (Nat × PV)) : Option (Nat × Option Bool) := match ops[j]? with
  | some oj => match oj.dst with
    | some t => match look t env with
      | some (.v (.bool b)) => some (t, some b)
      | some (.v (.tuple ⟨[]⟩)) => some (t, none)
      | _ => none
    | none => none
  | none => none
theorem gT_spec {ops : Array Oper} {j : Nat} {env : List (Nat × PV)} {t : Nat} {b : Bool} (h : gT ops j env = some (t, some b)) : ∃ oj, ops[j]? = some oj ∧ oj.dst = some t ∧ look t env = some (.v (.bool b)) := by
  unfold gT at h
  split at h
  · split at h
    · split at h
      · injection h with h
        injection h with h1 h2
        injection h2 with h2
        subst h1 h2
        exact ⟨_, ‹_›, ‹_›, ‹_›⟩
      · injection h with h
        injection h with h1 h2
        cases h2
      · cases h
    · cases h
  · cases h
theorem gT_undef {ops : Array Oper} {j : Nat} {env : List (Nat × PV)} {t : Nat} (h : gT ops j env = some (t, none)) : ∃ oj, ops[j]? = some oj ∧ oj.dst = some t ∧ look t env = some (.v undef) := by
  unfold gT at h
  split at h
  · split at h
    · split at h
      · injection h with h
        injection h with h1 h2
        cases h2
      · injection h with h
        injection h with h1 h2
        subst h1
        exact ⟨_, ‹_›, ‹_›, ‹_›⟩
      · cases h
    · cases h
  · cases h
def aggC : PV → List PV
  | .agg cs => cs
  | p => p.cells
theorem aggC_eq (p : PV) : aggC p = p.cells := by cases p <;> rfl
def fullC (p : PV) (cells : List PV) (k : Nat) : Bool := Nat.beq k 0 && Nat.beq p.cells.length cells.length
def newC (p : PV) (cells : List PV) (k : Nat) : List PV := bif fullC p cells k then aggC p else putL cells k p.cells
theorem newC_eq (p : PV) (cells : List PV) (k : Nat) : newC p cells k = putL cells k p.cells := by
  unfold newC
  cases h : fullC p cells k with
  | false => rfl
  | true =>
    unfold fullC at h
    rw [Bool.and_eq_true] at h
    have e1 := Nat.eq_of_beq_eq_true h.1
    have e2 := Nat.eq_of_beq_eq_true h.2
    subst e1
    have := putL_full p.cells cells [] e2.symm
    rw [cond_true, aggC_eq]
    simpa using this.symm
def stC (id k : Nat) (cells : List PV) (chk : Bool) (p : PV) : Option (Nat × List PV × Bool × Bool) := match fullC p cells k with
  | true => (match p with | .agg cs => some (id, cs, chk, true) | p => some (id, p.cells, chk, true))
  | false => some (id, putF cells k p.cells, chk, false)
theorem stC_eq {id k : Nat} {cells : List PV} {chk : Bool} {p : PV} {id' : Nat} {cs' : List PV} {c' f : Bool} (h : stC id k cells chk p = some (id', cs', c', f)) : id = id' ∧ putL cells k p.cells = cs' ∧ chk = c' := by
  have e := newC_eq p cells k
  unfold newC at e
  unfold stC at h
  cases hf : fullC p cells k with
  | false =>
    rw [hf] at h
    injection h with h
    injection h with h1 h2
    injection h2 with h2 h3
    injection h3 with h3 _
    exact ⟨h1, by rw [← putF_eq]; exact h2, h3⟩
  | true =>
    rw [hf] at h e
    rw [cond_true, aggC_eq] at e
    rw [← e]
    cases p <;>
    · injection h with h
      injection h with h1 h2
      injection h2 with h2 h3
      injection h3 with h3 _
      exact ⟨h1, h2, h3⟩
def storeS (T : TT) (t : Nat) (env : List (Nat × PV)) (lh : List (Nat × LB)) (x v : Operand) : Option (Nat × List PV × Bool × Bool) := match evE env x, evE env v with
  | some (.lp id k), some p => match look id lh, T.get t with
    | some (.box cells), some ⟨_, n, _, _, _⟩ => stC id k cells (p.lies && (Nat.beq p.cells.length n && Nat.ble (k + n) cells.length)) p
    | _, _ => none
  | _, _ => none
def exS (e : Exit) (nt : Nat) (env : List (Nat × PV)) (lh : List (Nat × LB)) : List Fr → StepR
  | [] => .fin e ⟨nt, env, lh⟩
  | .seq c :: fs => (match e with
    | .normal => .next ⟨.code c, nt, env, lh, fs⟩
    | .ret => .next ⟨.ex .ret, nt, env, lh, fs⟩
    | .exit j => .next ⟨.ex (.exit j), nt, env, lh, fs⟩
    | .goto l => .next ⟨.ex (.goto l), nt, env, lh, fs⟩
    | e => .stop ⟨.ex e, nt, env, lh, .seq c :: fs⟩)
  | .blk k :: fs => (match e with
    | .normal => .next ⟨.ex .normal, nt, env, lh, fs⟩
    | .ret => .next ⟨.ex .ret, nt, env, lh, fs⟩
    | .exit j => bif Nat.beq j k then .next ⟨.ex .normal, nt, env, lh, fs⟩ else .next ⟨.ex (.exit j), nt, env, lh, fs⟩
    | .goto l => .next ⟨.ex (.goto l), nt, env, lh, fs⟩
    | e => .stop ⟨.ex e, nt, env, lh, .blk k :: fs⟩)
  | .lp n c :: fs => (match e with
    | .normal => (match n with
      | n + 1 => .next ⟨.code c, nt, env, lh, .lp n c :: fs⟩
      | 0 => .stop ⟨.ex .normal, nt, env, lh, .lp 0 c :: fs⟩)
    | .ret => .next ⟨.ex .ret, nt, env, lh, fs⟩
    | .exit j => .next ⟨.ex (.exit j), nt, env, lh, fs⟩
    | .goto l => .next ⟨.ex (.goto l), nt, env, lh, fs⟩
    | e => .stop ⟨.ex e, nt, env, lh, .lp n c :: fs⟩)
section
variable (T : TT)
noncomputable def opsS (a : Array Oper) (nt : Nat) (env : List (Nat × PV)) (lh : List (Nat × LB)) (fs : List Fr) : List Oper → StepR
  | [] => .next ⟨.ex .normal, nt, env, lh, fs⟩
  | ⟨some d, op, ty, pos, after, none⟩ :: l => bif Nat.blt d nt then
      opK (opS T nt env lh op) d (putA a l nt env lh fs d ⟨.ops a (⟨some d, op, ty, pos, after, none⟩ :: l), nt, env, lh, fs⟩) ⟨.ops a (⟨some d, op, ty, pos, after, none⟩ :: l), nt, env, lh, fs⟩
    else .stop ⟨.ops a (⟨some d, op, ty, pos, after, none⟩ :: l), nt, env, lh, fs⟩
  | ⟨some d, op, ty, pos, after, some (j, want)⟩ :: l => bif Nat.blt d nt then
      (match gT a j env with
      | some (_, none) => .next ⟨.ops a l, nt, (d, .v undef) :: env, lh, fs⟩
      | some (t, some b) =>
        match want with
        | true => .br b (.next ⟨.ops a (⟨some d, op, ty, pos, after, none⟩ :: l), nt, (t, .v (.bool true)) :: env, lh, fs⟩) (.next ⟨.ops a l, nt, (d, .v undef) :: (t, .v (.bool false)) :: env, lh, fs⟩)
        | false => .br b (.next ⟨.ops a l, nt, (d, .v undef) :: (t, .v (.bool true)) :: env, lh, fs⟩) (.next ⟨.ops a (⟨some d, op, ty, pos, after, none⟩ :: l), nt, (t, .v (.bool false)) :: env, lh, fs⟩)
      | none => .stop ⟨.ops a (⟨some d, op, ty, pos, after, some (j, want)⟩ :: l), nt, env, lh, fs⟩)
    else .stop ⟨.ops a (⟨some d, op, ty, pos, after, some (j, want)⟩ :: l), nt, env, lh, fs⟩
  | ⟨none, op, ty, pos, after, none⟩ :: l => (match op with
    | .store t x v => (match storeS T t env lh x v with
      | some (k, cells, b, true) => .br b (.next ⟨.ops a l, nt, env, (k, .box cells) :: lh, fs⟩) (.stop ⟨.ops a (⟨none, .store t x v, ty, pos, after, none⟩ :: l), nt, env, lh, fs⟩)
      | some (k, cells, b, false) => forceL cells fun cells => .br b (.next ⟨.ops a l, nt, env, (k, .box cells) :: lh, fs⟩) (.stop ⟨.ops a (⟨none, .store t x v, ty, pos, after, none⟩ :: l), nt, env, lh, fs⟩)
      | none => .stop ⟨.ops a (⟨none, .store t x v, ty, pos, after, none⟩ :: l), nt, env, lh, fs⟩)
    | op => .stop ⟨.ops a (⟨none, op, ty, pos, after, none⟩ :: l), nt, env, lh, fs⟩)
  | o :: l => .stop ⟨.ops a (o :: l), nt, env, lh, fs⟩
noncomputable def dopsS (a : Array Oper) (tl : List (List Nat × List Nat)) (nt : Nat) (env : List (Nat × PV)) (lh : List (Nat × LB)) (fs : List Fr) : List Oper → StepR
  | [] => .need (confOK a.toList tl.reverse = true) (.next ⟨.ex .normal, nt, env, lh, fs⟩)
  | ⟨some d, op, ty, pos, after, none⟩ :: l => bif Nat.blt d nt then
      opK (opS T nt env lh op) d (putD a ⟨some d, op, ty, pos, after, none⟩ l tl nt env lh fs d ⟨.dops a (⟨some d, op, ty, pos, after, none⟩ :: l) tl, nt, env, lh, fs⟩) ⟨.dops a (⟨some d, op, ty, pos, after, none⟩ :: l) tl, nt, env, lh, fs⟩
    else .stop ⟨.dops a (⟨some d, op, ty, pos, after, none⟩ :: l) tl, nt, env, lh, fs⟩
  | ⟨some d, op, ty, pos, after, some (j, want)⟩ :: l => bif Nat.blt d nt then
      (match gT a j env with
      | some (_, none) => .next ⟨.dops a l (([], []) :: tl), nt, (d, .v undef) :: env, lh, fs⟩
      | some (_, some b) =>
        match want with
        | true => .br b (opK (opS T nt env lh op) d (putD a ⟨some d, op, ty, pos, after, some (j, want)⟩ l tl nt env lh fs d ⟨.dops a (⟨some d, op, ty, pos, after, some (j, want)⟩ :: l) tl, nt, env, lh, fs⟩) ⟨.dops a (⟨some d, op, ty, pos, after, some (j, want)⟩ :: l) tl, nt, env, lh, fs⟩) (.next ⟨.dops a l (([], []) :: tl), nt, (d, .v undef) :: env, lh, fs⟩)
        | false => .br b (.next ⟨.dops a l (([], []) :: tl), nt, (d, .v undef) :: env, lh, fs⟩) (opK (opS T nt env lh op) d (putD a ⟨some d, op, ty, pos, after, some (j, want)⟩ l tl nt env lh fs d ⟨.dops a (⟨some d, op, ty, pos, after, some (j, want)⟩ :: l) tl, nt, env, lh, fs⟩) ⟨.dops a (⟨some d, op, ty, pos, after, some (j, want)⟩ :: l) tl, nt, env, lh, fs⟩)
      | none => .stop ⟨.dops a (⟨some d, op, ty, pos, after, some (j, want)⟩ :: l) tl, nt, env, lh, fs⟩)
    else .stop ⟨.dops a (⟨some d, op, ty, pos, after, some (j, want)⟩ :: l) tl, nt, env, lh, fs⟩
  | ⟨none, op, ty, pos, after, none⟩ :: l => (match op with
    | .store t x v => (match storeS T t env lh x v with
      | some (k, cells, b, true) => .br b (forceI ((⟨nt, env, lh⟩ : St).ids ⟨none, .store t x v, ty, pos, after, none⟩) fun ids => .next ⟨.dops a l (([k], ids) :: tl), nt, env, (k, .box cells) :: lh, fs⟩) (.stop ⟨.dops a (⟨none, .store t x v, ty, pos, after, none⟩ :: l) tl, nt, env, lh, fs⟩)
      | some (k, cells, b, false) => forceL cells fun cells => .br b (forceI ((⟨nt, env, lh⟩ : St).ids ⟨none, .store t x v, ty, pos, after, none⟩) fun ids => .next ⟨.dops a l (([k], ids) :: tl), nt, env, (k, .box cells) :: lh, fs⟩) (.stop ⟨.dops a (⟨none, .store t x v, ty, pos, after, none⟩ :: l) tl, nt, env, lh, fs⟩)
      | none => .stop ⟨.dops a (⟨none, .store t x v, ty, pos, after, none⟩ :: l) tl, nt, env, lh, fs⟩)
    | op => .stop ⟨.dops a (⟨none, op, ty, pos, after, none⟩ :: l) tl, nt, env, lh, fs⟩)
  | o :: l => .stop ⟨.dops a (o :: l) tl, nt, env, lh, fs⟩
def codeS (nt : Nat) (env : List (Nat × PV)) (lh : List (Nat × LB)) (fs : List Fr) : Code → StepR
  | .skip => .next ⟨.ex .normal, nt, env, lh, fs⟩
  | .label _ => .next ⟨.ex .normal, nt, env, lh, fs⟩
  | .ret => .next ⟨.ex .ret, nt, env, lh, fs⟩
  | .exit k => .next ⟨.ex (.exit k), nt, env, lh, fs⟩
  | .seq a b => .next ⟨.code a, nt, env, lh, .seq b :: fs⟩
  | .block k c => .next ⟨.code c, nt, env, lh, .blk k :: fs⟩
  | .cond c a b => (match c with
    | .tmp t => (match look t env with
      | some (.v (.bool v)) => .br v (.next ⟨.code a, nt, (t, .v (.bool true)) :: env, lh, fs⟩) (.next ⟨.code b, nt, (t, .v (.bool false)) :: env, lh, fs⟩)
      | _ => .stop ⟨.code (.cond c a b), nt, env, lh, fs⟩)
    | .const (.bool true) => .next ⟨.code a, nt, env, lh, fs⟩
    | .const (.bool false) => .next ⟨.code b, nt, env, lh, fs⟩
    | _ => .stop ⟨.code (.cond c a b), nt, env, lh, fs⟩)
  | .region _ ops draw => (match draw with
    | true => .need (regOK ops.toList = true) (.next ⟨.dops ops ops.toList [], nt, env, lh, fs⟩)
    | false => .next ⟨.ops ops ops.toList, nt, env, lh, fs⟩)
  | c => .stop ⟨.code c, nt, env, lh, fs⟩
noncomputable def step (M : Mc) : StepR := match M with
  | ⟨.code c, nt, env, lh, fs⟩ => codeS nt env lh fs c
  | ⟨.ops a l, nt, env, lh, fs⟩ => opsS T a nt env lh fs l
  | ⟨.dops a l tl, nt, env, lh, fs⟩ => dopsS T a tl nt env lh fs l
  | ⟨.ex e, nt, env, lh, fs⟩ => exS e nt env lh fs
noncomputable def run : Nat → StepR → StepR
  | n + 1, .next M => run n (step T M)
  | _, r => r
end
section
variable (P : Program) (X : XF) (w0 : World)
structure PWL (n : Nat) (c : Code) (σ : St) (K : Exit → St → Prop) : Prop where
  run : ∀ a w μ, SimM X w0 σ a w μ → Code.rounds P c (fun ex a' w' => ∃ σ' μ', K ex σ' ∧ SimM X w0 σ' a' w' μ') n a w
def frK : List Fr → (Exit → St → Prop) → Exit → St → Prop
  | [], K => K
  | .seq c :: fs, K => ThenK (fun σ => PW P X w0 c σ (frK fs K)) (frK fs K)
  | .blk k :: fs, K => InBlockK k (frK fs K)
  | .lp n c :: fs, K => ThenK (fun σ => PWL P X w0 n c σ (frK fs K)) (frK fs K)
structure UW (a : Array Oper) (l : List Oper) (tl : List (List Nat × List Nat)) (σ : St) (K : St → Prop) : Prop where
  ex : ∃ σe tl', URun P a l σ σe tl' ∧ confOK a.toList (tl.reverse ++ tl') = true ∧ K σe
def Sem (M : Mc) (K : Exit → St → Prop) : Prop := match M with
  | ⟨.code c, nt, env, lh, fs⟩ => PW P X w0 c ⟨nt, env, lh⟩ (frK P X w0 fs K)
  | ⟨.ops a l, nt, env, lh, fs⟩ => RW P X w0 a l ⟨nt, env, lh⟩ (frK P X w0 fs K .normal)
  | ⟨.dops a l tl, nt, env, lh, fs⟩ => UW P a l tl ⟨nt, env, lh⟩ (frK P X w0 fs K .normal)
  | ⟨.ex e, nt, env, lh, fs⟩ => frK P X w0 fs K e ⟨nt, env, lh⟩
def SemR (K : Exit → St → Prop) : StepR → Prop
  | .next M => Sem P X w0 M K
  | .fin e σ => K e σ
  | .br b r1 r2 => (b = true → SemR K r1) ∧ (b = false → SemR K r2)
  | .need q r => q ∧ SemR K r
  | .wrap k z C => SemR K (C (k.wrap z))
  | .div r k a b C => b ≠ 0 ∧ SemR K (C (bif r then a.tmod b else k.wrap (a.tdiv b)))
  | .ix xs i C => ∃ c, 0 ≤ i ∧ xs[i.toNat]? = some c ∧ SemR K (C c)
  | .ar cs n i C => ∃ p, 0 ≤ i ∧ i < n ∧ cs[i.toNat]? = some p ∧ SemR K (C p)
  | .ld cs k C => ∃ p, cs[k]? = some p ∧ SemR K (C p)
  | .eqs t neg cs ds C => ∃ b : Bool, EqR P t cs ds b ∧ SemR K (C (bif neg then !b else b))
  | .len xs C => SemR K (C (xs.length : Int))
  | .cut xs l h C => ∃ l' h', bndOK l 0 l' ∧ bndOK h xs.length h' ∧ l' ≤ h' ∧ h' ≤ xs.length ∧ SemR K (C ((xs.take h').drop l'))
  | .call g args d A M0 => (∃ r, Spec P g args r ∧ closedL args = true ∧ r.noOwn = true ∧ SemR K (A r none)) ∨ (∃ rt sz ys, Spec P g args (.own rt sz ys) ∧ closedL args = true ∧ SemR K (A (.row d 0) (some (.row rt sz 0 ys)))) ∨ Sem P X w0 M0 K
  | .stop M0 => Sem P X w0 M0 K
structure Stk (T : TT) (r : StepR) (K : Exit → St → Prop) : Prop where
  h : SemR P X w0 K r
def stk (T : TT) (r : StepR) (K : Exit → St → Prop) : Prop := match r with
  | .fin e σ => K e σ
  | .next M => Stk P X w0 T (.next M) K
  | .br b r1 r2 => Stk P X w0 T (.br b r1 r2) K
  | .need q r => Stk P X w0 T (.need q r) K
  | .wrap k z C => Stk P X w0 T (.wrap k z C) K
  | .div r k a b C => Stk P X w0 T (.div r k a b C) K
  | .ix xs i C => Stk P X w0 T (.ix xs i C) K
  | .ar cs n i C => Stk P X w0 T (.ar cs n i C) K
  | .ld cs k C => Stk P X w0 T (.ld cs k C) K
  | .eqs t neg cs ds C => Stk P X w0 T (.eqs t neg cs ds C) K
  | .len xs C => Stk P X w0 T (.len xs C) K
  | .cut xs l h C => Stk P X w0 T (.cut xs l h C) K
  | .call g args d A M0 => Stk P X w0 T (.call g args d A M0) K
  | .stop M0 => Stk P X w0 T (.stop M0) K
def GoR (T : TT) (r : StepR) (K : Exit → St → Prop) : Prop := stk P X w0 T (run T 100000 r) K
end
section
variable {P : Program} {X : XF} {w0 : World} {T : TT}
theorem storeS_eff (hT : T.Ok P id) {t : Nat} {nt : Nat} {env : List (Nat × PV)} {lh : List (Nat × LB)} {x v : Operand} {k : Nat} {cells : List PV} {b fl : Bool} {ty : TypeId} {pos : String} {after : Array Edge} (h : storeS T t env lh x v = some (k, cells, b, fl)) (hb : b = true) : OpEff P ⟨none, .store t x v, ty, pos, after, none⟩ ⟨nt, env, lh⟩ (St.setB ⟨nt, env, lh⟩ k (.box cells)) := by
  unfold storeS at h
  split at h
  · rename_i id' o p hx hv
    split at h
    · rename_i cs ag n _ _ _ hbl h0
      have ht : TySz P t ag n := ⟨(TT.at hT h0).ty⟩
      obtain ⟨h1, h2, h3⟩ := stC_eq h
      subst h1 h2
      rw [← h3, Bool.and_eq_true] at hb
      exact eff_store_lp (by rw [evE_eq]; exact hx) hbl (by rw [evE_eq]; exact hv) hb.1 hb.2
    · cases h
  · cases h
def nbOf (d : Nat) : Option LB → List (Nat × LB)
  | none => []
  | some b => [(d, b)]
theorem opK_sound {K : Exit → St → Prop} {d : Nat} {op : Op} {ty : TypeId} {pos : String} {after : Array Edge} {guard : Option (Nat × Bool)} {σ : St} {r : OpR} {A : PV → Option LB → StepR} {M0 : Mc} (hg : r.Good P (some d) op ty pos after guard σ) (h : SemR P X w0 K (opK r d A M0)) :
    Sem P X w0 M0 K ∨ ∃ p ob, OpOK P ⟨some d, op, ty, pos, after, guard⟩ σ p (nbOf d ob) ∧ SemR P X w0 K (A p ob) := by
  cases r with
  | ok p => exact .inr ⟨p, none, hg, h⟩
  | agg cs =>
    have h : SemR P X w0 K (forceL cs fun cs => A (.agg cs) none) := h
    rw [forceL_eq] at h
    exact .inr ⟨_, none, hg, h⟩
  | sls sz n cs =>
    have h : SemR P X w0 K (forceN sz n cs fun xs => A (.sl sz xs) none) := h
    rw [forceN_eq] at h
    exact .inr ⟨_, none, hg, h⟩
  | mk b => exact .inr ⟨_, some b, hg d rfl, h⟩
  | mkr e sz => exact .inr ⟨_, some _, hg d rfl, h⟩
  | eqs t neg cs ds =>
    obtain ⟨b, h1, h2⟩ := h
    exact .inr ⟨_, none, hg b h1, h2⟩
  | need q p => exact .inr ⟨p, none, hg h.1, h.2⟩
  | wrap k z => exact .inr ⟨_, none, hg, h⟩
  | div r k a b => exact .inr ⟨_, none, hg h.1, h.2⟩
  | ix xs i =>
    obtain ⟨c, h0, h1, h2⟩ := h
    exact .inr ⟨_, none, hg c h0 h1, h2⟩
  | ar cs n i =>
    obtain ⟨p, h0, h1, h2, h3⟩ := h
    exact .inr ⟨_, none, hg h0 h1 p h2, h3⟩
  | ld cs k =>
    obtain ⟨p, h2, h3⟩ := h
    exact .inr ⟨_, none, hg p h2, h3⟩
  | len xs => exact .inr ⟨_, none, hg, h⟩
  | br b p q =>
    cases b with
    | true => exact .inr ⟨p, none, hg.1 rfl, h.1 rfl⟩
    | false => exact .inr ⟨q, none, hg.2 rfl, h.2 rfl⟩
  | cut sz xs l hh =>
    obtain ⟨l', h', h1, h2, h3, h4, h5⟩ := h
    exact .inr ⟨_, none, hg l' h' h1 h2 h3 h4, h5⟩
  | call g args =>
    have h : SemR P X w0 K (forceL args fun args => .call g args d A M0) := h
    rw [forceL_eq] at h
    rcases h with ⟨r, hs, hc, hn, hk⟩ | ⟨rt, sz, ys, hs, hc, hk⟩ | h
    · exact .inr ⟨_, none, (hg _ hs hc).1 hn, hk⟩
    · exact .inr ⟨_, some _, (hg _ hs hc).2 d _ _ _ rfl rfl, hk⟩
    · exact .inl h
  | no => exact .inl h
theorem inB_some {d nt : Nat} {env : List (Nat × PV)} {lh : List (Nat × LB)} (h : Nat.blt d nt = true) : inB ⟨nt, env, lh⟩ (some d) = true := h
theorem opsS_sound (hT : T.Ok P id) {K : Exit → St → Prop} {a : Array Oper} {nt : Nat} {env : List (Nat × PV)} {lh : List (Nat × LB)} {fs : List Fr} (l : List Oper) (h : SemR P X w0 K (opsS T a nt env lh fs l)) : Sem P X w0 ⟨.ops a l, nt, env, lh, fs⟩ K := by
  cases l with
  | nil => exact RW.nil h
  | cons o l =>
    obtain ⟨dst, op, ty, pos, after, guard⟩ := o
    cases dst with
    | some d =>
      cases guard with
      | none =>
        simp only [opsS] at h
        cases hd : Nat.blt d nt with
        | false => rw [hd] at h; exact h
        | true =>
          rw [hd, cond_true] at h
          rcases opK_sound (opS_good hT (inB_some hd) op) h with h | ⟨p, ob, hok, hk⟩
          · exact h
          · cases ob with
            | none => exact RW.st hok hk
            | some b =>
              simp only [putA] at hk
              split at hk
              · exact RW.stB hok ‹_› hk
              · exact hk
      | some jw =>
        obtain ⟨j, want⟩ := jw
        simp only [opsS] at h
        cases hd : Nat.blt d nt with
        | false => rw [hd] at h; exact h
        | true =>
          rw [hd, cond_true] at h
          split at h
          · rename_i t hg
            obtain ⟨oj, h1, h2, h3⟩ := gT_undef hg
            exact RW.guardU rfl h1 h2 h3 (inB_some hd) h
          · rename_i t b hg
            obtain ⟨oj, h1, h2, h3⟩ := gT_spec hg
            cases want with
            | true => exact RW.gdS h1 h2 h3 hd (fun e => h.1 e) (fun e => h.2 e)
            | false => exact RW.gdS h1 h2 h3 hd (fun e => h.2 e) (fun e => h.1 e)
          · exact h
    | none =>
      cases guard with
      | some g => cases op <;> exact h
      | none =>
        cases op with
        | store t x v =>
          simp only [opsS] at h
          split at h
          · rename_i k cells b hs
            cases b with
            | true => exact RW.stS rfl (storeS_eff hT hs rfl) (h.1 rfl)
            | false => exact h.2 rfl
          · rename_i k cells b hs
            rw [forceL_eq] at h
            cases b with
            | true => exact RW.stS rfl (storeS_eff hT hs rfl) (h.1 rfl)
            | false => exact h.2 rfl
          · exact h
        | _ => exact h
theorem nbOf_ok (op : Op) (ty : TypeId) (pos : String) (after : Array Edge) (g : Option (Nat × Bool)) (d : Nat) (ob : Option LB) : nbOK ⟨some d, op, ty, pos, after, g⟩ (nbOf d ob) := by
  cases ob with
  | none => exact .inl rfl
  | some b => exact .inr ⟨d, b, rfl, rfl⟩
theorem UW.cons {a : Array Oper} {o : Oper} {l : List Oper} {tl : List (List Nat × List Nat)} {σ σ' : St} {K : St → Prop} {x : List Nat × List Nat} (hr : ∀ {σe tl'}, URun P a l σ' σe tl' → URun P a (o :: l) σ σe (x :: tl')) (h : UW P a l (x :: tl) σ' K) : UW P a (o :: l) tl σ K := by
  obtain ⟨σe, tl', h1, h2, h3⟩ := h.ex
  refine ⟨σe, x :: tl', hr h1, ?_, h3⟩
  rw [List.reverse_cons, List.append_assoc] at h2
  exact h2
theorem putD_sound {K : Exit → St → Prop} {a : Array Oper} {o : Oper} {l : List Oper} {tl : List (List Nat × List Nat)} {nt : Nat} {env : List (Nat × PV)} {lh : List (Nat × LB)} {fs : List Fr} {d : Nat} {M0 : Mc} {p : PV} {ob : Option LB} (hd : o.dst = some d) (hw : wantsU a ⟨nt, env, lh⟩ o true) (hok : OpOK P o ⟨nt, env, lh⟩ p (nbOf d ob)) (hnb : nbOK o (nbOf d ob)) (h : SemR P X w0 K (putD a o l tl nt env lh fs d M0 p ob)) :
    Sem P X w0 M0 K ∨ UW P a (o :: l) tl ⟨nt, env, lh⟩ (frK P X w0 fs K .normal) := by
  cases ob with
  | none =>
    simp only [putD, forceI_eq] at h
    exact .inr (UW.cons (x := ([], (⟨nt, env, lh⟩ : St).ids o)) (fun hr => .ok hw (.new hok hnb (newB_nil _)) (by rw [hd]; exact hr)) h)
  | some b =>
    simp only [putD] at h
    split at h
    · rw [forceI_eq] at h
      exact .inr (UW.cons (x := ([d], (⟨nt, env, lh⟩ : St).ids o)) (fun hr => .ok hw (.new hok hnb (newB_one ‹_›)) (by rw [hd]; exact hr)) h)
    · exact .inl h
theorem storeS_up (hT : T.Ok P id) {t : Nat} {nt : Nat} {env : List (Nat × PV)} {lh : List (Nat × LB)} {x v : Operand} {k : Nat} {cells : List PV} {b fl : Bool} {ty : TypeId} {pos : String} {after : Array Edge} (h : storeS T t env lh x v = some (k, cells, b, fl)) (hb : b = true) : OpUP P ⟨none, .store t x v, ty, pos, after, none⟩ ⟨nt, env, lh⟩ .any k (.box cells) := by
  unfold storeS at h
  split at h
  · rename_i id' o p hx hv
    split at h
    · rename_i cs ag n _ _ _ hbl h0
      have ht : TySz P t ag n := ⟨(TT.at hT h0).ty⟩
      obtain ⟨h1, h2, h3⟩ := stC_eq h
      subst h1 h2
      rw [← h3, Bool.and_eq_true] at hb
      refine ⟨fun σ' hag => ?_⟩
      have hx' : (⟨nt, env, lh⟩ : St).ev x = some (.lp id' o) := by rw [evE_eq]; exact hx
      exact eff_store_lp (hag.ev x (by simp [Op.operands]) _ hx') (hag.blk x (by simp [Op.operands]) _ id' _ hx' rfl hbl) (hag.ev v (by simp [Op.operands]) _ (by rw [evE_eq]; exact hv)) hb.1 hb.2
    · cases h
  · cases h
theorem dopsS_sound (hT : T.Ok P id) {K : Exit → St → Prop} {a : Array Oper} {tl : List (List Nat × List Nat)} {nt : Nat} {env : List (Nat × PV)} {lh : List (Nat × LB)} {fs : List Fr} (l : List Oper) (h : SemR P X w0 K (dopsS T a tl nt env lh fs l)) : Sem P X w0 ⟨.dops a l tl, nt, env, lh, fs⟩ K := by
  cases l with
  | nil => exact ⟨_, [], .nil, by rw [List.append_nil]; exact h.1, h.2⟩
  | cons o l =>
    obtain ⟨dst, op, ty, pos, after, guard⟩ := o
    cases dst with
    | none =>
      cases guard with
      | some g => cases op <;> exact h
      | none =>
        cases op with
        | store t x v =>
          simp only [dopsS] at h
          split at h
          · rename_i k cells b hs
            cases b with
            | true =>
              have h1 := h.1 rfl
              rw [forceI_eq] at h1
              exact UW.cons (o := ⟨none, .store t x v, ty, pos, after, none⟩) (σ := ⟨nt, env, lh⟩) (σ' := ⟨nt, env, (k, .box cells) :: lh⟩) (x := ([k], _)) (fun hr => .ok (p := .any) (nb := [(k, .box cells)]) (.inl rfl) (.upd (storeS_up hT hs rfl)) hr) h1
            | false => exact h.2 rfl
          · rename_i k cells b hs
            rw [forceL_eq] at h
            cases b with
            | true =>
              have h1 := h.1 rfl
              rw [forceI_eq] at h1
              exact UW.cons (o := ⟨none, .store t x v, ty, pos, after, none⟩) (σ := ⟨nt, env, lh⟩) (σ' := ⟨nt, env, (k, .box cells) :: lh⟩) (x := ([k], _)) (fun hr => .ok (p := .any) (nb := [(k, .box cells)]) (.inl rfl) (.upd (storeS_up hT hs rfl)) hr) h1
            | false => exact h.2 rfl
          · exact h
        | _ => exact h
    | some d =>
      cases guard with
      | none =>
        simp only [dopsS] at h
        cases hd : Nat.blt d nt with
        | false => rw [hd] at h; exact h
        | true =>
          rw [hd, cond_true] at h
          rcases opK_sound (opS_good hT (inB_some hd) op) h with h | ⟨p, ob, hok, hk⟩
          · exact h
          · rcases putD_sound (o := ⟨some d, op, ty, pos, after, none⟩) rfl (.inl rfl) hok (nbOf_ok ..) hk with h | h
            · exact h
            · exact h
      | some jw =>
        obtain ⟨j, want⟩ := jw
        simp only [dopsS] at h
        cases hd : Nat.blt d nt with
        | false => rw [hd] at h; exact h
        | true =>
          rw [hd, cond_true] at h
          split at h
          · rename_i t hg
            obtain ⟨oj, g1, g2, g3⟩ := gT_undef hg
            exact UW.cons (x := ([], [])) (fun hr => .skip (.inr ⟨rfl, j, want, oj, t, rfl, g1, g2, g3⟩) hd hr) h
          · rename_i t b hg
            obtain ⟨oj, g1, g2, g3⟩ := gT_spec hg
            have yes : ∀ (_ : b = want) (h : SemR P X w0 K (opK (opS T nt env lh op) d (putD a ⟨some d, op, ty, pos, after, some (j, want)⟩ l tl nt env lh fs d ⟨.dops a (⟨some d, op, ty, pos, after, some (j, want)⟩ :: l) tl, nt, env, lh, fs⟩) ⟨.dops a (⟨some d, op, ty, pos, after, some (j, want)⟩ :: l) tl, nt, env, lh, fs⟩)), Sem P X w0 ⟨.dops a (⟨some d, op, ty, pos, after, some (j, want)⟩ :: l) tl, nt, env, lh, fs⟩ K := by
              intro e h
              rcases opK_sound (opS_good (guard := none) hT (inB_some hd) op) h with h | ⟨p, ob, hok, hk⟩
              · exact h
              · rcases putD_sound (o := ⟨some d, op, ty, pos, after, some (j, want)⟩) rfl (.inl ⟨oj, t, b, g1, g2, g3, by rw [e]; simp⟩) hok.unguard (nbOf_ok ..) hk with h | h
                · exact h
                · exact h
            have no : ∀ (_ : b = !want) (h : UW P a l (([], []) :: tl) ⟨nt, (d, .v undef) :: env, lh⟩ (frK P X w0 fs K .normal)), Sem P X w0 ⟨.dops a (⟨some d, op, ty, pos, after, some (j, want)⟩ :: l) tl, nt, env, lh, fs⟩ K := fun e h =>
              UW.cons (x := ([], [])) (fun hr => .skip (.inl ⟨oj, t, b, g1, g2, g3, by rw [e]; cases want <;> rfl⟩) hd hr) h
            cases want with
            | true =>
              cases b with
              | true => exact yes rfl (h.1 rfl)
              | false => exact no rfl (h.2 rfl)
            | false =>
              cases b with
              | true => exact no rfl (h.1 rfl)
              | false => exact yes rfl (h.2 rfl)
          · exact h
theorem PW.const {v : Bool} {a b : Code} {σ : St} {K : Exit → St → Prop} (h : PW P X w0 (bif v then a else b) σ K) : PW P X w0 (.cond (.const (.bool v)) a b) σ K := by
  cases v with
  | true => exact PW.cond_t rfl h
  | false => exact PW.cond_f rfl h
theorem codeS_sound (hm : P.follows .mixedOrders = true) {K : Exit → St → Prop} {nt : Nat} {env : List (Nat × PV)} {lh : List (Nat × LB)} {fs : List Fr} (c : Code) (h : SemR P X w0 K (codeS nt env lh fs c)) : Sem P X w0 ⟨.code c, nt, env, lh, fs⟩ K := by
  cases c with
  | skip => exact PW.skip h
  | label _ => exact PW.label h
  | ret => exact PW.ret h
  | exit _ => exact PW.exit h
  | seq a b => exact PW.seq h
  | block k c => exact PW.block h
  | cond c a b =>
    simp only [codeS] at h
    split at h
    · split at h
      · rename_i t _ v hl
        exact PW.cond (b := v) hl (fun e => PW.weak (Weak.bool hl e) (h.1 e)) (fun e => PW.weak (Weak.bool hl e) (h.2 e))
      · exact h
    · exact PW.const (v := true) h
    · exact PW.const (v := false) h
    · exact h
  | region k ops draw =>
    cases draw with
    | true =>
      obtain ⟨h1, h2⟩ := h
      obtain ⟨σe, tl', h3, h4, h5⟩ := UW.ex h2
      have := PW.drawU (X := X) (w0 := w0) (id := k) (l := ops.toList) (K := frK P X w0 fs K) hm h1 h4 (by rw [Array.toArray_toList]; exact h3) h5
      rw [Array.toArray_toList] at this
      exact this
    | false =>
      have := PW.region (X := X) (w0 := w0) (id := k) (l := ops.toList) (K := frK P X w0 fs K) (by rw [Array.toArray_toList]; exact h)
      rw [Array.toArray_toList] at this
      exact this
  | loop c => exact h
  | rangeFunc _ _ _ _ => exact h
  | scope _ => exact h
  | goto _ => exact h
  | refuse _ => exact h
theorem PWL.round {n : Nat} {c : Code} {σ : St} {K : Exit → St → Prop} (h : PW P X w0 c σ (ThenK (fun σ => PWL P X w0 n c σ K) K)) : PWL P X w0 (n + 1) c σ K := ⟨fun a w μ s => by
  rw [rounds_succ]
  refine wp_mono (h.run a w μ s) ?_
  rintro e a' w' ⟨σ', μ', k, s'⟩
  cases k with
  | n k => exact k.run a' w' μ' s'
  | x k => exact ⟨σ', μ', k, s'⟩
  | g k => exact ⟨σ', μ', k, s'⟩
  | r k => exact ⟨σ', μ', k, s'⟩⟩
theorem PWL.loop {n : Nat} {c : Code} {σ : St} {K : Exit → St → Prop} (h : PWL P X w0 n c σ K) : PW P X w0 (.loop c) σ K := ⟨fun a w μ s => wp_loop_rounds n (h.run a w μ s)⟩
theorem exS_sound {K : Exit → St → Prop} {e : Exit} {nt : Nat} {env : List (Nat × PV)} {lh : List (Nat × LB)} (fs : List Fr) (h : SemR P X w0 K (exS e nt env lh fs)) : Sem P X w0 ⟨.ex e, nt, env, lh, fs⟩ K := by
  cases fs with
  | nil => exact h
  | cons f fs =>
    cases f with
    | seq c =>
      cases e with
      | normal => exact .n h
      | ret => exact .r h
      | exit j => exact .x h
      | goto l => exact .g h
      | panic v => exact h
      | outgrown => exact h
    | blk k =>
      cases e with
      | normal => exact .n h
      | ret => exact .r h
      | goto l => exact .g h
      | panic v => exact h
      | outgrown => exact h
      | exit j =>
        simp only [exS] at h
        cases hj : Nat.beq j k with
        | true =>
          have := Nat.eq_of_beq_eq_true hj
          subst this
          rw [hj] at h
          exact .x h
        | false => rw [hj] at h; exact .y hj h
    | lp n c =>
      cases e with
      | normal =>
        cases n with
        | zero => exact h
        | succ n => exact .n (PWL.round h)
      | ret => exact .r h
      | exit j => exact .x h
      | goto l => exact .g h
      | panic v => exact h
      | outgrown => exact h
theorem step_sound (hT : T.Ok P id) (hm : P.follows .mixedOrders = true) {K : Exit → St → Prop} {M : Mc} (h : SemR P X w0 K (step T M)) : Sem P X w0 M K := by
  obtain ⟨md, nt, env, lh, fs⟩ := M
  cases md with
  | code c => exact codeS_sound hm c h
  | ops a l => exact opsS_sound hT l h
  | dops a l tl => exact dopsS_sound hT l h
  | ex e => exact exS_sound fs h
theorem run_sound (hT : T.Ok P id) (hm : P.follows .mixedOrders = true) {K : Exit → St → Prop} : ∀ (n : Nat) {r : StepR}, SemR P X w0 K (run T n r) → SemR P X w0 K r
  | 0, _, h => h
  | n + 1, .next M, h => step_sound hT hm (run_sound hT hm n (r := step T M) h)
  | n + 1, .fin _ _, h => h
  | n + 1, .br _ _ _, h => h
  | n + 1, .need _ _, h => h
  | n + 1, .wrap _ _ _, h => h
  | n + 1, .div _ _ _ _ _, h => h
  | n + 1, .ix _ _ _, h => h
  | n + 1, .ar _ _ _ _, h => h
  | n + 1, .len _ _, h => h
  | n + 1, .ld _ _ _, h => h
  | n + 1, .eqs _ _ _ _ _, h => h
  | n + 1, .cut _ _ _ _, h => h
  | n + 1, .call _ _ _ _ _, h => h
  | n + 1, .stop _, h => h
theorem GoR.sem (hT : T.Ok P id) (hm : P.follows .mixedOrders = true) {K : Exit → St → Prop} {r : StepR} (h : GoR P X w0 T r K) : SemR P X w0 K r := by
  refine run_sound hT hm 100000 ?_
  have h : stk P X w0 T (run T 100000 r) K := h
  unfold stk at h
  split at h
  · rename_i e σ hr
    rw [hr]
    exact h
  all_goals
    rename_i hr
    rw [hr]
    exact h.h
end
def rvE (T : TT) (env : List (Nat × PV)) (lh : List (Nat × LB)) : ResultVar → Option PV
  | .tmp t => look t env
  | .cell t ty => match look t env with
    | some (.lp k 0) => match look k lh, T.get ty with
      | some (.box cells), some ⟨true, n, _, _, _⟩ => bif Nat.beq cells.length n then some (.agg cells) else none
      | some (.box [p]), some ⟨false, n, _, _, _⟩ => bif Nat.beq n 1 then some p else none
      | _, _ => none
    | _ => none
def rvL (T : TT) (env : List (Nat × PV)) (lh : List (Nat × LB)) : List ResultVar → Option (List PV)
  | [] => some []
  | r :: rs => match rvE T env lh r with
    | some p => match rvL T env lh rs with
      | some ps => some (p :: ps)
      | none => none
    | none => none
section
variable {P : Program} {X : XF} {w0 : World} {T : TT} {nt : Nat} {env : List (Nat × PV)} {lh : List (Nat × LB)}
theorem rvE_spec (hT : T.Ok P id) {r : ResultVar} {p : PV} (h : rvE T env lh r = some p) : RV P ⟨nt, env, lh⟩ r p := by
  cases r with
  | tmp t => exact .tmp h
  | cell t ty =>
    simp only [rvE] at h
    split at h
    · rename_i k hl
      split at h
      · rename_i cells n _ _ _ hb h0
        cases hc : Nat.beq cells.length n with
        | false => rw [hc] at h; cases h
        | true =>
          rw [hc] at h
          injection h with h
          subst h
          have : TySz P ty true n := ⟨(TT.at hT h0).ty⟩
          exact .cellN hl hb hc
      · rename_i q n _ _ _ hb h0
        cases hc : Nat.beq n 1 with
        | false => rw [hc] at h; cases h
        | true =>
          rw [hc] at h
          injection h with h
          subst h
          have e := Nat.eq_of_beq_eq_true hc
          subst e
          have : TySz P ty false 1 := ⟨(TT.at hT h0).ty⟩
          exact .cell1 hl hb
      · cases h
    · cases h
theorem rvL_spec (hT : T.Ok P id) : ∀ {rs : List ResultVar} {ps : List PV}, rvL T env lh rs = some ps → RVs P ⟨nt, env, lh⟩ rs ps
  | [], ps, h => by injection h with h; subst h; exact .nil
  | r :: rs, ps, h => by
    unfold rvL at h
    split at h
    · rename_i p hp
      split at h
      · rename_i qs hq
        injection h with h
        subst h
        exact .cons (rvE_spec hT hp) (rvL_spec hT hq)
      · cases h
    · cases h
end
structure FinK (P : Program) (σ : St) (rs : List ResultVar) (ps : List PV) (r : PV) : Prop where
  h : Ret P rs σ r
def retK (P : Program) (T : TT) (rs : List ResultVar) (r : PV) : Exit → St → Prop
  | .ret, ⟨nt, env, lh⟩ => (match rvL T env lh rs with | some ps => FinK P ⟨nt, env, lh⟩ rs ps r | none => False)
  | .normal, ⟨nt, env, lh⟩ => (match rvL T env lh rs with | some ps => FinK P ⟨nt, env, lh⟩ rs ps r | none => False)
  | _, _ => False
theorem retK_ret {P : Program} {T : TT} {rs : List ResultVar} {r : PV} : ∀ {e : Exit} {σ : St}, retK P T rs r e σ → RetK P rs r e σ := by
  have key : ∀ {nt : Nat} {env : List (Nat × PV)} {lh : List (Nat × LB)}, (match rvL T env lh rs with | some ps => FinK P ⟨nt, env, lh⟩ rs ps r | none => False) → Ret P rs ⟨nt, env, lh⟩ r := by
    intro nt env lh h
    split at h
    · exact h.h
    · exact h.elim
  intro e σ h
  obtain ⟨nt, env, lh⟩ := σ
  cases e with
  | ret => exact .r (key h)
  | normal => exact .n (key h)
  | exit _ => exact h.elim
  | goto _ => exact h.elim
  | panic _ => exact h.elim
  | outgrown => exact h.elim
def inlF (k : PV → List (Nat × LB) → Prop) (lh : List (Nat × LB)) : Option (List PV) → Prop
  | some [p] => k p lh
  | some ps => k (.tup ps) lh
  | none => False
def inlK (T : TT) (rs : List ResultVar) (k : PV → List (Nat × LB) → Prop) : Exit → St → Prop
  | .ret, ⟨_, env, lh⟩ => inlF k lh (rvL T env lh rs)
  | .normal, ⟨_, env, lh⟩ => inlF k lh (rvL T env lh rs)
  | _, _ => False
theorem inlF_spec {k : PV → List (Nat × LB) → Prop} {lh : List (Nat × LB)} : ∀ {o : Option (List PV)}, inlF k lh o → ∃ ps, o = some ps ∧ k (oneOr ps) lh
  | some [], h => ⟨[], rfl, h⟩
  | some [p], h => ⟨[p], rfl, h⟩
  | some (p :: q :: ps), h => ⟨p :: q :: ps, rfl, h⟩
  | none, h => h.elim
theorem inlK_inl {P : Program} {T : TT} (hT : T.Ok P id) {rs : List ResultVar} {k : PV → List (Nat × LB) → Prop} : ∀ {e : Exit} {σ : St}, inlK T rs k e σ → InlK P rs k e σ := by
  have key : ∀ {nt : Nat} {env : List (Nat × PV)} {lh : List (Nat × LB)}, inlF k lh (rvL T env lh rs) → ∃ ps, RVs P ⟨nt, env, lh⟩ rs ps ∧ k (oneOr ps) lh := by
    intro nt env lh h
    obtain ⟨ps, h1, h2⟩ := inlF_spec h
    exact ⟨_, rvL_spec hT h1, h2⟩
  intro e σ h
  obtain ⟨nt, env, lh⟩ := σ
  cases e with
  | ret =>
    obtain ⟨ps, h1, h2⟩ := key h
    exact .r h1 h2
  | normal =>
    obtain ⟨ps, h1, h2⟩ := key h
    exact .n h1 h2
  | exit _ => exact h.elim
  | goto _ => exact h.elim
  | panic _ => exact h.elim
  | outgrown => exact h.elim
theorem InlK.mono {P : Program} {rs : List ResultVar} {k k' : PV → List (Nat × LB) → Prop} {e : Exit} {σ : St} (h : InlK P rs k e σ) (hk : ∀ r lh, k r lh → k' r lh) : InlK P rs k' e σ := by
  cases h with
  | n h1 h2 => exact .n h1 (hk _ _ h2)
  | r h1 h2 => exact .r h1 (hk _ _ h2)
class FnT (P : Program) (g : FuncId) (fn : outParam Func) : Prop where
  hf : P.funcs[g]? = some fn
  ent : Enters P g
class TabT (P : Program) (T : outParam TT) : Prop where
  ok : T.Ok P id
  mixed : P.follows .mixedOrders = true
section
variable {P : Program} {X : XF} {w0 : World} {T : TT} {nt : Nat} {env : List (Nat × PV)} {lh : List (Nat × LB)}
theorem PW.ofG [tb : TabT P T] {c : Code} {K : Exit → St → Prop} (h : GoR P X w0 T (.next ⟨.code c, nt, env, lh, []⟩) K) : PW P X w0 c ⟨nt, env, lh⟩ K := GoR.sem tb.ok tb.mixed h
theorem Spec.ofR [tb : TabT P T] {f : FuncId} {fn : Func} [hf : FnT P f fn] {c : Code} {args : List PV} {r : PV} {m : Nat} {rs : List ResultVar} (hb : fn.body = some c := by rfl) (hnt : fn.ntmps = m := by rfl) (hrs : fn.results = rs.toArray := by rfl) (hn : Nat.ble args.length m = true := by rfl)
    (h : ∀ (F : Nat → Prop) (w0 : World), GoR P ⟨fun _ => False, F, [], []⟩ w0 T (.next ⟨.code c, m, envOf 0 args, [], []⟩) (retK P T rs r)) : Spec P f args r :=
  Spec.of hf.hf hb hf.ent hnt hrs hn fun F w0 => (PW.ofG (h F w0)).mono fun _ _ => retK_ret
theorem RW.inlR [tb : TabT P T] {dst : Option Tmp} {ty : TypeId} {pos : String} {after : Array Edge} {ats : Array TypeId} {ops : Array Oper} {l : List Oper} {fs : List Fr} {K : Exit → St → Prop} {c : Operand} {g : FuncId} {first caps ps args : List PV} {xs : Array Operand} {fn : Func} {code : Code} {m : Nat} {rs : List ResultVar}
    (hc : evE env c = some (.fn (.func g) first caps)) (hx : evL env xs.toList = some ps) [hf : FnT P g fn] (hb : fn.body = some code) (hnt : fn.ntmps = m) (hrs : fn.results = rs.toArray) (ha : capp first ps caps = args) (hn : Nat.ble args.length m = true)
    (hd : inB ⟨nt, env, lh⟩ dst = true)
    (h : ∀ tm : Array Value, GoR P ⟨X.box, X.F, (env, tm) :: X.fr, []⟩ w0 T (.next ⟨.code code, m, envOf 0 args, lh, []⟩) (inlK T rs fun r lh' => GoR P X w0 T (.next ⟨.ops ops l, nt, (match dst with | some d => (d, r) :: env | none => env), lh', fs⟩) K)) :
    RW P X w0 ops (⟨dst, .call { callee := .value c, args := xs, argTypes := ats }, ty, pos, after, none⟩ :: l) ⟨nt, env, lh⟩ (frK P X w0 fs K .normal) := by
  subst ha
  rw [capp_eq] at hn
  have := RW.inl_ (ats := ats) (X := X) (w0 := w0) (ops := ops) (l := l) (K := frK P X w0 fs K .normal) (nt := nt) (env := env) (lh := lh) (dst := dst) (ty := ty) (pos := pos) (after := after) (by rw [evE_eq]; exact hc) (evL_eq (nt := nt) (lh := lh) hx) hf.hf hb hf.ent hnt hrs hn hd (fun tm => (PW.ofG (by
    have := h tm
    rw [capp_eq] at this
    exact this)).mono fun e σ k => ?_)
  · rwa [Array.toArray_toList] at this
  · refine (inlK_inl (P := P) tb.ok k).mono ?_
    intro r lh' hk
    have := GoR.sem tb.ok tb.mixed hk
    cases dst with
    | none => exact this
    | some d => exact this
end
end Go.Proofs.YtbjepdfnmbdplaaGreat
end
section
namespace Go.Proofs.YtbjepdfnmbdplaaGreat
instance : ElemT Tryz.prog 3 (.int .i64 0) 1 8 := ⟨by kernel_rfl⟩
instance : SliceT Tryz.prog 22 40 10 := ⟨by kernel_rfl⟩
instance : SliceT Tryz.prog 23 29 2 := ⟨by kernel_rfl⟩
instance : SliceT Tryz.prog 24 81 3 := ⟨by kernel_rfl⟩
instance : SliceT Tryz.prog 25 26 1 := ⟨by kernel_rfl⟩
instance : ElemT Tryz.prog 26 (.slice none 0 0) 1 24 := ⟨by kernel_rfl⟩
instance : SliceT Tryz.prog 26 3 1 := ⟨by kernel_rfl⟩
instance : SliceT Tryz.prog 27 79 1 := ⟨by kernel_rfl⟩
instance : ElemT Tryz.prog 29 (.agg #[.int .i64 0, .int .i64 0]) 2 16 := ⟨by kernel_rfl⟩
instance : SliceT Tryz.prog 38 86 6 := ⟨by kernel_rfl⟩
instance : TySz Tryz.prog 40 true 10 := ⟨by kernel_rfl⟩
instance : ElemT Tryz.prog 40 (.agg #[.int .i64 0, .int .i64 0, .int .i64 0, .int .i64 0, .int .i64 0, .int .i64 0, .int .i64 0, .int .i64 0, .string ⟨#[]⟩, .slice none 0 0]) 10 104 := ⟨by kernel_rfl⟩
instance : SliceT Tryz.prog 45 63 15 := ⟨by kernel_rfl⟩
instance : ElemT Tryz.prog 63 (.agg #[.int .i64 0, .int .i64 0, .int .i64 0, .int .i64 0, .int .i64 0, .int .i64 0, .int .i64 0, .int .i64 0, .int .i64 0, .string ⟨#[]⟩, .int .i64 0, .int .i64 0, .slice none 0 0, .slice none 0 0, .int .i64 0]) 15 160 := ⟨by kernel_rfl⟩
instance : ZeroT Tryz.prog 75 [.int .i64 0, .int .i64 0] := ⟨by kernel_rfl⟩
instance : ArrT Tryz.prog 75 2 3 1 := ⟨by kernel_rfl⟩
instance : ElemT Tryz.prog 79 (.slice none 0 0) 1 24 := ⟨by kernel_rfl⟩
instance : ElemT Tryz.prog 81 (.agg #[.int .i64 0, .slice none 0 0, .slice none 0 0]) 3 56 := ⟨by kernel_rfl⟩
instance : TySz Tryz.prog 86 true 6 := ⟨by kernel_rfl⟩
instance : ElemT Tryz.prog 86 (.agg #[.int .i64 0, .int .i64 0, .int .i64 0, .int .i64 0, .int .i64 0, .int .i64 0]) 6 48 := ⟨by kernel_rfl⟩
instance : SliceT Tryz.prog 121 44 1 := ⟨by kernel_rfl⟩
instance : ZeroT Tryz.prog 244 [.string ⟨#[]⟩, .string ⟨#[]⟩, .string ⟨#[]⟩, .string ⟨#[]⟩, .string ⟨#[]⟩, .string ⟨#[]⟩, .string ⟨#[]⟩, .string ⟨#[]⟩, .string ⟨#[]⟩, .string ⟨#[]⟩, .string ⟨#[]⟩] := ⟨by kernel_rfl⟩
instance : ArrT Tryz.prog 244 11 9 1 := ⟨by kernel_rfl⟩
instance : ZeroT Tryz.prog 267 [.int .i64 0, .int .i64 0, .int .i64 0, .int .i64 0, .int .i64 0, .int .i64 0] := ⟨by kernel_rfl⟩
instance : ArrT Tryz.prog 267 6 3 1 := ⟨by kernel_rfl⟩
end Go.Proofs.YtbjepdfnmbdplaaGreat
end
