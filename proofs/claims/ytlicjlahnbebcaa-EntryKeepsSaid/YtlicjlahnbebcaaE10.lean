/- Rules in the form in which a function is walked. -/
import Derived.Test.YtlicjlahnbebcaaE9
import Derived.IntWalk
import Derived.MapKept
namespace Go.Proofs.Ytlicjlahnbebcaa
open Go.RowKit

/-- Is it so? (Not to be reckoned by unfolding.) -/
noncomputable def tst (p : Prop) : Bool := @decide p (Classical.propDecidable p)
theorem tst_eq (p : Prop) [h : Decidable p] : tst p = decide p := by
  unfold tst
  by_cases hp : p
  · rw [decide_eq_true hp, @decide_eq_true p (Classical.propDecidable p) hp]
  · rw [decide_eq_false hp, @decide_eq_false p (Classical.propDecidable p) hp]
theorem tst_true {p : Prop} : tst p = true ↔ p := by unfold tst; exact @decide_eq_true_iff p (Classical.propDecidable p)
theorem tst_false {p : Prop} : tst p = false ↔ ¬ p := by unfold tst; exact @decide_eq_false_iff_not p (Classical.propDecidable p)
theorem i64_wrap {a : Int} (h1 : -9223372036854775808 ≤ a) (h2 : a ≤ 9223372036854775807) : IntKind.i64.wrap a = a := IntWalk.i64_in _ ⟨h1, h2⟩
theorem str_beq (x y : ByteArray) : (x.toList == y.toList) = decide (x = y) := by
  rw [← beq_toListBytes]
  cases h : x == y
  · symm
    apply decide_eq_false
    intro e
    rw [(MapKept.bytes_beq x y).2 e] at h
    cases h
  · symm
    apply decide_eq_true
    exact (MapKept.bytes_beq x y).1 h
section
variable {P : Program} {σ : St} {dst : Option Tmp} {ty : TypeId} {pos : String} {after : Array Edge} {guard : Option (Nat × Bool)} {t yt : TypeId} {x y : Operand} {a b : Int} {k : IntKind}
theorem ok_add (hx : σ.ev x = some (.v (.int .i64 a)) := by rfl) (hy : σ.ev y = some (.v (.int .i64 b)) := by rfl) (hd : inB σ dst = true := by rfl) (h1 : -9223372036854775808 ≤ a + b := by omega) (h2 : a + b ≤ 9223372036854775807 := by omega) : OpOK P ⟨dst, .binOp .add t x y yt, ty, pos, after, guard⟩ σ (.v (.int .i64 (a + b))) [] :=
  ok_bin hx hy (fun w => by simp [eqGuard, binOp, Op.intArith, i64_wrap h1 h2]) hd
theorem ok_sub (hx : σ.ev x = some (.v (.int .i64 a)) := by rfl) (hy : σ.ev y = some (.v (.int .i64 b)) := by rfl) (hd : inB σ dst = true := by rfl) (h1 : -9223372036854775808 ≤ a - b := by omega) (h2 : a - b ≤ 9223372036854775807 := by omega) : OpOK P ⟨dst, .binOp .sub t x y yt, ty, pos, after, guard⟩ σ (.v (.int .i64 (a - b))) [] :=
  ok_bin hx hy (fun w => by simp [eqGuard, binOp, Op.intArith, i64_wrap h1 h2]) hd
theorem ok_mul (hx : σ.ev x = some (.v (.int .i64 a)) := by rfl) (hy : σ.ev y = some (.v (.int .i64 b)) := by rfl) (hd : inB σ dst = true := by rfl) (h1 : -9223372036854775808 ≤ a * b := by omega) (h2 : a * b ≤ 9223372036854775807 := by omega) : OpOK P ⟨dst, .binOp .mul t x y yt, ty, pos, after, guard⟩ σ (.v (.int .i64 (a * b))) [] :=
  ok_bin hx hy (fun w => by simp [eqGuard, binOp, Op.intArith, i64_wrap h1 h2]) hd
theorem ok_quo (hx : σ.ev x = some (.v (.int .i64 a)) := by rfl) (hy : σ.ev y = some (.v (.int .i64 b)) := by rfl) (hd : inB σ dst = true := by rfl) (h0 : 0 ≤ a := by omega) (hb : 0 < b := by omega) (h2 : a ≤ 9223372036854775807 := by omega) : OpOK P ⟨dst, .binOp .quo t x y yt, ty, pos, after, guard⟩ σ (.v (.int .i64 (a / b))) [] :=
  ok_bin hx hy (fun w => by
    have hne : ¬ b = 0 := by omega
    have e : a.tdiv b = a / b := Int.tdiv_eq_ediv_of_nonneg h0
    have h3 : a / b ≤ a := Int.ediv_le_self b h0
    have h4 : 0 ≤ a / b := Int.ediv_nonneg h0 (by omega)
    simp [eqGuard, binOp, Op.intDiv, hne, e, i64_wrap (a := a / b) (by omega) (by omega)]) hd
theorem ok_rem (hx : σ.ev x = some (.v (.int .i64 a)) := by rfl) (hy : σ.ev y = some (.v (.int .i64 b)) := by rfl) (hd : inB σ dst = true := by rfl) (h0 : 0 ≤ a := by omega) (hb : 0 < b := by omega) : OpOK P ⟨dst, .binOp .rem t x y yt, ty, pos, after, guard⟩ σ (.v (.int .i64 (a % b))) [] :=
  ok_bin hx hy (fun w => by
    have hne : ¬ b = 0 := by omega
    have e : a.tmod b = a % b := Int.tmod_eq_emod_of_nonneg h0
    simp [eqGuard, binOp, Op.intDiv, hne, e]) hd
theorem ok_remT (hx : σ.ev x = some (.v (.int .i64 a))) (hy : σ.ev y = some (.v (.int .i64 b))) (hd : inB σ dst = true) (hb : b ≠ 0) : OpOK P ⟨dst, .binOp .rem t x y yt, ty, pos, after, guard⟩ σ (.v (.int .i64 (a.tmod b))) [] :=
  ok_bin hx hy (fun w => by simp [eqGuard, binOp, Op.intDiv, hb]) hd
theorem ok_lss (hx : σ.ev x = some (.v (.int k a)) := by rfl) (hy : σ.ev y = some (.v (.int k b)) := by rfl) (hd : inB σ dst = true := by rfl) : OpOK P ⟨dst, .binOp .lss t x y yt, ty, pos, after, guard⟩ σ (.v (.bool (tst (a < b)))) [] :=
  ok_bin hx hy (fun w => by simp [eqGuard, binOp, Op.intCmp, tst_eq]) hd
theorem ok_leq (hx : σ.ev x = some (.v (.int k a)) := by rfl) (hy : σ.ev y = some (.v (.int k b)) := by rfl) (hd : inB σ dst = true := by rfl) : OpOK P ⟨dst, .binOp .leq t x y yt, ty, pos, after, guard⟩ σ (.v (.bool (tst (a ≤ b)))) [] :=
  ok_bin hx hy (fun w => by simp [eqGuard, binOp, Op.intCmp, tst_eq]) hd
theorem ok_gtr (hx : σ.ev x = some (.v (.int k a)) := by rfl) (hy : σ.ev y = some (.v (.int k b)) := by rfl) (hd : inB σ dst = true := by rfl) : OpOK P ⟨dst, .binOp .gtr t x y yt, ty, pos, after, guard⟩ σ (.v (.bool (tst (b < a)))) [] :=
  ok_bin hx hy (fun w => by simp [eqGuard, binOp, Op.intCmp, tst_eq]) hd
theorem ok_geq (hx : σ.ev x = some (.v (.int k a)) := by rfl) (hy : σ.ev y = some (.v (.int k b)) := by rfl) (hd : inB σ dst = true := by rfl) : OpOK P ⟨dst, .binOp .geq t x y yt, ty, pos, after, guard⟩ σ (.v (.bool (tst (b ≤ a)))) [] :=
  ok_bin hx hy (fun w => by simp [eqGuard, binOp, Op.intCmp, tst_eq]) hd
theorem ok_eql (hx : σ.ev x = some (.v (.int k a)) := by rfl) (hy : σ.ev y = some (.v (.int k b)) := by rfl) (hd : inB σ dst = true := by rfl) : OpOK P ⟨dst, .binOp .eql t x y yt, ty, pos, after, guard⟩ σ (.v (.bool (tst (a = b)))) [] :=
  ok_bin hx hy (fun w => by simp [eqGuard, binOp, Op.intCmp, tst_eq]; rfl) hd
theorem ok_neq (hx : σ.ev x = some (.v (.int k a)) := by rfl) (hy : σ.ev y = some (.v (.int k b)) := by rfl) (hd : inB σ dst = true := by rfl) : OpOK P ⟨dst, .binOp .neq t x y yt, ty, pos, after, guard⟩ σ (.v (.bool (!tst (a = b)))) [] :=
  ok_bin hx hy (fun w => by simp [eqGuard, binOp, Op.intCmp, tst_eq]; rfl) hd
theorem ok_eqlS {a b : ByteArray} (hx : σ.ev x = some (.v (.string a)) := by rfl) (hy : σ.ev y = some (.v (.string b)) := by rfl) (hd : inB σ dst = true := by rfl) : OpOK P ⟨dst, .binOp .eql t x y yt, ty, pos, after, guard⟩ σ (.v (.bool (tst (a = b)))) [] :=
  ok_bin hx hy (fun w => by simp [eqGuard, binOp, Op.stringOp, str_beq, tst_eq]) hd
theorem ok_neqS {a b : ByteArray} (hx : σ.ev x = some (.v (.string a)) := by rfl) (hy : σ.ev y = some (.v (.string b)) := by rfl) (hd : inB σ dst = true := by rfl) : OpOK P ⟨dst, .binOp .neq t x y yt, ty, pos, after, guard⟩ σ (.v (.bool (!tst (a = b)))) [] :=
  ok_bin hx hy (fun w => by simp [eqGuard, binOp, Op.stringOp, str_beq, tst_eq]) hd
theorem run_eqlB (hu : P.underlying t = some .bool) (a b : Bool) (w : World) : (Op.equal t (.bool a) (.bool b)).run P w = .ok (a == b) w := run_equalIn_bool' w 9999 t a b hu
theorem ok_eqlB {a b : Bool} [hu : BoolT P t] (hx : σ.ev x = some (.v (.bool a)) := by rfl) (hy : σ.ev y = some (.v (.bool b)) := by rfl) (hd : inB σ dst = true := by rfl) : OpOK P ⟨dst, .binOp .eql t x y yt, ty, pos, after, guard⟩ σ (.v (.bool (a == b))) [] :=
  ok_bin hx hy (fun w => by simp [eqGuard, binOp, run_eqlB hu.h]) hd
theorem ok_neqB {a b : Bool} [hu : BoolT P t] (hx : σ.ev x = some (.v (.bool a)) := by rfl) (hy : σ.ev y = some (.v (.bool b)) := by rfl) (hd : inB σ dst = true := by rfl) : OpOK P ⟨dst, .binOp .neq t x y yt, ty, pos, after, guard⟩ σ (.v (.bool (!(a == b)))) [] :=
  ok_bin hx hy (fun w => by simp [eqGuard, binOp, run_eqlB hu.h]) hd
theorem ok_not {a : Bool} (hx : σ.ev x = some (.v (.bool a)) := by rfl) (hd : inB σ dst = true := by rfl) : OpOK P ⟨dst, .unOp .not t x, ty, pos, after, guard⟩ σ (.v (.bool (!a))) [] :=
  ok_un hx (fun w => by simp [Op.unary]) hd
end

/-! ### Slices of one kind of element -/
section
variable {P : Program} {σ : St} {dst : Option Tmp} {ty : TypeId} {pos : String} {after : Array Edge} {guard : Option (Nat × Bool)}
theorem ok_index_map {α : Type} {f : α → List PV} {l : List α} {t e sz : Nat} {x ix : Operand} {k : IntKind} {n : Nat} [h : SliceT P t e sz] (hx : σ.ev x = some (.sl sz (l.map f)) := by rfl) (hi : σ.ev ix = some (.v (.int k (n : Int))) := by rfl) (hn : n < l.length := by omega) (hz : sz ≠ 0 := by decide) (hd : inB σ dst = true := by rfl) :
    OpOK P ⟨dst, .indexAddr t x ix, ty, pos, after, guard⟩ σ (.ptr (f (l[n]'hn))) [] := ok_indexAddr_sl hx hi (Int.natCast_nonneg _) (by simp [hn]) hz hd
theorem ok_index_mapI {α : Type} {f : α → List PV} {l : List α} {t e sz : Nat} {x ix : Operand} {k : IntKind} {i : Int} [h : SliceT P t e sz] (hx : σ.ev x = some (.sl sz (l.map f)) := by rfl) (hi : σ.ev ix = some (.v (.int k i)) := by rfl) (h0 : 0 ≤ i := by omega) (hn : i < (l.length : Int) := by omega) (hz : sz ≠ 0 := by decide) (hd : inB σ dst = true := by rfl) :
    OpOK P ⟨dst, .indexAddr t x ix, ty, pos, after, guard⟩ σ (.ptr (f (l[i.toNat]'(by omega)))) [] := ok_indexAddr_sl hx hi h0 (by
      have : i.toNat < l.length := by omega
      simp [this]) hz hd
theorem ok_loadA_ptr {t : TypeId} {x : Operand} {n : Nat} {cs : List PV} [ht : TySz P t true n] (hx : σ.ev x = some (.ptr cs) := by rfl) (hn : Nat.beq cs.length n = true := by rfl) (hd : inB σ dst = true := by rfl) : OpOK P ⟨dst, .load t x, ty, pos, after, guard⟩ σ (.agg cs) [] := by
  have e := Nat.eq_of_beq_eq_true hn
  have h := ok_loadN_ptr (P := P) (σ := σ) (dst := dst) (ty := ty) (pos := pos) (after := after) (guard := guard) (t := t) hx (by rw [Nat.ble_eq]; omega) hd
  rwa [List.take_of_length_le (by omega)] at h
theorem ok_loadA_lp {t : TypeId} {x : Operand} {id n : Nat} {cells : List PV} [ht : TySz P t true n] (hx : σ.ev x = some (.lp id 0) := by rfl) (hb : σ.blk id = some (.box cells) := by rfl) (hn : Nat.beq cells.length n = true := by rfl) (hd : inB σ dst = true := by rfl) : OpOK P ⟨dst, .load t x, ty, pos, after, guard⟩ σ (.agg cells) [] := by
  have e := Nat.eq_of_beq_eq_true hn
  have h := ok_loadN_lp (P := P) (σ := σ) (dst := dst) (ty := ty) (pos := pos) (after := after) (guard := guard) (t := t) hx hb (by rw [Nat.ble_eq]; omega) hd
  rwa [List.drop_zero, List.take_of_length_le (by omega)] at h
theorem putL_full {α : Type} : ∀ (ps cs pre : List α), cs.length = ps.length → putL (pre ++ cs) pre.length ps = pre ++ ps
  | [], cs, pre, h => by
    have : cs = [] := List.eq_nil_of_length_eq_zero h
    subst this
    rfl
  | p :: ps, [], pre, h => by simp at h
  | p :: ps, c :: cs, pre, h => by
    rw [putL, List.set_append_right _ _ (Nat.le_refl _), Nat.sub_self, List.set_cons_zero]
    have := putL_full ps cs (pre ++ [p]) (by simpa using h)
    rw [List.length_append, List.length_singleton, List.append_assoc, List.append_assoc] at this
    exact this
/-- A slice of one element. -/
theorem ok_lit1 {t e sz bytes : Nat} {z : Value} {x : Operand} {p : PV} [h : SliceT P t e sz] [hz : ElemT P e z sz bytes] (hx : σ.ev x = some p := by rfl) (hl : p.lies = true := by rfl) (hn : Nat.beq p.cells.length sz = true := by rfl) (hc : closedL p.cells = true := by rfl)
    (hk : (Nat.ble (1 * sz) 16777216 && Nat.beq z.cells.size sz && !Nat.beq sz 0 && z.cells.toList.all Value.oneCell') = true := by rfl) (hd : inB σ dst = true := by rfl) :
    OpOK P ⟨dst, .buildSlice t 1 #[(0, x)], ty, pos, after, guard⟩ σ (.sl sz [p.cells]) [] := by
  have e1 := Nat.eq_of_beq_eq_true hn
  have hk' := hk
  simp only [Bool.and_eq_true] at hk'
  have e2 := Nat.eq_of_beq_eq_true hk'.1.1.2
  have hzl : (zeroPV 1 z.cells.toList).length = sz := by unfold zeroPV; simp [e2]
  have hput : putL (zeroPV 1 z.cells.toList) 0 p.cells = p.cells := by
    have := putL_full p.cells (zeroPV 1 z.cells.toList) [] (by rw [hzl, e1])
    simpa using this
  have hcs : fillP (fun i => some (i * sz, sz)) (zeroPV 1 z.cells.toList) [(0, p)] = some p.cells := by
    rw [fillP]
    simp only [Nat.zero_mul]
    have : (Nat.beq p.cells.length sz && Nat.ble (0 + sz) (zeroPV 1 z.cells.toList).length && p.lies) = true := by
      rw [hn, hl, hzl]; simp
    rw [this, cond_true, hput]
    rfl
  have hps : σ.evP [(0, x)] = some [(0, p)] := by simp [St.evP, hx]
  have := ok_lit (P := P) (σ := σ) (dst := dst) (ty := ty) (pos := pos) (after := after) (guard := guard) (t := t) (n := 1) hps hcs hc hk hd
  have hch : chunks sz 1 p.cells = [p.cells] := by
    have hr : List.range 1 = [0] := rfl
    unfold chunks
    rw [hr, List.map_cons, List.map_nil, Nat.zero_mul, List.drop_zero, List.take_of_length_le (by omega)]
  rwa [hch] at this
end

/-! ### Walking -/
section
variable {P : Program} {X : XF} {w0 : World} {ops : Array Oper} {l : List Oper} {nt d : Nat} {env : List (Nat × PV)} {lh : List (Nat × LB)} {op : Op} {ty : TypeId} {pos : String} {after : Array Edge} {p : PV} {K : St → Prop}
theorem RW.st (h : OpOK P ⟨some d, op, ty, pos, after, none⟩ ⟨nt, env, lh⟩ p []) (k : RW P X w0 ops l ⟨nt, (d, p) :: env, lh⟩ K) : RW P X w0 ops (⟨some d, op, ty, pos, after, none⟩ :: l) ⟨nt, env, lh⟩ K := RW.ok rfl h k
theorem RW.stB {b : LB} (h : OpOK P ⟨some d, op, ty, pos, after, none⟩ ⟨nt, env, lh⟩ p [(d, b)]) (hn : look d lh = none) (k : RW P X w0 ops l ⟨nt, (d, p) :: env, (d, b) :: lh⟩ K) : RW P X w0 ops (⟨some d, op, ty, pos, after, none⟩ :: l) ⟨nt, env, lh⟩ K := RW.okB rfl h hn k
theorem RW.stE {o : Oper} {σ' : St} (hg : o.guard = none) (h : OpEff P o ⟨nt, env, lh⟩ σ') (k : RW P X w0 ops l σ' K) : RW P X w0 ops (o :: l) ⟨nt, env, lh⟩ K := RW.eff hg h k
theorem RW.stx (h : ∃ p, OpOK P ⟨some d, op, ty, pos, after, none⟩ ⟨nt, env, lh⟩ p [] ∧ RW P X w0 ops l ⟨nt, (d, p) :: env, lh⟩ K) : RW P X w0 ops (⟨some d, op, ty, pos, after, none⟩ :: l) ⟨nt, env, lh⟩ K := by
  obtain ⟨p, h1, h2⟩ := h
  exact RW.st h1 h2
theorem RW.stBx (h : ∃ p b, OpOK P ⟨some d, op, ty, pos, after, none⟩ ⟨nt, env, lh⟩ p [(d, b)] ∧ look d lh = none ∧ RW P X w0 ops l ⟨nt, (d, p) :: env, (d, b) :: lh⟩ K) : RW P X w0 ops (⟨some d, op, ty, pos, after, none⟩ :: l) ⟨nt, env, lh⟩ K := by
  obtain ⟨p, b, h1, h2, h3⟩ := h
  exact RW.stB h1 h2 h3
theorem RW.stS {o : Oper} {id : Nat} {b : LB} (hg : o.guard = none) (h : OpEff P o ⟨nt, env, lh⟩ (St.setB ⟨nt, env, lh⟩ id b)) (k : RW P X w0 ops l ⟨nt, env, (id, b) :: lh⟩ K) : RW P X w0 ops (o :: l) ⟨nt, env, lh⟩ K := RW.eff hg h k
theorem RW.stA {o : Oper} {id d : Nat} {b : LB} {p : PV} (hg : o.guard = none) (h : OpEff P o ⟨nt, env, lh⟩ ((St.setB ⟨nt, env, lh⟩ id b).put (some d) p)) (k : RW P X w0 ops l ⟨nt, (d, p) :: env, (id, b) :: lh⟩ K) : RW P X w0 ops (o :: l) ⟨nt, env, lh⟩ K := RW.eff hg h k
/-- The operations of a region that draws its order, in the order of the text. -/
structure DW (P : Program) (ops : Array Oper) (i : Nat) (l : List Oper) (σ : St) (K : St → Prop) : Prop where
  ex : ∃ σe, DRun P ops i l σ σe ∧ K σe
theorem DW.nil {i : Nat} {σ : St} (h : K σ) : DW P ops i [] σ K := ⟨σ, .nil, h⟩
theorem DW.st {i : Nat} (h : OpOK P ⟨some d, op, ty, pos, after, none⟩ ⟨nt, env, lh⟩ p []) (hi : ((⟨nt, env, lh⟩ : St).ids ⟨some d, op, ty, pos, after, none⟩).all (okId ops.toList i) = true) (k : DW P ops (i + 1) l ⟨nt, (d, p) :: env, lh⟩ K) : DW P ops i (⟨some d, op, ty, pos, after, none⟩ :: l) ⟨nt, env, lh⟩ K := by
  obtain ⟨σe, hr, hk⟩ := k.ex
  exact ⟨σe, .ok rfl h (.inl rfl) (newB_nil _) hi hr, hk⟩
theorem DW.stB {i : Nat} {b : LB} (h : OpOK P ⟨some d, op, ty, pos, after, none⟩ ⟨nt, env, lh⟩ p [(d, b)]) (hn : look d lh = none) (hi : ((⟨nt, env, lh⟩ : St).ids ⟨some d, op, ty, pos, after, none⟩).all (okId ops.toList i) = true) (k : DW P ops (i + 1) l ⟨nt, (d, p) :: env, (d, b) :: lh⟩ K) : DW P ops i (⟨some d, op, ty, pos, after, none⟩ :: l) ⟨nt, env, lh⟩ K := by
  obtain ⟨σe, hr, hk⟩ := k.ex
  exact ⟨σe, .ok rfl h (.inr ⟨d, b, rfl, rfl⟩) (newB_one hn) hi hr, hk⟩
theorem DW.stx {i : Nat} (h : ∃ p, OpOK P ⟨some d, op, ty, pos, after, none⟩ ⟨nt, env, lh⟩ p [] ∧ ((⟨nt, env, lh⟩ : St).ids ⟨some d, op, ty, pos, after, none⟩).all (okId ops.toList i) = true ∧ DW P ops (i + 1) l ⟨nt, (d, p) :: env, lh⟩ K) : DW P ops i (⟨some d, op, ty, pos, after, none⟩ :: l) ⟨nt, env, lh⟩ K := by
  obtain ⟨p, h1, h2, h3⟩ := h
  exact DW.st h1 h2 h3
theorem DW.stBx {i : Nat} (h : ∃ p b, OpOK P ⟨some d, op, ty, pos, after, none⟩ ⟨nt, env, lh⟩ p [(d, b)] ∧ look d lh = none ∧ ((⟨nt, env, lh⟩ : St).ids ⟨some d, op, ty, pos, after, none⟩).all (okId ops.toList i) = true ∧ DW P ops (i + 1) l ⟨nt, (d, p) :: env, (d, b) :: lh⟩ K) : DW P ops i (⟨some d, op, ty, pos, after, none⟩ :: l) ⟨nt, env, lh⟩ K := by
  obtain ⟨p, b, h1, h2, h3, h4⟩ := h
  exact DW.stB h1 h2 h3 h4
theorem OpOK.unguard {g : Option (Nat × Bool)} {σ : St} {nb : List (Nat × LB)} (h : OpOK P ⟨some d, op, ty, pos, after, none⟩ σ p nb) : OpOK P ⟨some d, op, ty, pos, after, g⟩ σ p nb := ⟨fun σ' hag hn => ⟨fun X w0 a w μ K Q s hK =>
  (h.run σ' ⟨hag.nt, hag.ev, hag.blk⟩ hn).run X w0 a w μ K Q s hK⟩⟩
/-- A guarded operation. -/
theorem DW.gd {i j t : Nat} {want b : Bool} {oj : Oper} (hj : ops[j]? = some oj) (hd : oj.dst = some t) (hb : look t env = some (.v (.bool b))) (hdst : Nat.blt d nt = true)
    (hy : b = want → ∃ p, OpOK P ⟨some d, op, ty, pos, after, none⟩ ⟨nt, env, lh⟩ p [] ∧ ((⟨nt, env, lh⟩ : St).ids ⟨some d, op, ty, pos, after, none⟩).all (okId ops.toList i) = true ∧ DW P ops (i + 1) l ⟨nt, (d, p) :: env, lh⟩ K)
    (hn : b = (!want) → DW P ops (i + 1) l ⟨nt, (d, .v undef) :: env, lh⟩ K) : DW P ops i (⟨some d, op, ty, pos, after, some (j, want)⟩ :: l) ⟨nt, env, lh⟩ K := by
  by_cases e : b = want
  · obtain ⟨p, hok, hi, ⟨σe, hr, hk⟩⟩ := hy e
    exact ⟨σe, .ok ⟨oj, t, b, hj, hd, hb, by rw [e]; simp⟩ hok.unguard (.inl rfl) (newB_nil _) hi hr, hk⟩
  · have e' : b = (!want) := by cases b <;> cases want <;> simp_all
    obtain ⟨σe, hr, hk⟩ := (hn e').ex
    exact ⟨σe, .skip ⟨oj, t, b, hj, hd, hb, by simp [e]⟩ hdst hr, hk⟩
theorem Weak.bool {X : XF} {w0 : World} {t : Nat} {b want : Bool} (hb : look t env = some (.v (.bool b))) (h : b = want) : Weak X w0 ⟨nt, env, lh⟩ ⟨nt, (t, .v (.bool want)) :: env, lh⟩ := ⟨fun a w μ s => ⟨μ, s.less rfl (fun t' p hp => by
  have hp' : look t' ((t, .v (.bool want)) :: env) = some p := hp
  by_cases e : t' = t
  · subst e; rw [look_cons_eq] at hp'; injection hp' with hp'; subst hp'; rw [← h]; exact hb
  · rw [look_cons_ne e] at hp'; exact hp') (fun _ => rfl)⟩⟩
theorem RW.gdS {j t : Nat} {want b : Bool} {oj : Oper} (hj : ops[j]? = some oj) (hd : oj.dst = some t) (hb : look t env = some (.v (.bool b))) (hdst : Nat.blt d nt = true)
    (hy : b = want → RW P X w0 ops (⟨some d, op, ty, pos, after, none⟩ :: l) ⟨nt, (t, .v (.bool want)) :: env, lh⟩ K) (hn : b = (!want) → RW P X w0 ops l ⟨nt, (d, .v undef) :: (t, .v (.bool (!want))) :: env, lh⟩ K) : RW P X w0 ops (⟨some d, op, ty, pos, after, some (j, want)⟩ :: l) ⟨nt, env, lh⟩ K :=
  RW.guard rfl hj hd hb hdst (fun e => RW.weak (Weak.bool hb e) (hy e)) (fun e => RW.weak (by
    refine ⟨fun a w μ s => ?_⟩
    have hb' : look t ((d, .v undef) :: env) = some (.v (.bool b)) ∨ t = d := by
      by_cases h : t = d
      · exact .inr h
      · rw [look_cons_ne h]; exact .inl hb
    refine ⟨μ, s.less rfl (fun t' p hp => ?_) (fun _ => rfl)⟩
    have hp' : look t' ((d, .v undef) :: (t, .v (.bool (!want))) :: env) = some p := hp
    show look t' ((d, .v undef) :: env) = some p
    by_cases e1 : t' = d
    · subst e1; rw [look_cons_eq] at hp' ⊢; exact hp'
    · rw [look_cons_ne e1] at hp' ⊢
      by_cases e2 : t' = t
      · subst e2; rw [look_cons_eq] at hp'; injection hp' with hp'; subst hp'; rw [← e]; exact hb
      · rw [look_cons_ne e2] at hp'; exact hp') (hn e))
theorem RW.gdY {j t : Nat} {want : Bool} {oj : Oper} (hj : ops[j]? = some oj) (hd : oj.dst = some t) (hb : look t env = some (.v (.bool want))) (hdst : Nat.blt d nt = true)
    (hy : RW P X w0 ops (⟨some d, op, ty, pos, after, none⟩ :: l) ⟨nt, env, lh⟩ K) : RW P X w0 ops (⟨some d, op, ty, pos, after, some (j, want)⟩ :: l) ⟨nt, env, lh⟩ K :=
  RW.guard rfl hj hd hb hdst (fun _ => hy) (fun e => by cases want <;> cases e)
theorem RW.gdN {j t : Nat} {want : Bool} {oj : Oper} (hj : ops[j]? = some oj) (hd : oj.dst = some t) (hb : look t env = some (.v (.bool (!want)))) (hdst : Nat.blt d nt = true)
    (hn : RW P X w0 ops l ⟨nt, (d, .v undef) :: env, lh⟩ K) : RW P X w0 ops (⟨some d, op, ty, pos, after, some (j, want)⟩ :: l) ⟨nt, env, lh⟩ K :=
  RW.guard rfl hj hd hb hdst (fun e => by cases want <;> cases e) (fun _ => hn)
/-- Drawn: the guard is known. -/
theorem DW.gdY {i j t : Nat} {want : Bool} {oj : Oper} (hj : ops[j]? = some oj) (hd : oj.dst = some t) (hb : look t env = some (.v (.bool want)))
    (h : OpOK P ⟨some d, op, ty, pos, after, none⟩ ⟨nt, env, lh⟩ p []) (hi : ((⟨nt, env, lh⟩ : St).ids ⟨some d, op, ty, pos, after, none⟩).all (okId ops.toList i) = true) (k : DW P ops (i + 1) l ⟨nt, (d, p) :: env, lh⟩ K) : DW P ops i (⟨some d, op, ty, pos, after, some (j, want)⟩ :: l) ⟨nt, env, lh⟩ K := by
  obtain ⟨σe, hr, hk⟩ := k.ex
  exact ⟨σe, .ok ⟨oj, t, want, hj, hd, hb, by simp⟩ h.unguard (.inl rfl) (newB_nil _) hi hr, hk⟩
theorem DW.gdYx {i j t : Nat} {want : Bool} {oj : Oper} (hj : ops[j]? = some oj) (hd : oj.dst = some t) (hb : look t env = some (.v (.bool want)))
    (h : ∃ p, OpOK P ⟨some d, op, ty, pos, after, none⟩ ⟨nt, env, lh⟩ p [] ∧ ((⟨nt, env, lh⟩ : St).ids ⟨some d, op, ty, pos, after, none⟩).all (okId ops.toList i) = true ∧ DW P ops (i + 1) l ⟨nt, (d, p) :: env, lh⟩ K) : DW P ops i (⟨some d, op, ty, pos, after, some (j, want)⟩ :: l) ⟨nt, env, lh⟩ K := by
  obtain ⟨p, h1, h2, h3⟩ := h
  exact DW.gdY hj hd hb h1 h2 h3
theorem DW.gdYB {i j t : Nat} {want : Bool} {oj : Oper} {b : LB} (hj : ops[j]? = some oj) (hd : oj.dst = some t) (hb : look t env = some (.v (.bool want)))
    (h : OpOK P ⟨some d, op, ty, pos, after, none⟩ ⟨nt, env, lh⟩ p [(d, b)]) (hn : look d lh = none) (hi : ((⟨nt, env, lh⟩ : St).ids ⟨some d, op, ty, pos, after, none⟩).all (okId ops.toList i) = true) (k : DW P ops (i + 1) l ⟨nt, (d, p) :: env, (d, b) :: lh⟩ K) : DW P ops i (⟨some d, op, ty, pos, after, some (j, want)⟩ :: l) ⟨nt, env, lh⟩ K := by
  obtain ⟨σe, hr, hk⟩ := k.ex
  exact ⟨σe, .ok ⟨oj, t, want, hj, hd, hb, by simp⟩ h.unguard (.inr ⟨d, b, rfl, rfl⟩) (newB_one hn) hi hr, hk⟩
theorem DW.gdN {i j t : Nat} {want : Bool} {oj : Oper} (hj : ops[j]? = some oj) (hd : oj.dst = some t) (hb : look t env = some (.v (.bool (!want)))) (hdst : Nat.blt d nt = true)
    (k : DW P ops (i + 1) l ⟨nt, (d, .v undef) :: env, lh⟩ K) : DW P ops i (⟨some d, op, ty, pos, after, some (j, want)⟩ :: l) ⟨nt, env, lh⟩ K := by
  obtain ⟨σe, hr, hk⟩ := k.ex
  exact ⟨σe, .skip ⟨oj, t, !want, hj, hd, hb, by cases want <;> rfl⟩ hdst hr, hk⟩
theorem DW.gdB {i j t : Nat} {want b : Bool} {oj : Oper} (hj : ops[j]? = some oj) (hd : oj.dst = some t) (hb : look t env = some (.v (.bool b))) (hdst : Nat.blt d nt = true)
    (hy : b = want → ∃ p bk, OpOK P ⟨some d, op, ty, pos, after, none⟩ ⟨nt, env, lh⟩ p [(d, bk)] ∧ look d lh = none ∧ ((⟨nt, env, lh⟩ : St).ids ⟨some d, op, ty, pos, after, none⟩).all (okId ops.toList i) = true ∧ DW P ops (i + 1) l ⟨nt, (d, p) :: env, (d, bk) :: lh⟩ K)
    (hn : b = (!want) → DW P ops (i + 1) l ⟨nt, (d, .v undef) :: env, lh⟩ K) : DW P ops i (⟨some d, op, ty, pos, after, some (j, want)⟩ :: l) ⟨nt, env, lh⟩ K := by
  by_cases e : b = want
  · obtain ⟨p, bk, hok, hf, hi, ⟨σe, hr, hk⟩⟩ := hy e
    exact ⟨σe, .ok ⟨oj, t, b, hj, hd, hb, by rw [e]; simp⟩ hok.unguard (.inr ⟨d, bk, rfl, rfl⟩) (newB_one hf) hi hr, hk⟩
  · have e' : b = (!want) := by cases b <;> cases want <;> simp_all
    obtain ⟨σe, hr, hk⟩ := (hn e').ex
    exact ⟨σe, .skip ⟨oj, t, b, hj, hd, hb, by simp [e]⟩ hdst hr, hk⟩
theorem RW.gd {j t : Nat} {want b : Bool} {oj : Oper} (hj : ops[j]? = some oj) (hd : oj.dst = some t) (hb : look t env = some (.v (.bool b))) (hdst : Nat.blt d nt = true)
    (hy : b = want → RW P X w0 ops (⟨some d, op, ty, pos, after, none⟩ :: l) ⟨nt, env, lh⟩ K) (hn : b = (!want) → RW P X w0 ops l ⟨nt, (d, .v undef) :: env, lh⟩ K) : RW P X w0 ops (⟨some d, op, ty, pos, after, some (j, want)⟩ :: l) ⟨nt, env, lh⟩ K :=
  RW.guard rfl hj hd hb hdst hy hn
theorem PW.seq_k {x y : Code} {σ : St} {K : Exit → St → Prop} (h : ∀ N : St → Prop, (∀ σ', PW P X w0 y σ' K → N σ') → PW P X w0 x σ (ThenK N K)) : PW P X w0 (.seq x y) σ K := PW.seq (h _ (fun _ h => h))
theorem PW.cond_t {c : Operand} {x y : Code} {σ : St} {K : Exit → St → Prop} (hc : σ.ev c = some (.v (.bool true))) (h : PW P X w0 x σ K) : PW P X w0 (.cond c x y) σ K := PW.cond hc (fun _ => h) (fun e => by cases e)
theorem PW.cond_f {c : Operand} {x y : Code} {σ : St} {K : Exit → St → Prop} (hc : σ.ev c = some (.v (.bool false))) (h : PW P X w0 y σ K) : PW P X w0 (.cond c x y) σ K := PW.cond hc (fun e => by cases e) (fun _ => h)
theorem PW.drawW {id : Nat} {σ : St} {K : Exit → St → Prop} (hm : P.follows .mixedOrders = true) (hreg : regOK l = true) (h : DW P l.toArray 0 l σ (K .normal)) : PW P X w0 (.region id l.toArray true) σ K := by
  obtain ⟨σe, hr, hk⟩ := h.ex
  exact PW.draw hm hreg hr hk
end

/-! ### A state that says less, or says it otherwise -/
mutual
def PV.noId (id : Nat) : PV → Bool
  | .lp i _ | .row i _ | .rp i _ _ _ _ => !Nat.beq i id
  | .agg cs | .tup cs => noIdL id cs
  | .fn _ a b => noIdL id a && noIdL id b
  | .ifc _ x => x.noId id
  | _ => true
def noIdL (id : Nat) : List PV → Bool
  | [] => true
  | c :: cs => c.noId id && noIdL id cs
end
def LMap.del (μ : LMap) (id : Nat) : LMap := ⟨μ.F, fun k => if k = id then Option.none else μ.m k⟩
theorem LMap.del_ne (μ : LMap) {id k : Nat} (h : k ≠ id) : (μ.del id).m k = μ.m k := if_neg h
theorem LMap.del_eq (μ : LMap) (id : Nat) : (μ.del id).m id = Option.none := if_pos rfl
theorem LMap.del_owns {μ : LMap} {id g : Nat} (h : (μ.del id).owns g) : μ.owns g := by
  rcases h with h | ⟨k, l, hl, hb⟩
  · exact .inl h
  · by_cases e : k = id
    · subst e; rw [LMap.del_eq] at hl; cases hl
    · rw [LMap.del_ne _ e] at hl; exact .inr ⟨k, l, hl, hb⟩
theorem Later.del {w : World} {μ : LMap} {id : Nat} : Later w μ.shut w (μ.del id).shut :=
  ⟨fun a u hc ho => ⟨hc, fun h => ho (by rw [LMap.shut_owns] at h ⊢; exact LMap.del_owns h)⟩, fun _ _ h => (by cases h), fun _ _ _ h => (by cases h)⟩
theorem beq_ne {a b : Nat} (h : (!Nat.beq a b) = true) : a ≠ b := by
  intro e
  subst e
  simp at h
mutual
theorem Rep.del {w : World} {μ : LMap} {id : Nat} : ∀ (p : PV) (y : Value), p.noId id = true → Rep w μ p y → Rep w (μ.del id) p y
  | .v _, _, _, r => r
  | .any, _, _, _ => trivial
  | .agg cs, _, h, ⟨vs, e, r, h1⟩ => ⟨vs, e, RepL.del cs vs (by simpa [PV.noId] using h) r, h1⟩
  | .tup cs, _, h, ⟨vs, e, r⟩ => ⟨vs, e, RepL.del cs vs (by simpa [PV.noId] using h) r⟩
  | .sl sz xs, _, _, ⟨A, c, e, h1, h2, r⟩ => ⟨A, c, e, h1, h2, RepR.later Later.del A sz xs 0 r⟩
  | .ptr cs, _, _, ⟨a, e, r⟩ => ⟨a, e, RepC.later Later.del (some a) cs 0 r⟩
  | .lp i o, _, h, ⟨g, hg, e⟩ => ⟨g, by rw [LMap.del_ne _ (beq_ne h)]; exact hg, e⟩
  | .row i ver, _, h, ⟨z, k, hz, r⟩ => ⟨z, k, by rw [LMap.del_ne _ (beq_ne h)]; exact hz, r⟩
  | .rp i ver _ _ _, _, h, ⟨z, k, hz, r⟩ => ⟨z, k, by rw [LMap.del_ne _ (beq_ne h)]; exact hz, r⟩
  | .own _ _ _, _, _, r => r
  | .fn _ first caps, _, h, ⟨vs, us, e, r1, r2⟩ => by
    simp only [PV.noId, Bool.and_eq_true] at h
    exact ⟨vs, us, e, RepL.del first vs h.1 r1, RepL.del caps us h.2 r2⟩
  | .ifc _ x, _, h, ⟨z, e, r⟩ => ⟨z, e, Rep.del x z (by simpa [PV.noId] using h) r⟩
theorem RepL.del {w : World} {μ : LMap} {id : Nat} : ∀ (cs : List PV) (vs : List Value), noIdL id cs = true → RepL w μ cs vs → RepL w (μ.del id) cs vs
  | [], _, _, r => r
  | c :: cs, _, h, ⟨u, us, e, r1, r2⟩ => by
    simp only [noIdL, Bool.and_eq_true] at h
    exact ⟨u, us, e, Rep.del c u h.1 r1, RepL.del cs us h.2 r2⟩
end
def LB.noId (id : Nat) : LB → Bool
  | .box cells => noIdL id cells
  | .row _ _ _ xs => xs.all (noIdL id)
theorem noIdL_append {id : Nat} : ∀ {a b : List PV}, noIdL id a = true → noIdL id b = true → noIdL id (a ++ b) = true
  | [], _, _, h => h
  | c :: a, _, h1, h2 => by
    simp only [noIdL, Bool.and_eq_true, List.cons_append] at h1 ⊢
    exact ⟨h1.1, noIdL_append h1.2 h2⟩
theorem noIdL_flatten {id : Nat} : ∀ {xs : List (List PV)}, xs.all (noIdL id) = true → noIdL id xs.flatten = true
  | [], _ => rfl
  | e :: es, h => by
    rw [List.all_cons, Bool.and_eq_true] at h
    rw [List.flatten_cons]
    exact noIdL_append h.1 (noIdL_flatten h.2)
/-- Nothing that waits names it. -/
def frNo (id : Nat) (l : List (List (Nat × PV) × Array Value)) : Bool := l.all fun e => e.1.all fun (_, p) => p.noId id
theorem look_mem {α : Type} {k : Nat} {x : α} : ∀ {l : List (Nat × α)}, look k l = some x → (k, x) ∈ l
  | [], h => by cases h
  | (j, y) :: l, h => by
    by_cases e : k = j
    · subst e; rw [look_cons_eq] at h; injection h with h; subst h; exact List.mem_cons_self ..
    · rw [look_cons_ne e] at h; exact List.mem_cons_of_mem _ (look_mem h)
theorem frNo_del {X : XF} {w : World} {μ : LMap} {id : Nat} (h : frNo id X.fr = true) (f : FrOK X w μ) : FrOK X w (μ.del id) := fun e he t p hp => by
  obtain ⟨y, hy, r⟩ := f e he t p hp
  have h1 := List.all_eq_true.1 (List.all_eq_true.1 h e he) (t, p) (look_mem hp)
  exact ⟨y, hy, Rep.del p y h1 r⟩
/-- The first variables or slices of the list are no longer one's own. -/
theorem SimM.del {X : XF} {w0 w : World} {σ : St} {a : Act} {μ : LMap} (s : SimM X w0 σ a w μ) (id : Nat) (hfr : frNo id X.fr = true) {env : List (Nat × PV)} {lh : List (Nat × LB)}
    (he : ∀ t p, look t env = some p → ∃ y, a.tmps[t]? = some y ∧ Rep w (μ.del id) p y)
    (hb : ∀ k b, look k lh = some b → k ≠ id ∧ b.noId id = true ∧ σ.blk k = some b) (hb' : ∀ k, k ≠ id → look k lh = none → σ.blk k = none) : SimM X w0 ⟨σ.nt, env, lh⟩ a w (μ.del id) := by
  refine ⟨s.nt, s.defers, s.keep, s.F, s.hF, s.hX, frNo_del hfr s.fr, he, ?_, ?_, ?_, ?_⟩
  · intro k b hk
    obtain ⟨hne, hno, hkb⟩ := hb k b hk
    have hok := s.blk k b hkb
    cases b with
    | box cells =>
      obtain ⟨g, cs, ty, hm, hg, r, h1⟩ := hok
      exact ⟨g, cs, ty, by rw [LMap.del_ne _ hne]; exact hm, hg, RepL.del _ _ hno r, h1⟩
    | row ty sz ver xs =>
      obtain ⟨y, vs, hm, hown, r, h1, h2⟩ := hok
      exact ⟨y, vs, by rw [LMap.del_ne _ hne]; exact hm, hown, RepL.del _ _ (noIdL_flatten hno) r, h1, h2⟩
  · intro k l hk
    by_cases e : k = id
    · subst e; rw [LMap.del_eq] at hk; cases hk
    · rw [LMap.del_ne _ e] at hk
      obtain ⟨b, hkb⟩ := s.dom k l hk
      cases hl : look k lh with
      | none => rw [hb' k e hl] at hkb; cases hkb
      | some b' => exact ⟨b', hl⟩
  · intro k k' l l' g h1 h2 g1 g2
    by_cases e : k = id
    · subst e; rw [LMap.del_eq] at h1; cases h1
    · by_cases e' : k' = id
      · subst e'; rw [LMap.del_eq] at h2; cases h2
      · rw [LMap.del_ne _ e] at h1
        rw [LMap.del_ne _ e'] at h2
        exact s.apart k k' l l' g h1 h2 g1 g2
  · intro k l g hk hg
    by_cases e : k = id
    · subst e; rw [LMap.del_eq] at hk; cases hk
    · rw [LMap.del_ne _ e] at hk
      exact s.fresh k l g hk hg
/-- The slots of the new state: as they were, or what was one's own is only read from here on. -/
def frzE (σ : St) (id : Nat) (old new : PV) : List (Nat × PV) → Prop
  | [] => True
  | (t, p) :: l => ((σ.get t = some p ∧ p.noId id = true) ∨ (σ.get t = some old ∧ p = new)) ∧ frzE σ id old new l
theorem frzE_get {σ : St} {id : Nat} {old new : PV} : ∀ {l : List (Nat × PV)}, frzE σ id old new l → ∀ t p, look t l = some p → (σ.get t = some p ∧ p.noId id = true) ∨ (σ.get t = some old ∧ p = new)
  | [], _, _, _, h => by cases h
  | (j, q) :: l, hs, t, p, h => by
    by_cases e : t = j
    · subst e; rw [look_cons_eq] at h; injection h with h; subst h; exact hs.1
    · rw [look_cons_ne e] at h; exact frzE_get hs.2 t p h
def frzB (σ : St) (id : Nat) : List (Nat × LB) → Prop
  | [] => True
  | (k, b) :: l => (k ≠ id ∧ b.noId id = true ∧ σ.blk k = some b) ∧ frzB σ id l
theorem frzB_get {σ : St} {id : Nat} : ∀ {l : List (Nat × LB)}, frzB σ id l → ∀ k b, look k l = some b → k ≠ id ∧ b.noId id = true ∧ σ.blk k = some b
  | [], _, _, _, h => by cases h
  | (j, q) :: l, hs, t, p, h => by
    by_cases e : t = j
    · subst e; rw [look_cons_eq] at h; injection h with h; subst h; exact hs.1
    · rw [look_cons_ne e] at h; exact frzB_get hs.2 t p h
def keepsB (lh new : List (Nat × LB)) (id : Nat) : Bool := lh.all fun (k, _) => Nat.beq k id || new.any fun (j, _) => Nat.beq j k
theorem keepsB_spec {lh new : List (Nat × LB)} {id : Nat} (h : keepsB lh new id = true) : ∀ k, k ≠ id → look k new = none → look k lh = none := by
  have hnone : ∀ (l : List (Nat × LB)) (k : Nat), (∀ b, (k, b) ∉ l) → look k l = none := by
    intro l
    induction l with
    | nil => intro _ _; rfl
    | cons x l ih =>
      obtain ⟨j, b⟩ := x
      intro k hk
      rw [look_cons_ne (fun e => hk b (by rw [e]; exact List.mem_cons_self ..))]
      exact ih k (fun b' hb => hk b' (List.mem_cons_of_mem _ hb))
  have hsome : ∀ (l : List (Nat × LB)) (k : Nat), look k l = none → ∀ b, (k, b) ∉ l := by
    intro l
    induction l with
    | nil => intro _ _ b hb; cases hb
    | cons x l ih =>
      obtain ⟨j, b0⟩ := x
      intro k hk b hb
      by_cases e : k = j
      · subst e; rw [look_cons_eq] at hk; cases hk
      · rw [look_cons_ne e] at hk
        rcases List.mem_cons.1 hb with hb | hb
        · injection hb with hb _; exact e hb
        · exact ih k hk b hb
  intro k hne hk
  refine hnone lh k (fun b hb => ?_)
  have h1 := List.all_eq_true.1 h (k, b) hb
  simp only [Bool.or_eq_true] at h1
  rcases h1 with h1 | h1
  · exact hne (Nat.eq_of_beq_eq_true h1)
  · obtain ⟨⟨j, b'⟩, hm, he⟩ := List.any_eq_true.1 h1
    obtain rfl := Nat.eq_of_beq_eq_true he
    exact hsome new j hk b' hm
section
variable {X : XF} {w0 : World} {nt : Nat} {env env' : List (Nat × PV)} {lh lh' : List (Nat × LB)}
/-- A slice of one's own is only read from here on. -/
theorem Weak.frz {id ver rt sz : Nat} {xs : List (List PV)} (hb : look id lh = some (.row rt sz ver xs)) (hc : xs.all closedL = true) (he : frzE ⟨nt, env, lh⟩ id (.row id ver) (.sl sz xs) env') (hb1 : frzB ⟨nt, env, lh⟩ id lh') (hb2 : keepsB lh lh' id = true) (hfr : frNo id X.fr = true := by rfl) : Weak X w0 ⟨nt, env, lh⟩ ⟨nt, env', lh'⟩ := by
  refine ⟨fun a w μ s => ?_⟩
  have hcl : closedL xs.flatten = true := closedL_flatten hc
  obtain ⟨y, vs, hm, hown, r, hl, h1⟩ := s.blk id _ hb
  refine ⟨μ.del id, s.del id hfr (fun t p hp => ?_) (fun k b hk => frzB_get hb1 k b hk) (fun k hne hk => keepsB_spec hb2 k hne hk)⟩
  rcases frzE_get he t p hp with ⟨hg, hno⟩ | ⟨hg, rfl⟩
  · obtain ⟨z, hz, rz⟩ := s.env t p hg
    exact ⟨z, hz, Rep.del p z hno rz⟩
  · obtain ⟨z, hz, rz⟩ := s.env t _ hg
    refine ⟨z, hz, ?_⟩
    simp only [Rep] at rz
    obtain ⟨z', k, hz', _, _, e⟩ := rz
    rw [hm] at hz'
    injection hz' with hz'
    injection hz' with e1 e2
    subst e1 e2
    have e' := e rfl
    subst e'
    simp only [Rep]
    rcases hown.2 with ⟨hv, h0⟩ | ⟨g, cap, cur, hv, hbg, hh, hnc, hmx, _⟩
    · have : xs = [] := List.eq_nil_of_length_eq_zero h0
      subst this
      exact ⟨none, 0, hv, by simp, by simp [maxLen], by simp [RepR]⟩
    · refine ⟨some ⟨g, 0, none⟩, cap, hv, hnc, hmx, RepR.of_flat hl (RepC.of_cells ?_ (RepL.later Later.del _ _ (RepL.shuts _ _ hcl r)) h1 (fun j u hu => ?_))⟩
      · rw [LMap.shut_owns]
        rintro (hF | ⟨k, l, hk, hlb⟩)
        · have : X.F g := by have h2 : (μ.del id).F = μ.F := rfl; rw [h2, s.F] at hF; exact hF
          have := s.hF g this
          omega
        · by_cases e : k = id
          · subst e; rw [LMap.del_eq] at hk; cases hk
          · rw [LMap.del_ne _ e] at hk
            exact e (s.apart k id _ _ g hk hm hlb (by rw [hv]; rfl))
      · have := hown.cells (g := g) (by rw [hv]; rfl) j u hu
        rw [Nat.zero_add]
        exact this
/-- A variable of one's own is only read from here on. -/
theorem Weak.frzBox {id : Nat} {cells : List PV} (hb : look id lh = some (.box cells)) (hc : closedL cells = true) (he : frzE ⟨nt, env, lh⟩ id (.lp id 0) (.ptr cells) env') (hb1 : frzB ⟨nt, env, lh⟩ id lh') (hb2 : keepsB lh lh' id = true) (hfr : frNo id X.fr = true := by rfl) : Weak X w0 ⟨nt, env, lh⟩ ⟨nt, env', lh'⟩ := by
  refine ⟨fun a w μ s => ?_⟩
  obtain ⟨g, cs, ty, hm, hg, r, h1⟩ := s.blk id _ hb
  by_cases hgF : X.F g
  · exact absurd (s.hF g hgF) (fun h => by
      rcases (s.fresh id _ g hm rfl).2 with h2 | h2
      · omega
      · exact s.hX g h2 hgF)
  · refine ⟨μ.del id, s.del id hfr (fun t p hp => ?_) (fun k b hk => frzB_get hb1 k b hk) (fun k hne hk => keepsB_spec hb2 k hne hk)⟩
    rcases frzE_get he t p hp with ⟨hgt, hno⟩ | ⟨hgt, rfl⟩
    · obtain ⟨z, hz, rz⟩ := s.env t p hgt
      exact ⟨z, hz, Rep.del p z hno rz⟩
    · obtain ⟨z, hz, rz⟩ := s.env t _ hgt
      refine ⟨z, hz, ?_⟩
      simp only [Rep] at rz
      obtain ⟨g', hg', rfl⟩ := rz
      rw [hm] at hg'
      injection hg' with hg'
      injection hg' with hg'
      subst hg'
      simp only [Rep]
      refine ⟨⟨g, 0, none⟩, rfl, RepC.of_cells ?_ (RepL.later Later.del _ _ (RepL.shuts _ _ hc r)) h1 (fun j u hu => ?_)⟩
      · rw [LMap.shut_owns]
        rintro (hF | ⟨k, l, hk, hlb⟩)
        · have h2 : (μ.del id).F = μ.F := rfl
          rw [h2, s.F] at hF
          exact hgF hF
        · by_cases e : k = id
          · subst e; rw [LMap.del_eq] at hk; cases hk
          · rw [LMap.del_ne _ e] at hk
            exact e (s.apart k id _ _ g hk hm hlb rfl)
      · rw [Nat.zero_add, add_lit, Nat.zero_add, cell_of_row w g j cs ty _ hg]
        simpa using hu
/-- Some of one's own are forgotten. -/
theorem Weak.drop {id : Nat} (he : frzE ⟨nt, env, lh⟩ id .any .any env') (hb1 : frzB ⟨nt, env, lh⟩ id lh') (hb2 : keepsB lh lh' id = true) (hfr : frNo id X.fr = true := by rfl) : Weak X w0 ⟨nt, env, lh⟩ ⟨nt, env', lh'⟩ := by
  refine ⟨fun a w μ s => ?_⟩
  refine ⟨μ.del id, s.del id hfr (fun t p hp => ?_) (fun k b hk => frzB_get hb1 k b hk) (fun k hne hk => keepsB_spec hb2 k hne hk)⟩
  rcases frzE_get he t p hp with ⟨hg, hno⟩ | ⟨hg, rfl⟩
  · obtain ⟨z, hz, rz⟩ := s.env t p hg
    exact ⟨z, hz, Rep.del p z hno rz⟩
  · obtain ⟨z, hz, _⟩ := s.env t _ hg
    exact ⟨z, hz, trivial⟩
/-- Nothing, as a slice of one's own. -/
theorem Weak.nilrow {t rt sz : Nat} {id : Nat} (hz : look t env = some (.v (.slice none 0 0))) (hn : look id lh = none) : Weak X w0 ⟨nt, env, lh⟩ ⟨nt, (t, .row id 0) :: env, (id, .row rt sz 0 []) :: lh⟩ := by
  refine ⟨fun a w μ s => ?_⟩
  have s1 := s.new (Below.refl w.heap.size w) (id := id) hn (l := .row (.slice none 0 0) 0) (fun g hg => by cases hg) (bk := .row rt sz 0 []) ⟨.slice none 0 0, [], LMap.set_eq _ _ _, World.ownsRow_nil _ _ _ _, rfl, by simp, by simp⟩
  refine ⟨_, s1.nt, s1.defers, s1.keep, s1.F, s1.hF, s1.hX, s1.fr, ?_, s1.blk, s1.dom, s1.apart, s1.fresh⟩
  intro t' p hp
  have hp' : look t' ((t, .row id 0) :: env) = some p := hp
  by_cases e : t' = t
  · subst e
    rw [look_cons_eq] at hp'
    injection hp' with hp'
    subst hp'
    obtain ⟨y, hy, r⟩ := s.env t' _ hz
    simp only [Rep] at r
    subst r
    exact ⟨_, hy, by simp only [Rep]; exact ⟨_, 0, LMap.set_eq _ _ _, Nat.le_refl _, rfl, fun _ => rfl⟩⟩
  · rw [look_cons_ne e] at hp'
    exact s1.env t' p hp'
theorem Weak.sub {env' : List (Nat × PV)} (h : subEnv ⟨nt, env, lh⟩ env') : Weak X w0 ⟨nt, env, lh⟩ ⟨nt, env', lh⟩ := Weak.env h
/-- The second state says what the first one says, or less. -/
def subB (σ : St) : List (Nat × LB) → Prop
  | [] => True
  | (k, b) :: l => σ.blk k = some b ∧ subB σ l
theorem subB_get {σ : St} : ∀ {l : List (Nat × LB)}, subB σ l → ∀ k b, look k l = some b → σ.blk k = some b
  | [], _, _, _, h => by cases h
  | (j, q) :: l, hs, t, p, h => by
    by_cases e : t = j
    · subst e; rw [look_cons_eq] at h; injection h with h; subst h; exact hs.1
    · rw [look_cons_ne e] at h; exact subB_get hs.2 t p h
def sameIds (lh new : List (Nat × LB)) : Bool := lh.all fun (k, _) => new.any fun (j, _) => Nat.beq j k
theorem Weak.to (he : subEnv ⟨nt, env, lh⟩ env') (hb : subB ⟨nt, env, lh⟩ lh') (hs : sameIds lh lh' = true) : Weak X w0 ⟨nt, env, lh⟩ ⟨nt, env', lh'⟩ := by
  refine ⟨fun a w μ s => ⟨μ, s.less rfl (fun t p hp => subEnv_get he t p hp) (fun id => ?_)⟩⟩
  show look id lh' = look id lh
  cases h : look id lh' with
  | some b => exact (subB_get hb id b h).symm
  | none =>
    have hk : keepsB lh lh' (lh.foldl (fun m x => max m x.1) 0 + lh'.foldl (fun m x => max m x.1) 0 + id + 1) = true := by
      unfold keepsB
      unfold sameIds at hs
      rw [List.all_eq_true] at hs ⊢
      intro x hx
      have := hs x hx
      obtain ⟨k, b⟩ := x
      simp only at this ⊢
      rw [this, Bool.or_true]
    exact (keepsB_spec hk id (by omega) h).symm
end

theorem Spec.sub {P : Program} {f : FuncId} {args args' : List PV} {r r' : PV} (h : Spec P f args r) (ha : SubL args' args) (hr : Sub r r') (hn : r.noOwn = true) : Spec P f args' r' :=
  ⟨h.enters, fun F w vs hF hv => (h.run F w vs hF (SubL.rep ha hv)).mono fun e w' ⟨y, he, hb, hy⟩ => ⟨y, he, hb, by
    have h1 := Sub.rep hr (hy.plain hn)
    cases r' <;> first | exact h1 | (simp only [Rep] at h1)⟩⟩
theorem Spec.subA {P : Program} {f : FuncId} {args args' : List PV} {r : PV} (h : Spec P f args r) (ha : SubL args' args) : Spec P f args' r :=
  ⟨h.enters, fun F w vs hF hv => h.run F w vs hF (SubL.rep ha hv)⟩
theorem SubL.refl : ∀ l : List PV, SubL l l
  | [] => .nil
  | c :: cs => .cons (.refl c) (SubL.refl cs)
end Go.Proofs.Ytlicjlahnbebcaa
