/- What each operation yields, as values read: values, numbers, structs, addresses, slices. -/
import Derived.Test.YtlicjlahnbebcaaE3
namespace Go.Proofs.Ytlicjlahnbebcaa
open Go.RowKit

/-! ### Types -/
def tyB (P : Program) (t : TypeId) : Option (Bool × Nat) := (P.underlying t).bind fun d => (P.info? t).map fun i => (match d with | .struct _ | .array _ _ => true | _ => false, i.size)
class TySz (P : Program) (t : TypeId) (ag : outParam Bool) (n : outParam Nat) : Prop where
  h : tyB P t = some (ag, n)
class StrT (P : Program) (t : TypeId) : Prop where
  h : P.underlying t = some .string
class BoolT (P : Program) (t : TypeId) : Prop where
  h : P.underlying t = some .bool
def fldB (P : Program) (s f : Nat) : Option (Nat × Nat × Bool) := match P.underlying s with
  | some (.struct fs) => (fs[f]?).bind fun fl => (tyB P fl.type).map fun x => (fl.offset, x.2, x.1)
  | _ => none
class FieldT (P : Program) (s : TypeId) (f : Nat) (off n : outParam Nat) (ag : outParam Bool) : Prop where
  h : fldB P s f = some (off, n, ag)
def sliceB (P : Program) (t : TypeId) : Option (TypeId × Nat) := match P.underlying t with
  | some (.slice e) => (P.info? e).map fun i => (e, i.size)
  | _ => none
class SliceT (P : Program) (t : TypeId) (e : outParam TypeId) (sz : outParam Nat) : Prop where
  h : sliceB P t = some (e, sz)
def arrB (P : Program) (t : TypeId) : Option (Nat × TypeId × Nat) := match P.underlying t with
  | some (.array n e) => (P.info? e).map fun i => (n, e, i.size)
  | _ => none
class ArrT (P : Program) (t : TypeId) (len : outParam Nat) (e : outParam TypeId) (sz : outParam Nat) : Prop where
  h : arrB P t = some (len, e, sz)
def zeroB (P : Program) (t : TypeId) : Option (List Value) := (P.info? t).bind fun i => i.zero.map fun z => z.cells.toList
class ZeroT (P : Program) (t : TypeId) (zs : outParam (List Value)) : Prop where
  h : zeroB P t = some zs
def structB (P : Program) (t : TypeId) : Option (List (Nat × Nat)) := match P.underlying t with
  | some (.struct fs) => fs.toList.mapM fun f => (P.info? f.type).map fun i => (f.offset, i.size)
  | _ => none
class StructT (P : Program) (t : TypeId) (pl : outParam (List (Nat × Nat))) : Prop where
  h : structB P t = some pl
class ElemT (P : Program) (e : TypeId) (z : outParam Value) (sz bytes : outParam Nat) : Prop where
  h : (P.info? e).map (fun i => (i.zero, i.size, i.bytes)) = some (some z, sz, bytes)

section
variable {P : Program} {X : XF} {w0 w : World} {σ : St} {a : Act} {μ : LMap}
theorem run_isAgg {t : TypeId} {ag : Bool} {n : Nat} (h : tyB P t = some (ag, n)) (w : World) : (isAgg t).run P w = .ok ag w := by
  unfold tyB at h
  obtain ⟨d, hd, h1⟩ := Option.bind_eq_some_iff.1 h
  obtain ⟨i, hi, h2⟩ := Option.map_eq_some_iff.1 h1
  injection h2 with h2 h3
  unfold isAgg
  rw [Sem.run_bind, run_underlying hd w]
  cases d <;> simp_all
theorem run_size {t : TypeId} {ag : Bool} {n : Nat} (h : tyB P t = some (ag, n)) (w : World) : (sizeOf t).run P w = .ok n w := by
  unfold tyB at h
  obtain ⟨d, hd, h1⟩ := Option.bind_eq_some_iff.1 h
  obtain ⟨i, hi, h2⟩ := Option.map_eq_some_iff.1 h1
  injection h2 with h2 h3
  simp [sizeOf, typeInfo, hi, h3]
theorem OpOK.val {o : Oper} {p : PV} (hd : inB σ o.dst = true)
    (h : ∀ (X : XF) (w0 : World) (σ' : St) (a : Act) (w : World) (μ : LMap), Agree o σ σ' → SimM X w0 σ' a w μ → ∃ y, (execOp a.eval o).run P w = .ok (.value y) w ∧ Rep w μ p y) : OpOK P o σ p [] := by
  refine ⟨fun σ' hag _ => ⟨fun X w0 a w μ K Q s hK => ?_⟩⟩
  obtain ⟨y, hr, hrep⟩ := h X w0 σ' a w μ hag s
  unfold Oper.wp
  rw [hr]
  have hd' : inB σ' o.dst = true := by
    cases ho : o.dst with
    | none => rfl
    | some d => rw [ho] at hd; simp only [inB] at hd ⊢; rw [hag.nt]; exact hd
  exact hK _ _ μ (s.put hd' hrep)
end

section
variable {P : Program} {σ : St} {dst : Option Tmp} {ty : TypeId} {pos : String} {after : Array Edge} {guard : Option (Nat × Bool)}
theorem ok_move {x : Operand} {p : PV} (hx : σ.ev x = some p := by rfl) (hd : inB σ dst = true := by rfl) : OpOK P ⟨dst, .move x, ty, pos, after, guard⟩ σ p [] :=
  OpOK.val hd fun X w0 σ' a w μ hag s => ⟨a.eval x, by simp [execOp], eval_tmp s (hag.ev x (by simp [Op.operands]) p hx)⟩
theorem ok_assign {x : Operand} {p : PV} (hx : σ.ev x = some p := by rfl) (hd : inB σ dst = true := by rfl) : OpOK P ⟨dst, .assign x, ty, pos, after, guard⟩ σ p [] :=
  OpOK.val hd fun X w0 σ' a w μ hag s => ⟨a.eval x, by simp [execOp], eval_tmp s (hag.ev x (by simp [Op.operands]) p hx)⟩
theorem ok_pick_t {c x y : Operand} {p : PV} (hc : σ.ev c = some (.v (.bool true)) := by rfl) (hx : σ.ev x = some p := by rfl) (hd : inB σ dst = true := by rfl) : OpOK P ⟨dst, .pick c x y, ty, pos, after, guard⟩ σ p [] :=
  OpOK.val hd fun X w0 σ' a w μ hag s => ⟨a.eval x, by
    have := eval_v s (hag.ev c (by simp [Op.operands]) _ hc)
    simp [execOp, this, asBool], eval_tmp s (hag.ev x (by simp [Op.operands]) p hx)⟩
theorem ok_pick_f {c x y : Operand} {p : PV} (hc : σ.ev c = some (.v (.bool false)) := by rfl) (hx : σ.ev y = some p := by rfl) (hd : inB σ dst = true := by rfl) : OpOK P ⟨dst, .pick c x y, ty, pos, after, guard⟩ σ p [] :=
  OpOK.val hd fun X w0 σ' a w μ hag s => ⟨a.eval y, by
    have := eval_v s (hag.ev c (by simp [Op.operands]) _ hc)
    simp [execOp, this, asBool], eval_tmp s (hag.ev y (by simp [Op.operands]) p hx)⟩
theorem ok_bin {op : BinOp} {t yt : TypeId} {x y : Operand} {vx vy r : Value} (hx : σ.ev x = some (.v vx)) (hy : σ.ev y = some (.v vy)) (hr : ∀ w, (do eqGuard op t x y vx vy; binOp op t vx vy : Sem Value).run P w = .ok r w) (hd : inB σ dst = true) :
    OpOK P ⟨dst, .binOp op t x y yt, ty, pos, after, guard⟩ σ (.v r) [] :=
  OpOK.val hd fun X w0 σ' a w μ hag s => ⟨r, by
    have h1 := eval_v s (hag.ev x (by simp [Op.operands]) _ hx)
    have h2 := eval_v s (hag.ev y (by simp [Op.operands]) _ hy)
    have := hr w
    simp only [execOp, h1, h2, Sem.run_bind] at this ⊢
    rw [this]
    rfl, rfl⟩
/-- An operation on plain values. -/
theorem ok_un {op : UnOp} {t : TypeId} {x : Operand} {vx r : Value} (hx : σ.ev x = some (.v vx)) (hr : ∀ w, (Op.unary op vx).run P w = .ok r w) (hd : inB σ dst = true) : OpOK P ⟨dst, .unOp op t x, ty, pos, after, guard⟩ σ (.v r) [] :=
  OpOK.val hd fun X w0 σ' a w μ hag s => ⟨r, by
    have h1 := eval_v s (hag.ev x (by simp [Op.operands]) _ hx)
    simp [execOp, h1, hr w], rfl⟩
theorem ok_convert {src tgt : TypeId} {x : Operand} {vx r : Value} (hx : σ.ev x = some (.v vx)) (hr : ∀ w, (convert src tgt vx).run P w = .ok r w) (hd : inB σ dst = true) : OpOK P ⟨dst, .convert src tgt x, ty, pos, after, guard⟩ σ (.v r) [] :=
  OpOK.val hd fun X w0 σ' a w μ hag s => ⟨r, by
    have h1 := eval_v s (hag.ev x (by simp [Op.operands]) _ hx)
    simp [execOp, h1, hr w], rfl⟩
theorem ok_extract {x : Operand} {i : Nat} {cs : List PV} {p : PV} (hx : σ.ev x = some (.tup cs) := by rfl) (hi : cs[i]? = some p := by rfl) (hd : inB σ dst = true := by rfl) : OpOK P ⟨dst, .extract x i, ty, pos, after, guard⟩ σ p [] :=
  OpOK.val hd fun X w0 σ' a w μ hag s => by
    have h1 := eval_tmp s (hag.ev x (by simp [Op.operands]) _ hx)
    simp only [Rep] at h1
    obtain ⟨vs, e, r⟩ := h1
    obtain ⟨y, hy, r'⟩ := r.get i p hi
    exact ⟨y, by simp [execOp, e, Instr.extract, hy], r'⟩
theorem ok_nilCheck_lp {x : Operand} {id k : Nat} (hx : σ.ev x = some (.lp id k) := by rfl) (hd : inB σ dst = true := by rfl) : OpOK P ⟨dst, .nilCheck x, ty, pos, after, guard⟩ σ (.lp id k) [] :=
  OpOK.val hd fun X w0 σ' a w μ hag s => by
    have h1 := eval_tmp s (hag.ev x (by simp [Op.operands]) _ hx)
    have h2 := h1
    simp only [Rep] at h1
    obtain ⟨g, hg, e⟩ := h1
    exact ⟨a.eval x, by simp [execOp, e], h2⟩
theorem ok_nilCheck_ptr {x : Operand} {cs : List PV} (hx : σ.ev x = some (.ptr cs) := by rfl) (hd : inB σ dst = true := by rfl) : OpOK P ⟨dst, .nilCheck x, ty, pos, after, guard⟩ σ (.ptr cs) [] :=
  OpOK.val hd fun X w0 σ' a w μ hag s => by
    have h1 := eval_tmp s (hag.ev x (by simp [Op.operands]) _ hx)
    have h2 := h1
    simp only [Rep] at h1
    obtain ⟨g, e, _⟩ := h1
    exact ⟨a.eval x, by simp [execOp, e], h2⟩
theorem ok_nilCheck_fn {x : Operand} {f : FuncId} {l r : List PV} (hx : σ.ev x = some (.fn (.func f) l r) := by rfl) (hd : inB σ dst = true := by rfl) : OpOK P ⟨dst, .nilCheck x, ty, pos, after, guard⟩ σ (.fn (.func f) l r) [] :=
  OpOK.val hd fun X w0 σ' a w μ hag s => by
    have h1 := eval_tmp s (hag.ev x (by simp [Op.operands]) _ hx)
    have h2 := h1
    simp only [Rep] at h1
    obtain ⟨vs, us, e, _⟩ := h1
    exact ⟨a.eval x, by simp [execOp, e], h2⟩
/-- The field of a struct's value. -/
theorem fld_parts {s f off n : Nat} {ag : Bool} (h : fldB P s f = some (off, n, ag)) : ∃ fs fl, P.underlying s = some (.struct fs) ∧ fs[f]? = some fl ∧ fl.offset = off ∧ tyB P fl.type = some (ag, n) := by
  unfold fldB at h
  split at h
  · rename_i fs hu
    obtain ⟨fl, hf, h1⟩ := Option.bind_eq_some_iff.1 h
    obtain ⟨x, hx, h2⟩ := Option.map_eq_some_iff.1 h1
    injection h2 with h2 h3
    injection h3 with h3 h4
    exact ⟨fs, fl, hu, hf, h2, by rw [hx]; obtain ⟨x1, x2⟩ := x; simp only at h3 h4; rw [h3, h4]⟩
  · cases h
theorem ok_field1 {s : TypeId} {x : Operand} {f off : Nat} {cs : List PV} {p : PV} [h : FieldT P s f off 1 false] (hx : σ.ev x = some (.agg cs) := by rfl) (hp : cs[off]? = some p := by rfl) (hd : inB σ dst = true := by rfl) : OpOK P ⟨dst, .field s x f, ty, pos, after, guard⟩ σ p [] :=
  OpOK.val hd fun X w0 σ' a w μ hag sm => by
    obtain ⟨fs, fl, hu, hf, ho, ht⟩ := fld_parts h.h
    have h1 := eval_tmp sm (hag.ev x (by simp [Op.operands]) _ hx)
    simp only [Rep] at h1
    obtain ⟨vs, e, r, _⟩ := h1
    obtain ⟨y, hy, r'⟩ := r.get off p hp
    exact ⟨y, by simp [execOp, e, Instr.field, run_underlying hu, hf, asAgg, part, run_isAgg ht, ho, hy], r'⟩
theorem ok_fieldN {s : TypeId} {x : Operand} {f off n : Nat} {cs : List PV} [h : FieldT P s f off n true] (hx : σ.ev x = some (.agg cs) := by rfl) (hd : inB σ dst = true := by rfl) : OpOK P ⟨dst, .field s x f, ty, pos, after, guard⟩ σ (.agg ((cs.drop off).take n)) [] :=
  OpOK.val hd fun X w0 σ' a w μ hag sm => by
    obtain ⟨fs, fl, hu, hf, ho, ht⟩ := fld_parts h.h
    have h1 := eval_tmp sm (hag.ev x (by simp [Op.operands]) _ hx)
    simp only [Rep] at h1
    obtain ⟨vs, e, r, h1⟩ := h1
    refine ⟨.agg ((vs.drop off).take n).toArray, ?_, _, rfl, (r.drop off).take n, fun u hu => h1 u (List.mem_of_mem_drop (List.mem_of_mem_take hu))⟩
    simp only [execOp, e, Instr.field, Sem.run_bind, run_underlying hu, hf, asAgg, part, run_isAgg ht, run_size ht, ho, Result.andThen_ok, Sem.run_pure, if_true]
    congr 4
    apply Array.ext'
    simp [List.drop_take]
/-- An address moved to a field. -/
theorem run_fieldPlace {fl : Field} {ag : Bool} {n : Nat} (ht : tyB P fl.type = some (ag, n)) (hn : n ≠ 0) (ad : Addr) (w : World) : (fieldPlace ad fl).run P w = .ok (ad.add fl.offset) w := by
  simp [fieldPlace, run_size ht, hn]
theorem ok_fieldAddr_lp {s : TypeId} {x : Operand} {f off n id k : Nat} {ag : Bool} [h : FieldT P s f off n ag] (hx : σ.ev x = some (.lp id k) := by rfl) (hn : n ≠ 0 := by decide) (hd : inB σ dst = true := by rfl) : OpOK P ⟨dst, .fieldAddr s x f, ty, pos, after, guard⟩ σ (.lp id (k + off)) [] :=
  OpOK.val hd fun X w0 σ' a w μ hag sm => by
    obtain ⟨fs, fl, hu, hf, ho, ht⟩ := fld_parts h.h
    have h1 := eval_tmp sm (hag.ev x (by simp [Op.operands]) _ hx)
    simp only [Rep] at h1
    obtain ⟨g, hg, e⟩ := h1
    refine ⟨.pointer (some ⟨g, k + off, none⟩), ?_, g, hg, rfl⟩
    have : (⟨g, k, none⟩ : Addr).add fl.offset = ⟨g, k + off, none⟩ := by rw [ho]; unfold Addr.add; split <;> simp_all
    simp [execOp, e, Instr.fieldAt, run_underlying hu, hf, Instr.sureAddr, run_fieldPlace ht hn, this]
theorem ok_fieldAddr_ptr {s : TypeId} {x : Operand} {f off n : Nat} {ag : Bool} {cs : List PV} [h : FieldT P s f off n ag] (hx : σ.ev x = some (.ptr cs) := by rfl) (hn : n ≠ 0 := by decide) (hd : inB σ dst = true := by rfl) : OpOK P ⟨dst, .fieldAddr s x f, ty, pos, after, guard⟩ σ (.ptr (cs.drop off)) [] :=
  OpOK.val hd fun X w0 σ' a w μ hag sm => by
    obtain ⟨fs, fl, hu, hf, ho, ht⟩ := fld_parts h.h
    have h1 := eval_tmp sm (hag.ev x (by simp [Op.operands]) _ hx)
    simp only [Rep] at h1
    obtain ⟨g, e, r⟩ := h1
    refine ⟨.pointer (some (g.add off)), ?_, g.add off, rfl, RepC.shift off (by simpa using r.drop off)⟩
    simp [execOp, e, Instr.fieldAt, run_underlying hu, hf, Instr.sureAddr, run_fieldPlace ht hn, ho]
theorem ok_fieldAddr_rp {s : TypeId} {x : Operand} {f off n id ver sz i j : Nat} {ag : Bool} [h : FieldT P s f off n ag] (hx : σ.ev x = some (.rp id ver sz i j)) (hn : n ≠ 0) (hb : ∃ ty xs, σ.blk id = some (.row ty sz ver xs)) (hd : inB σ dst = true) : OpOK P ⟨dst, .fieldAddr s x f, ty, pos, after, guard⟩ σ (.rp id ver sz i (j + off)) [] :=
  OpOK.val hd fun X w0 σ' a w μ hag sm => by
    obtain ⟨fs, fl, hu, hf, ho, ht⟩ := fld_parts h.h
    have h1 := eval_tmp sm (hag.ev x (by simp [Op.operands]) _ hx)
    obtain ⟨ty', xs, hb⟩ := hb
    obtain ⟨y', vs', hm', _⟩ := sm.blk id _ (hag.blk x (by simp [Op.operands]) _ id _ hx rfl hb)
    simp only [Rep] at h1
    obtain ⟨z, k, hz, hv, _, e⟩ := h1
    rw [hz] at hm'
    injection hm' with hm'
    injection hm' with e1 e2
    subst e1 e2
    obtain ⟨g, n', c, hzz, e⟩ := e rfl
    have : (⟨g, i * sz + j, none⟩ : Addr).add fl.offset = ⟨g, i * sz + (j + off), none⟩ := by rw [ho]; unfold Addr.add; split <;> simp_all; omega
    exact ⟨.pointer (some ⟨g, i * sz + (j + off), none⟩), by simp [execOp, e, Instr.fieldAt, run_underlying hu, hf, Instr.sureAddr, run_fieldPlace ht hn, this], z, _, hz, Nat.le_refl _, rfl, fun _ => ⟨g, n', c, hzz, rfl⟩⟩
end
end Go.Proofs.Ytlicjlahnbebcaa
