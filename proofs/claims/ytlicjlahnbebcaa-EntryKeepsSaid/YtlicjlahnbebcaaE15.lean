/- More operations: structs of ints held against each other, a slice held against nil, a slice of one's own out of a literal. -/
import Derived.Test.YtlicjlahnbebcaaE14
import Derived.Laws.StructEq
namespace Go.Proofs.Ytlicjlahnbebcaa
open Go.RowKit
section
variable {P : Program}
/-- The fields are ints, one behind the other. -/
def fldsInt (P : Program) : Nat → List Field → Bool
  | _, [] => true
  | i, f :: fs => (f.name != "_") && Nat.beq f.offset i && decide (tyB P f.type = some (false, 1)) && (match P.underlying f.type with | some (.int .i64) => true | _ => false) && fldsInt P (i + 1) fs
class EqT (P : Program) (t : TypeId) (n : outParam Nat) : Prop where
  und : P.underlying t = some (.struct (P.fieldsOf t))
  flds : fldsInt P 0 (P.fieldsOf t).toList = true
  len : (P.fieldsOf t).toList.length = n
  held : P.stoodInHeld t = false
  grd : P.eqGuardType P.depth t = false
theorem run_part1 {t : TypeId} (ht : tyB P t = some (false, 1)) {xs : Array Value} {i : Nat} {v : Value} (h : xs[i]? = some v) (w : World) : (part t xs i).run P w = .ok v w := by
  simp [part, run_isAgg ht, h]
theorem run_eqFields (d : Nat) (w : World) (xs ys : Array Value) : ∀ (fs : List Field) (i : Nat) (za bs : List Int), fldsInt P i fs = true → za.length = fs.length → bs.length = fs.length →
    (∀ (j : Nat) (z : Int), za[j]? = some z → xs[i + j]? = some (Value.int .i64 z)) → (∀ (j : Nat) (z : Int), bs[j]? = some z → ys[i + j]? = some (Value.int .i64 z)) → (Op.eqFields (d + 1) xs ys fs).run P w = .ok (decide (za = bs)) w
  | [], i, za, bs, _, ha, hb, _, _ => by
    have e1 := List.eq_nil_of_length_eq_zero ha
    have e2 := List.eq_nil_of_length_eq_zero hb
    subst e1 e2
    rfl
  | f :: fs, i, a :: za, b :: bs, hf, ha, hb, hx, hy => by
    simp only [fldsInt, Bool.and_eq_true, bne_iff_ne] at hf
    obtain ⟨⟨⟨⟨h1, h2⟩, h3⟩, h4⟩, h5⟩ := hf
    have e := Nat.eq_of_beq_eq_true h2
    have h3 := of_decide_eq_true h3
    have hu : P.underlying f.type = some (.int .i64) := by
      split at h4
      · assumption
      · cases h4
    have hxa := hx 0 a rfl
    have hyb := hy 0 b rfl
    rw [Nat.add_zero] at hxa hyb
    rw [e.symm] at hxa hyb
    have ih := run_eqFields d w xs ys fs (i + 1) za bs h5 (by simpa using ha) (by simpa using hb) (fun j z hj => by
      have := hx (j + 1) z (by simpa using hj)
      rwa [show i + (j + 1) = i + 1 + j from by omega] at this) (fun j z hj => by
      have := hy (j + 1) z (by simpa using hj)
      rwa [show i + (j + 1) = i + 1 + j from by omega] at this)
    simp only [Op.eqFields, if_pos h1, Sem.run_bind, run_part1 h3 hxa, run_part1 h3 hyb, Result.andThen_ok, run_equalIn_int w d f.type .i64 .i64 a b hu]
    by_cases hab : a = b
    · subst hab
      simp [ih]
    · have : (a == b) = false := by simpa using hab
      rw [this]
      have : decide (a :: za = b :: bs) = false := by simp [hab]
      rw [this]
      rfl
  | _ :: _, _, [], _, _, ha, _, _, _ => by simp at ha
  | _ :: _, _, _ :: _, [], _, _, hb, _, _ => by simp at hb
end
section
variable {P : Program} {σ : St} {dst : Option Tmp} {ty : TypeId} {pos : String} {after : Array Edge} {guard : Option (Nat × Bool)}
abbrev pvI (x : Int) : PV := .v (.int .i64 x)
theorem rep_ints {w : World} {μ : LMap} : ∀ {za : List Int} {vs : List Value}, RepL w μ (za.map pvI) vs → ∀ (j : Nat) (z : Int), za[j]? = some z → vs[j]? = some (Value.int .i64 z)
  | [], _, _, _, _, h => by simp at h
  | a :: za, vs, r, j, z, h => by
    simp only [List.map_cons, RepL] at r
    obtain ⟨u, us, rfl, r1, r2⟩ := r
    simp only [Rep] at r1
    subst r1
    cases j with
    | zero => simp at h; subst h; rfl
    | succ j => exact rep_ints r2 j z (by simpa using h)
/-- Two structs of ints. -/
theorem ok_eqs {neg : Bool} {t yt : TypeId} {x y : Operand} {n : Nat} {za bs : List Int} (h : EqT P t n) (hx : σ.ev x = some (.agg (za.map pvI))) (hy : σ.ev y = some (.agg (bs.map pvI))) (ha : za.length = n) (hb : bs.length = n) (hd : inB σ dst = true) :
    OpOK P ⟨dst, .binOp (bif neg then .neq else .eql) t x y yt, ty, pos, after, guard⟩ σ (.v (.bool (bif neg then !tst (za = bs) else tst (za = bs)))) [] :=
  OpOK.val hd fun X w0 σ' a w μ hag s => by
    have h1 := eval_tmp s (hag.ev x (by cases neg <;> simp [Op.operands]) _ hx)
    have h2 := eval_tmp s (hag.ev y (by cases neg <;> simp [Op.operands]) _ hy)
    simp only [Rep] at h1 h2
    obtain ⟨vs, e1, r1, _⟩ := h1
    obtain ⟨us, e2, r2, _⟩ := h2
    have he := run_eqFields (P := P) 9998 w vs.toArray us.toArray (P.fieldsOf t).toList 0 za bs h.flds (ha.trans h.len.symm) (hb.trans h.len.symm) (fun j z hj => by simpa using rep_ints r1 j z hj) (fun j z hj => by simpa using rep_ints r2 j z hj)
    have hq := run_equalIn_struct (P := P) w 9999 t vs.toArray us.toArray h.und h.held
    rw [he] at hq
    refine ⟨_, ?_, rfl⟩
    rw [tst_eq]
    cases neg with
    | true =>
      simp only [cond_true, execOp, e1, e2, Sem.run_bind, run_eqGuard_agg w _ _ _ _ _ _ h.grd, Result.andThen_ok, run_neq_struct, hq]
      rfl
    | false =>
      simp only [cond_false, execOp, e1, e2, Sem.run_bind, run_eqGuard_agg w _ _ _ _ _ _ h.grd, Result.andThen_ok, run_eql_struct, hq]
      rfl
/-- A literal of no elements is a slice of one's own. -/
theorem ok_nilrow {d t e sz bytes : Nat} {z : Value} {parts : Array (Nat × Operand)} [h : SliceT P t e sz] [hz : ElemT P e z sz bytes] (hp : parts.toList = []) (hk : (Nat.beq z.cells.size sz && !Nat.beq sz 0 && z.cells.toList.all Value.oneCell') = true) (hd : inB σ (some d) = true) :
    OpOK P ⟨some d, .buildSlice t 0 parts, ty, pos, after, guard⟩ σ (.row d 0) [(d, .row e sz 0 [])] := by
  have := ok_litrow (P := P) (σ := σ) (d := d) (ty := ty) (pos := pos) (after := after) (guard := guard) (t := t) (n := 0) (parts := parts.toList) (ps := []) (cs := []) (by rw [hp]; rfl) rfl (by
    rw [Bool.and_eq_true, Bool.and_eq_true] at hk ⊢
    rw [Bool.and_eq_true]
    exact ⟨⟨⟨by rw [Nat.zero_mul]; rfl, hk.1.1⟩, hk.1.2⟩, hk.2⟩) hd
  rw [Array.toArray_toList] at this
  exact this
/-- A slice held against nil: if it is so, it has no elements. -/
theorem RW.nilcmp {X : XF} {w0 : World} {nt d : Nat} {env : List (Nat × PV)} {lh : List (Nat × LB)} {ops : Array Oper} {l : List Oper} {K : St → Prop} {neg : Bool} {t e yt sz sz' : Nat} {x : Operand} {xs : List (List PV)} (ht : sliceB P t = some (e, sz)) (hz : sz' ≠ 0) (hx : (⟨nt, env, lh⟩ : St).ev x = some (.sl sz' xs)) (hd : Nat.blt d nt = true)
    (h : ∀ b : Bool, (b = true → xs = []) → RW P X w0 ops l ⟨nt, (d, .v (.bool (bif neg then !b else b))) :: env, lh⟩ K) : RW P X w0 ops (⟨some d, .binOp (bif neg then .neq else .eql) t x (.const (.slice none 0 0)) yt, ty, pos, after, none⟩ :: l) ⟨nt, env, lh⟩ K :=
  ⟨fun Q hQ a w μ s => wpList_plain rfl fun K' hK => by
    obtain ⟨inf, hu, _, _⟩ := slice_parts ht
    have h1 := eval_tmp s hx
    simp only [Rep] at h1
    obtain ⟨A, c, e1, _, _, r⟩ := h1
    have hn : A.isNone = true → xs = [] := by
      cases A with
      | none => exact fun _ => RepR.none_nil hz r
      | some a => exact fun h => by cases h
    unfold Oper.wp
    have hrun : (execOp a.eval ⟨some d, .binOp (bif neg then .neq else .eql) t x (.const (.slice none 0 0)) yt, ty, pos, after, none⟩).run P w = .ok (.value (.bool (bif neg then !A.isNone else A.isNone))) w := by
      have hcv : a.eval (.const (.slice none 0 0)) = .slice none 0 0 := rfl
      cases neg with
      | true => simp [execOp, e1, hcv, eqGuard, binOp, Op.equal, Op.maxDepth, Lib.run_equalIn_slice_nil w 9999 t e A xs.length c 0 0 hu]
      | false => simp [execOp, e1, hcv, eqGuard, binOp, Op.equal, Op.maxDepth, Lib.run_equalIn_slice_nil w 9999 t e A xs.length c 0 0 hu]
    rw [hrun]
    exact hK _ _ ((h A.isNone hn).run Q hQ _ w μ (s.put (d := some d) (p := .v (.bool (bif neg then !A.isNone else A.isNone))) hd rfl))⟩
end
end Go.Proofs.Ytlicjlahnbebcaa
