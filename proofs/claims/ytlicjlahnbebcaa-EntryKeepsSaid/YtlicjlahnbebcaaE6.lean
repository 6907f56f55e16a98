/- What each operation yields, as values read: places, parts, lengths, what is built and stored. -/
import Derived.Test.YtlicjlahnbebcaaE5
namespace Go.Proofs.Ytlicjlahnbebcaa
open Go.RowKit

section
variable {P : Program} {σ : St} {dst : Option Tmp} {ty : TypeId} {pos : String} {after : Array Edge} {guard : Option (Nat × Bool)}
theorem slice_parts {t e sz : Nat} (h : sliceB P t = some (e, sz)) : ∃ i, P.underlying t = some (.slice e) ∧ P.info? e = some i ∧ i.size = sz := by
  unfold sliceB at h
  split at h
  · rename_i e' hu
    obtain ⟨i, hi, h1⟩ := Option.map_eq_some_iff.1 h
    injection h1 with h1 h2
    subst h1
    exact ⟨i, hu, hi, h2⟩
  · cases h
theorem arr_parts {t n e sz : Nat} (h : arrB P t = some (n, e, sz)) : ∃ i, P.underlying t = some (.array n e) ∧ P.info? e = some i ∧ i.size = sz := by
  unfold arrB at h
  split at h
  · rename_i n' e' hu
    obtain ⟨i, hi, h1⟩ := Option.map_eq_some_iff.1 h
    injection h1 with h1 h2
    injection h2 with h2 h3
    subst h1 h2
    exact ⟨i, hu, hi, h3⟩
  · cases h
theorem ok_indexAddr_sl {t e sz : Nat} {x ix : Operand} {xs : List (List PV)} {c : List PV} {k : IntKind} {i : Int} [h : SliceT P t e sz] (hx : σ.ev x = some (.sl sz xs)) (hi : σ.ev ix = some (.v (.int k i))) (h0 : 0 ≤ i) (hc : xs[i.toNat]? = some c) (hz : sz ≠ 0) (hd : inB σ dst = true) :
    OpOK P ⟨dst, .indexAddr t x ix, ty, pos, after, guard⟩ σ (.ptr c) [] :=
  OpOK.val hd fun X w0 σ' a w μ hag s => by
    obtain ⟨inf, hu, hf, hs⟩ := slice_parts h.h
    have h1 := eval_tmp s (hag.ev x (by simp [Op.operands]) _ hx)
    have h2 := eval_v s (hag.ev ix (by simp [Op.operands]) _ hi)
    simp only [Rep] at h1
    obtain ⟨A, cap, e1, _, _, r⟩ := h1
    obtain ⟨hl, rc⟩ := r.get i.toNat c hc
    have hil : i.toNat < xs.length := (List.getElem?_eq_some_iff.1 hc).1
    cases hcc : c with
    | nil => rw [hcc] at hl; simp at hl; omega
    | cons c0 cs0 =>
      have rc' := rc
      rw [hcc] at rc'
      simp only [RepC] at rc'
      obtain ⟨⟨ad, u, hA, _⟩, _⟩ := rc'
      subst hA
      rw [Nat.zero_add] at rc
      rw [← hcc]
      refine ⟨.pointer (some (ad.add (i.toNat * sz))), ?_, ad.add (i.toNat * sz), rfl, RepC.shift _ (by simpa using rc)⟩
      have hii : i < (xs.length : Int) := by omega
      simp [execOp, e1, h2, Instr.indexAt, asIntOf, run_underlying hu, h0, hii, sizeOf, typeInfo, hf, hs]
theorem ok_indexAddr_row {t e sz : Nat} {rt : TypeId} {x ix : Operand} {xs : List (List PV)} {id ver : Nat} {k : IntKind} {i : Int} [h : SliceT P t e sz] (hx : σ.ev x = some (.row id ver)) (hb : σ.blk id = some (.row rt sz ver xs)) (hi : σ.ev ix = some (.v (.int k i))) (h0 : 0 ≤ i) (hl : i.toNat < xs.length) (hd : inB σ dst = true) :
    OpOK P ⟨dst, .indexAddr t x ix, ty, pos, after, guard⟩ σ (.rp id ver sz i.toNat 0) [] :=
  OpOK.val hd fun X w0 σ' a w μ hag s => by
    obtain ⟨inf, hu, hf, hs⟩ := slice_parts h.h
    have h1 := eval_tmp s (hag.ev x (by simp [Op.operands]) _ hx)
    have h2 := eval_v s (hag.ev ix (by simp [Op.operands]) _ hi)
    obtain ⟨vs, hm, hown, _⟩ := (row_parts s (hag.blk x (by simp [Op.operands]) _ id _ hx rfl hb) (p := .row id ver) (y := a.eval x)).1 rfl h1
    obtain ⟨g, cap, hv, _, _⟩ := hown.form (by omega)
    refine ⟨.pointer (some ⟨g, i.toNat * sz, none⟩), ?_, _, ver, hm, Nat.le_refl _, rfl, fun _ => ⟨g, _, cap, hv, by simp⟩⟩
    have hii : i < (xs.length : Int) := by omega
    simp [execOp, hv, h2, Instr.indexAt, asIntOf, run_underlying hu, h0, hii, sizeOf, typeInfo, hf, hs, add_lit]
theorem ok_indexAddr_arr {t n e sz id o : Nat} {x ix : Operand} {k : IntKind} {i : Int} [h : ArrT P t n e sz] (hx : σ.ev x = some (.lp id o) := by rfl) (hi : σ.ev ix = some (.v (.int k i)) := by rfl) (h0 : 0 ≤ i := by omega) (hl : i < n := by omega) (hd : inB σ dst = true := by rfl) :
    OpOK P ⟨dst, .indexAddr t x ix, ty, pos, after, guard⟩ σ (.lp id (o + i.toNat * sz)) [] :=
  OpOK.val hd fun X w0 σ' a w μ hag s => by
    obtain ⟨inf, hu, hf, hs⟩ := arr_parts h.h
    have h1 := eval_tmp s (hag.ev x (by simp [Op.operands]) _ hx)
    have h2 := eval_v s (hag.ev ix (by simp [Op.operands]) _ hi)
    simp only [Rep] at h1
    obtain ⟨g, hg, e1⟩ := h1
    refine ⟨.pointer (some ⟨g, o + i.toNat * sz, none⟩), ?_, g, hg, rfl⟩
    simp [execOp, e1, h2, Instr.indexAt, asIntOf, run_underlying hu, h0, hl, sizeOf, typeInfo, hf, hs, add_lit, Instr.sureAddr]
theorem ok_indexAddr_arrp {t n e sz : Nat} {x ix : Operand} {cs : List PV} {k : IntKind} {i : Int} [h : ArrT P t n e sz] (hx : σ.ev x = some (.ptr cs) := by rfl) (hi : σ.ev ix = some (.v (.int k i)) := by rfl) (h0 : 0 ≤ i := by omega) (hl : i < n := by omega) (hd : inB σ dst = true := by rfl) :
    OpOK P ⟨dst, .indexAddr t x ix, ty, pos, after, guard⟩ σ (.ptr (cs.drop (i.toNat * sz))) [] :=
  OpOK.val hd fun X w0 σ' a w μ hag s => by
    obtain ⟨inf, hu, hf, hs⟩ := arr_parts h.h
    have h1 := eval_tmp s (hag.ev x (by simp [Op.operands]) _ hx)
    have h2 := eval_v s (hag.ev ix (by simp [Op.operands]) _ hi)
    simp only [Rep] at h1
    obtain ⟨g, e1, r⟩ := h1
    refine ⟨.pointer (some (g.add (i.toNat * sz))), ?_, g.add _, rfl, RepC.shift _ (by simpa using r.drop _)⟩
    simp [execOp, e1, h2, Instr.indexAt, asIntOf, run_underlying hu, h0, hl, sizeOf, typeInfo, hf, hs, Instr.sureAddr]
theorem ok_index_arr1 {t n e : Nat} {x ix : Operand} {cs : List PV} {k : IntKind} {i : Int} {p : PV} [h : ArrT P t n e 1] [he : TySz P e false 1] (hx : σ.ev x = some (.agg cs) := by rfl) (hi : σ.ev ix = some (.v (.int k i)) := by rfl) (h0 : 0 ≤ i := by omega) (hl : i < n := by omega) (hp : cs[i.toNat]? = some p := by rfl) (hd : inB σ dst = true := by rfl) :
    OpOK P ⟨dst, .index t x ix, ty, pos, after, guard⟩ σ p [] :=
  OpOK.val hd fun X w0 σ' a w μ hag s => by
    obtain ⟨inf, hu, hf, hs⟩ := arr_parts h.h
    have h1 := eval_tmp s (hag.ev x (by simp [Op.operands]) _ hx)
    have h2 := eval_v s (hag.ev ix (by simp [Op.operands]) _ hi)
    simp only [Rep] at h1
    obtain ⟨vs, e1, r, _⟩ := h1
    obtain ⟨y, hy, r'⟩ := r.get _ p hp
    exact ⟨y, by simp [execOp, e1, h2, Instr.index, asIntOf, run_underlying hu, h0, hl, sizeOf, typeInfo, hf, hs, part, run_isAgg he.h, hy], r'⟩
theorem ok_index_str {t : Nat} {x ix : Operand} {s : ByteArray} {k : IntKind} {i : Int} {b : UInt8} [hu : StrT P t] (hx : σ.ev x = some (.v (.string s))) (hi : σ.ev ix = some (.v (.int k i))) (h0 : 0 ≤ i) (hp : s[i.toNat]? = some b) (hd : inB σ dst = true) :
    OpOK P ⟨dst, .index t x ix, ty, pos, after, guard⟩ σ (.v (.int .u8 b.toNat)) [] :=
  OpOK.val hd fun X w0 σ' a w μ hag sm => by
    have h1 := eval_v sm (hag.ev x (by simp [Op.operands]) _ hx)
    have h2 := eval_v sm (hag.ev ix (by simp [Op.operands]) _ hi)
    exact ⟨_, by simp [execOp, h1, h2, Instr.index, asIntOf, run_underlying hu.h, h0, hp], rfl⟩
/-! ### Lengths -/
theorem ok_len {t e sz : Nat} {x : Operand} {xs : List (List PV)} {sz' : Nat} [h : SliceT P t e sz] (hx : σ.ev x = some (.sl sz' xs) := by rfl) (hd : inB σ dst = true := by rfl) : OpOK P ⟨dst, .call { callee := .builtin .len, args := #[x], argTypes := #[t] }, ty, pos, after, guard⟩ σ (.v (.int .i64 (xs.length : Int))) [] :=
  OpOK.val hd fun X w0 σ' a w μ hag s => by
    obtain ⟨inf, hu, hf, hs⟩ := slice_parts h.h
    have h1 := eval_tmp s (hag.ev x (by simp [Op.operands, Call.operands]) _ hx)
    simp only [Rep] at h1
    obtain ⟨A, c, e1, _⟩ := h1
    exact ⟨_, by simp [execOp, resolve, invoke, builtin, e1, Builtin.len_, run_underlying hu, goInt], rfl⟩
theorem ok_len_nil {t e sz : Nat} {x : Operand} {A : Option Addr} {n c : Nat} [h : SliceT P t e sz] (hx : σ.ev x = some (.v (.slice A n c)) := by rfl) (hd : inB σ dst = true := by rfl) : OpOK P ⟨dst, .call { callee := .builtin .len, args := #[x], argTypes := #[t] }, ty, pos, after, guard⟩ σ (.v (.int .i64 (n : Int))) [] :=
  OpOK.val hd fun X w0 σ' a w μ hag s => by
    obtain ⟨inf, hu, hf, hs⟩ := slice_parts h.h
    have h1 := eval_v s (hag.ev x (by simp [Op.operands, Call.operands]) _ hx)
    exact ⟨_, by simp [execOp, resolve, invoke, builtin, h1, Builtin.len_, run_underlying hu, goInt], rfl⟩
theorem ok_len_str {t : Nat} {x : Operand} {s : ByteArray} [hu : StrT P t] (hx : σ.ev x = some (.v (.string s)) := by rfl) (hd : inB σ dst = true := by rfl) : OpOK P ⟨dst, .call { callee := .builtin .len, args := #[x], argTypes := #[t] }, ty, pos, after, guard⟩ σ (.v (.int .i64 (s.size : Int))) [] :=
  OpOK.val hd fun X w0 σ' a w μ hag sm => by
    have h1 := eval_v sm (hag.ev x (by simp [Op.operands, Call.operands]) _ hx)
    exact ⟨_, by simp [execOp, resolve, invoke, builtin, h1, Builtin.len_, run_underlying hu.h, goInt], rfl⟩
theorem ok_len_row {t e sz : Nat} {rt : TypeId} {x : Operand} {xs : List (List PV)} {id ver sz' : Nat} [h : SliceT P t e sz] (hx : σ.ev x = some (.row id ver) := by rfl) (hb : σ.blk id = some (.row rt sz' ver xs) := by rfl) (hd : inB σ dst = true := by rfl) : OpOK P ⟨dst, .call { callee := .builtin .len, args := #[x], argTypes := #[t] }, ty, pos, after, guard⟩ σ (.v (.int .i64 (xs.length : Int))) [] :=
  OpOK.val hd fun X w0 σ' a w μ hag s => by
    obtain ⟨inf, hu, hf, hs⟩ := slice_parts h.h
    have h1 := eval_tmp s (hag.ev x (by simp [Op.operands, Call.operands]) _ hx)
    obtain ⟨vs, hm, hown, _⟩ := (row_parts s (hag.blk x (by simp [Op.operands, Call.operands]) _ id _ hx rfl hb) (p := .row id ver) (y := a.eval x)).1 rfl h1
    rcases hown.2 with ⟨hv, h0⟩ | ⟨g, cap, cur, hv, _⟩
    · exact ⟨_, by simp [execOp, resolve, invoke, builtin, hv, Builtin.len_, run_underlying hu, goInt, h0], rfl⟩
    · exact ⟨_, by simp [execOp, resolve, invoke, builtin, hv, Builtin.len_, run_underlying hu, goInt], rfl⟩
theorem ok_minmax {mx : Bool} {t : Nat} {x y : Operand} {i j : Int} {ats : Array TypeId} (hx : σ.ev x = some (.v (.int .i64 i)) := by rfl) (hy : σ.ev y = some (.v (.int .i64 j)) := by rfl) (hd : inB σ dst = true := by rfl) : OpOK P ⟨dst, .call { callee := .builtin (if mx then .max else .min), args := #[x, y], argTypes := ats }, t, pos, after, guard⟩ σ (.v (.int .i64 (if mx then max i j else min i j))) [] :=
  OpOK.val hd fun X w0 σ' a w μ hag sm => by
    have h1 := eval_v sm (hag.ev x (by simp [Op.operands, Call.operands]) _ hx)
    have h2 := eval_v sm (hag.ev y (by simp [Op.operands, Call.operands]) _ hy)
    cases mx
    · refine ⟨_, by simp [execOp, resolve, invoke, builtin, h1, h2, Builtin.min_, Builtin.min2]; rfl, ?_⟩
      simp only [Rep]
      congr 1
      simp only [Bool.false_eq_true, if_false]
      split <;> omega
    · refine ⟨_, by simp [execOp, resolve, invoke, builtin, h1, h2, Builtin.max_, Builtin.max2]; rfl, ?_⟩
      simp only [Rep]
      congr 1
      simp only [if_true]
      split <;> omega
/-! ### A part of a slice -/
theorem RepR.takes {w : World} {μ : LMap} {A : Option Addr} {sz : Nat} : ∀ {xs : List (List PV)} {k : Nat}, RepR w μ A sz xs k → ∀ n, RepR w μ A sz (xs.take n) k
  | [], _, _, n => by simp [RepR]
  | e :: es, k, r, n => by
    cases n with
    | zero => simp [RepR]
    | succ n => simp only [RepR, List.take_succ_cons] at r ⊢; exact ⟨r.1, r.2.1, RepR.takes r.2.2 n⟩
theorem RepR.drops {w : World} {μ : LMap} {A : Option Addr} {sz : Nat} : ∀ {xs : List (List PV)} {k : Nat}, RepR w μ A sz xs k → ∀ n, RepR w μ A sz (xs.drop n) (k + n * sz)
  | [], _, _, n => by simp [RepR]
  | e :: es, k, r, n => by
    cases n with
    | zero => simpa using r
    | succ n =>
      simp only [RepR] at r
      have := RepR.drops r.2.2 n
      rw [List.drop_succ_cons, show k + (n + 1) * sz = k + sz + n * sz from by rw [Nat.succ_mul]; omega]
      exact this
theorem RepR.shift {w : World} {μ : LMap} {a : Addr} {sz : Nat} (n : Nat) : ∀ {xs : List (List PV)} {k : Nat}, RepR w μ (some a) sz xs (n + k) → RepR w μ (some (a.add n)) sz xs k
  | [], _, _ => trivial
  | e :: es, k, r => by
    simp only [RepR] at r ⊢
    exact ⟨r.1, RepC.shift n r.2.1, RepR.shift n (k := k + sz) (by rw [← Nat.add_assoc]; exact r.2.2)⟩
theorem RepR.none_nil {w : World} {μ : LMap} {sz : Nat} (hz : sz ≠ 0) : ∀ {xs : List (List PV)} {k : Nat}, RepR w μ none sz xs k → xs = []
  | [], _, _ => rfl
  | e :: es, k, r => by
    simp only [RepR] at r
    obtain ⟨hl, rc, _⟩ := r
    cases e with
    | nil => simp at hl; omega
    | cons c cs => simp only [RepC] at rc; obtain ⟨⟨a, _, h, _⟩, _⟩ := rc; cases h
theorem rep_part {w : World} {μ : LMap} {sz : Nat} {xs : List (List PV)} {A : Option Addr} {c l h : Nat} (hz : sz ≠ 0) (hc : xs.length ≤ c) (hm : c ≤ maxLen) (r : RepR w μ.shut A sz xs 0) (hlh : l ≤ h) (hh : h ≤ xs.length) :
    Rep w μ (.sl sz ((xs.take h).drop l)) (.slice (if c = l then A else A.map (·.add (l * sz))) (h - l) (c - l)) := by
  simp only [Rep]
  have hlen : ((xs.take h).drop l).length = h - l := by rw [List.length_drop, List.length_take]; omega
  rw [hlen]
  have r' := (r.takes h).drops l
  rw [Nat.zero_add] at r'
  by_cases hcl : c = l
  · rw [if_pos hcl]
    have : (xs.take h).drop l = [] := by
      apply List.eq_nil_of_length_eq_zero
      rw [hlen]; omega
    rw [this]
    exact ⟨A, _, rfl, by omega, by omega, trivial⟩
  · rw [if_neg hcl]
    cases A with
    | none =>
      have := r.none_nil hz
      subst this
      exact ⟨none, _, rfl, by simp at hh; omega, by omega, by simp [RepR]⟩
    | some ad => exact ⟨some (ad.add (l * sz)), _, rfl, by omega, by omega, RepR.shift _ (by simpa using r')⟩
/-- The bounds of a part: given, or not. -/
inductive Bnd (σ : St) : Option Operand → Nat → Nat → Prop
  | no {d : Nat} : Bnd σ none d d
  | lit {x : Operand} {d : Nat} {k : IntKind} {i : Int} : σ.ev x = some (.v (.int k i)) → 0 ≤ i → Bnd σ (some x) d i.toNat
def BndV (v : Option Value) (d l : Nat) : Prop := (v = none ∧ l = d) ∨ ∃ k i, v = some (.int k i) ∧ 0 ≤ i ∧ l = i.toNat
theorem Bnd.val {σ σ' : St} {X : XF} {w0 w : World} {a : Act} {μ : LMap} (s : SimM X w0 σ' a w μ) {lo : Option Operand} {d l : Nat} (h : Bnd σ lo d l) (hag : ∀ x, lo = some x → ∀ q, σ.ev x = some q → σ'.ev x = some q) : BndV (lo.map a.eval) d l := by
  cases h with
  | no => exact .inl ⟨rfl, rfl⟩
  | @lit x d k i hy h0 => exact .inr ⟨k, i, by rw [Option.map_some, eval_v s (hag x rfl _ hy)], h0, rfl⟩
theorem run_bounds {P : Program} {w : World} {isS : Bool} {n c l h : Nat} {lo hi : Option Value} (hlo : BndV lo 0 l) (hhi : BndV hi n h) (hlh : l ≤ h) (hhc : h ≤ c) : (Instr.sliceBounds isS n c lo hi none).run P w = .ok (l, h, c) w := by
  rcases hlo with ⟨rfl, rfl⟩ | ⟨k, i, rfl, h0, rfl⟩
  · rcases hhi with ⟨rfl, rfl⟩ | ⟨k', i', rfl, h0', rfl⟩
    · simp [Instr.sliceBounds]
    · have e : i' ≤ (c : Int) := by omega
      simp [Instr.sliceBounds, Instr.sliceBound, asIntOf, h0', e]
  · rcases hhi with ⟨rfl, rfl⟩ | ⟨k', i', rfl, h0', rfl⟩
    · have e : i ≤ (h : Int) := by omega
      simp [Instr.sliceBounds, Instr.sliceBound, asIntOf, h0, e]
    · have e : i' ≤ (c : Int) := by omega
      have e2 : ¬ max i' 0 < i := by omega
      simp [Instr.sliceBounds, Instr.sliceBound, asIntOf, h0, h0', e]
      exact fun h => absurd h e2
theorem ok_slice {t e sz : Nat} {x : Operand} {lo hi : Option Operand} {xs : List (List PV)} {l h : Nat} [ht : SliceT P t e sz] (hx : σ.ev x = some (.sl sz xs)) (hlo : Bnd σ lo 0 l) (hhi : Bnd σ hi xs.length h) (hlh : l ≤ h) (hh : h ≤ xs.length) (hz : sz ≠ 0) (hd : inB σ dst = true) :
    OpOK P ⟨dst, .slice t x lo hi none, ty, pos, after, guard⟩ σ (.sl sz ((xs.take h).drop l)) [] :=
  OpOK.val hd fun X w0 σ' a w μ hag s => by
    obtain ⟨inf, hu, hf, hs⟩ := slice_parts ht.h
    have h1 := eval_tmp s (hag.ev x (by simp [Op.operands]) _ hx)
    simp only [Rep] at h1
    obtain ⟨A, c, e1, hc, hm, r⟩ := h1
    refine ⟨_, ?_, rep_part hz hc hm r hlh hh⟩
    have hb := run_bounds (P := P) (w := w) (isS := true) (c := c) (hlo.val s (fun y hy q hq => hag.ev y (by simp [Op.operands, hy]) q hq)) (hhi.val s (fun y hy q hq => hag.ev y (by simp [Op.operands, hy]) q hq)) hlh (Nat.le_trans hh hc)
    simp [execOp, e1, Instr.sliceAt, run_underlying hu, Instr.slice, hb, sizeOf, typeInfo, hf, hs]
theorem ok_slice_str {t : Nat} {x : Operand} {lo hi : Option Operand} {b : ByteArray} {l h : Nat} [hu : StrT P t] (hx : σ.ev x = some (.v (.string b))) (hlo : Bnd σ lo 0 l) (hhi : Bnd σ hi b.size h) (hlh : l ≤ h) (hh : h ≤ b.size) (hd : inB σ dst = true) :
    OpOK P ⟨dst, .slice t x lo hi none, ty, pos, after, guard⟩ σ (.v (.string (b.extract l h))) [] :=
  OpOK.val hd fun X w0 σ' a w μ hag s => by
    have h1 := eval_v s (hag.ev x (by simp [Op.operands]) _ hx)
    have hb := run_bounds (P := P) (w := w) (isS := false) (c := b.size) (hlo.val s (fun y hy q hq => hag.ev y (by simp [Op.operands, hy]) q hq)) (hhi.val s (fun y hy q hq => hag.ev y (by simp [Op.operands, hy]) q hq)) hlh hh
    exact ⟨_, by simp [execOp, h1, Instr.sliceAt, run_underlying hu.h, Instr.slice, hb], rfl⟩
/-! ### Functions as values -/
theorem eval_list {X : XF} {w0 w : World} {σ' : St} {a : Act} {μ : LMap} (s : SimM X w0 σ' a w μ) : ∀ {xs : List Operand} {ps : List PV}, xs.mapM σ'.ev = some ps → RepL w μ ps (xs.map a.eval)
  | [], ps, h => by simp at h; subst h; rfl
  | x :: xs, ps, h => by
    rw [List.mapM_cons] at h
    cases hx : σ'.ev x with
    | none => rw [hx] at h; cases h
    | some p =>
      rw [hx] at h
      cases hxs : xs.mapM σ'.ev with
      | none => rw [hxs] at h; cases h
      | some qs =>
        rw [hxs] at h
        injection h with h
        subst h
        exact ⟨_, _, rfl, eval_tmp s hx, eval_list s hxs⟩
theorem ev_agree {σ' : St} : ∀ {xs : List Operand} {ps : List PV}, (∀ x ∈ xs, ∀ q, σ.ev x = some q → σ'.ev x = some q) → xs.mapM σ.ev = some ps → xs.mapM σ'.ev = some ps
  | [], ps, _, h => h
  | x :: xs, ps, hag, h => by
    rw [List.mapM_cons] at h ⊢
    cases hx : σ.ev x with
    | none => rw [hx] at h; cases h
    | some p =>
      rw [hx] at h
      cases hxs : xs.mapM σ.ev with
      | none => rw [hxs] at h; cases h
      | some qs =>
        rw [hxs] at h
        rw [hag x (List.mem_cons_self ..) p hx, ev_agree (fun y hy => hag y (List.mem_cons_of_mem _ hy)) hxs]
        exact h
theorem ok_makeFunc {fn : Fn} {first caps : List Operand} {ps qs : List PV} (h1 : first.mapM σ.ev = some ps := by rfl) (h2 : caps.mapM σ.ev = some qs := by rfl) (hd : inB σ dst = true := by rfl) : OpOK P ⟨dst, .makeFunc fn first.toArray caps.toArray, ty, pos, after, guard⟩ σ (.fn fn ps qs) [] :=
  OpOK.val hd fun X w0 σ' a w μ hag s => by
    have r1 := eval_list s (ev_agree (σ' := σ') (fun x hx q hq => hag.ev x (by simp [Op.operands, hx]) q hq) h1)
    have r2 := eval_list s (ev_agree (σ' := σ') (fun x hx q hq => hag.ev x (by simp [Op.operands, hx]) q hq) h2)
    exact ⟨_, by simp [execOp, Instr.makeFunc], _, _, rfl, r1, r2⟩
end
end Go.Proofs.Ytlicjlahnbebcaa
