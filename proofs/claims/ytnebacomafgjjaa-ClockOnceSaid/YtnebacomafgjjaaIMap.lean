/- A map that the call made, keyed by ints: what it holds, as a function. -/
import Derived.Test.YtnebacomafgjjaaBase
import Derived.Maps.OwnOps
namespace Go.Proofs.Ytnebacomafgjjaa
open Go.RowKit Go.MapKept

/-- Block b of w is a map that holds m. -/
def IMap (w : World) (b : Nat) (m : Int → Option Value) : Prop :=
  ∃ es clock, w.heap[b]? = some (.map es clock) ∧ ∀ x : Int, ∃ r, Instr.findNow (.int .i64) (.int .i64 x) es.toList 0 = some r ∧ r.map (·.2) = m x

section
variable {P : Program} {w : World} {b : Nat} {m : Int → Option Value}
theorem IMap.of_block {w' : World} (h : IMap w b m) (e : w'.heap[b]? = w.heap[b]?) : IMap w' b m := by
  obtain ⟨es, clock, hb, hf⟩ := h
  exact ⟨es, clock, e.trans hb, hf⟩
theorem IMap.lt (h : IMap w b m) : b < w.heap.size := by
  obtain ⟨es, clock, hb, hf⟩ := h
  exact (Array.getElem?_eq_some_iff.1 hb).1
theorem IMap.drewN (h : IMap w b m) (n : Nat) : IMap (w.drewN n) b m := h
theorem IMap.alloc (h : IMap w b m) (o : Obj) : IMap (w.alloc o) b m := h.of_block (Below.heap_alloc w o b h.lt)
theorem IMap.later {w' : World} (h : IMap w b m) (hb : Below w.heap.size w w') : IMap w' b m := h.of_block (hb.block b h.lt)
theorem IMap.new (w : World) : IMap (w.alloc (.map #[] 0)) w.heap.size (fun _ => none) := by
  exact ⟨#[], 0, heap_alloc_new w _, fun x => ⟨none, rfl, rfl⟩⟩
theorem IMap.setCell (h : IMap w b m) {a : Addr} (ha : b ≠ a.block) (u : Value) : IMap (w.setCell a u) b m := h.of_block (Below.heap_setCell w a u b ha)

theorem run_checkKey_i64 {k : TypeId} (hk : P.underlying k = some (.int .i64)) (e : Bool) (n : Nat) (x : Int) (w : World) : (Instr.checkKey e (n + 1) k (.int .i64 x)).run P w = .ok () w := by
  unfold Instr.checkKey
  simp only [Sem.run_bind, run_underlying hk, Result.andThen]
  simp
theorem IMap.run_look (h : IMap w b m) {t k e : TypeId} (ht : P.underlying t = some (.map k e)) (hk : P.underlying k = some (.int .i64)) {z : Value} (hz : (zeroValue e).run P w = .ok z w) (x : Int) :
    (Instr.lookup t (.map (some b)) (.int .i64 x) false).run P w = .ok ((m x).getD z) w := by
  obtain ⟨es, clock, hb, hf⟩ := h
  obtain ⟨r, h1, h2⟩ := hf x
  rw [← h2]
  cases r with
  | none => simp [Instr.lookup, run_underlying ht, MapKept.run_getObj_map hb, run_checkKey_i64 hk, run_findKey hk h1, hz, Result.andThen]
  | some y => simp [Instr.lookup, run_underlying ht, MapKept.run_getObj_map hb, run_checkKey_i64 hk, run_findKey hk h1, Result.andThen]
theorem IMap.run_look_ok (h : IMap w b m) {t k e : TypeId} (ht : P.underlying t = some (.map k e)) (hk : P.underlying k = some (.int .i64)) {z : Value} (hz : (zeroValue e).run P w = .ok z w) (x : Int) :
    (Instr.lookup t (.map (some b)) (.int .i64 x) true).run P w = .ok (.tuple #[(m x).getD z, .bool (m x).isSome]) w := by
  obtain ⟨es, clock, hb, hf⟩ := h
  obtain ⟨r, h1, h2⟩ := hf x
  rw [← h2]
  cases r with
  | none => simp [Instr.lookup, run_underlying ht, MapKept.run_getObj_map hb, run_checkKey_i64 hk, run_findKey hk h1, hz, Result.andThen]
  | some y => simp [Instr.lookup, run_underlying ht, MapKept.run_getObj_map hb, run_checkKey_i64 hk, run_findKey hk h1, Result.andThen]

theorem sameNow_i64 (x y : Int) : Instr.sameNow (.int .i64) (.int .i64 x) (.int .i64 y) = some (x == y) := by simp [Instr.sameNow]
/-- What is found does not hang on where the count begins. -/
theorem findNow_shift (x : Int) : ∀ (l : List MapEntry) (i j : Nat) (r : Option (Nat × Value)), Instr.findNow (.int .i64) (.int .i64 x) l i = some r → Instr.findNow (.int .i64) (.int .i64 x) l (i + j) = some (r.map fun p => (p.1 + j, p.2))
  | [], i, j, r, h => by
    simp only [Instr.findNow] at h ⊢
    injection h with h
    subst h
    rfl
  | e :: l, i, j, r, h => by
    simp only [Instr.findNow] at h ⊢
    cases hs : Instr.sameNow (.int .i64) (.int .i64 x) e.key with
    | none => simp only [hs] at h; exact absurd h (by simp)
    | some q =>
      cases q
      · simp only [hs] at h ⊢
        have := findNow_shift x l (i + 1) j r h
        rwa [show i + 1 + j = i + j + 1 from by omega] at this
      · simp only [hs] at h ⊢
        injection h with h
        subst h
        rfl
theorem findNow_push (x y : Int) (v : Value) (c : Nat) : ∀ (l : List MapEntry) (i : Nat) (r : Option (Nat × Value)), Instr.findNow (.int .i64) (.int .i64 y) l i = some r → 
    ∃ r', Instr.findNow (.int .i64) (.int .i64 y) (l ++ [{ key := .int .i64 x, val := v, born := c }]) i = some r' ∧ r'.map (·.2) = (match r with | some p => some p.2 | none => if y = x then some v else none)
  | [], i, r, h => by
    simp only [Instr.findNow] at h
    injection h with h
    subst h
    simp only [List.nil_append, Instr.findNow, sameNow_i64]
    by_cases hxy : y = x
    · simp [hxy]
    · have : (y == x) = false := beq_eq_false_iff_ne.2 hxy
      simp [this, hxy]
  | e :: l, i, r, h => by
    simp only [Instr.findNow] at h
    simp only [List.cons_append, Instr.findNow]
    cases hs : Instr.sameNow (.int .i64) (.int .i64 y) e.key with
    | none => simp only [hs] at h; exact absurd h (by simp)
    | some q =>
      cases q
      · simp only [hs] at h ⊢
        exact findNow_push x y v c l (i + 1) r h
      · simp only [hs] at h ⊢
        injection h with h
        subst h
        exact ⟨_, rfl, rfl⟩
theorem findNow_key (x : Int) : ∀ (l : List MapEntry) (i j : Nat) (v : Value), Instr.findNow (.int .i64) (.int .i64 x) l i = some (some (j, v)) → i ≤ j ∧ ∃ e, l[j - i]? = some e ∧ e.key = .int .i64 x ∧ e.val = v
  | [], i, j, v, h => by simp [Instr.findNow] at h
  | e :: l, i, j, v, h => by
    simp only [Instr.findNow] at h
    cases hs : Instr.sameNow (.int .i64) (.int .i64 x) e.key with
    | none => simp only [hs] at h; exact absurd h (by simp)
    | some q =>
      cases q
      · simp only [hs] at h
        obtain ⟨h1, e', h2, h3, h4⟩ := findNow_key x l (i + 1) j v h
        refine ⟨by omega, e', ?_, h3, h4⟩
        rw [show j - i = (j - (i + 1)) + 1 from by omega, List.getElem?_cons_succ]
        exact h2
      · simp only [hs] at h
        injection h with h
        injection h with h
        injection h with ha hb
        subst ha hb
        refine ⟨Nat.le_refl _, e, by simp, ?_, rfl⟩
        cases hk : e.key <;> rw [hk] at hs <;> simp [Instr.sameNow] at hs
        obtain ⟨h1, h2⟩ := hs
        rw [h1, h2]
theorem findNow_set (x y : Int) (v : Value) : ∀ (l : List MapEntry) (i j : Nat) (f : MapEntry → MapEntry) (u : Value) (r : Option (Nat × Value)), (∀ e, (f e).val = v ∧ (f e).key = .int .i64 x) →
    Instr.findNow (.int .i64) (.int .i64 x) l i = some (some (i + j, u)) → Instr.findNow (.int .i64) (.int .i64 y) l i = some r →
    ∃ r', Instr.findNow (.int .i64) (.int .i64 y) (l.modify j f) i = some r' ∧ r'.map (·.2) = (if y = x then some v else r.map (·.2))
  | [], i, j, f, u, r, hf, hx, hy => by simp [Instr.findNow] at hx
  | e :: l, i, 0, f, u, r, hf, hx, hy => by
    obtain ⟨_, e', h2, h3, _⟩ := findNow_key x _ _ _ _ hx
    have h2' : e = e' := by simpa using h2
    subst h2'
    obtain ⟨hv, hk⟩ := hf e
    simp only [List.modify_zero_cons, Instr.findNow, hk, sameNow_i64]
    simp only [Instr.findNow, h3, sameNow_i64] at hy
    by_cases hxy : y = x
    · subst hxy
      simp [hv]
    · have hne : (y == x) = false := beq_eq_false_iff_ne.2 hxy
      simp only [hne] at hy ⊢
      exact ⟨r, hy, by rw [if_neg hxy]⟩
  | e :: l, i, j + 1, f, u, r, hf, hx, hy => by
    simp only [List.modify_succ_cons, Instr.findNow] at hx hy ⊢
    cases hs : Instr.sameNow (.int .i64) (.int .i64 x) e.key with
    | none => simp only [hs] at hx; exact absurd hx (by simp)
    | some q =>
      cases q
      · simp only [hs] at hx
        cases hs' : Instr.sameNow (.int .i64) (.int .i64 y) e.key with
        | none => simp only [hs'] at hy; exact absurd hy (by simp)
        | some q' =>
          cases q'
          · simp only [hs'] at hy ⊢
            exact findNow_set x y v l (i + 1) j f u r hf (by rw [show i + 1 + j = i + (j + 1) from by omega]; exact hx) hy
          · simp only [hs'] at hy ⊢
            injection hy with hy
            subst hy
            have hne : y ≠ x := by
              rintro rfl
              rw [hs] at hs'
              cases hs'
            exact ⟨_, rfl, by rw [if_neg hne]⟩
      · simp only [hs] at hx
        injection hx with hx
        injection hx with hx
        injection hx with hx _
        omega
theorem run_keyThatStays (x : Int) (w : World) : (Instr.keyThatStays (.int .i64 x) (.int .i64 x)).run P w = .ok (.int .i64 x) w := by
  simp [Instr.keyThatStays, Instr.sameBits]
theorem IMap.run_put (h : IMap w b m) {t k e : TypeId} (ht : P.underlying t = some (.map k e)) (hk : P.underlying k = some (.int .i64)) (x : Int) (v : Value) :
    ∃ w', (Instr.mapUpdate t (.map (some b)) (.int .i64 x) v).run P w = .ok () w' ∧ IMap w' b (fun y => if y = x then some v else m y) ∧ w.grownBy w' (some b) := by
  obtain ⟨es, clock, hb, hf⟩ := h
  obtain ⟨r, h1, h2⟩ := hf x
  have hfar : ∀ o : Obj, w.grownBy { w with heap := w.heap.setIfInBounds b o } (some b) := fun o => ⟨rfl, rfl, rfl, by simp, fun i _ hi => by
    have hne : i ≠ b := fun e => hi (by rw [e])
    simp [Array.getElem?_setIfInBounds, Ne.symm hne]⟩
  cases r with
  | none =>
    refine ⟨{ w with heap := w.heap.setIfInBounds b (.map (es.push { key := .int .i64 x, val := v, born := clock }) (clock + 1)) }, ?_, ?_, hfar _⟩
    · simp [Instr.mapUpdate, run_underlying ht, MapKept.run_getObj_map hb, run_checkKey_i64 hk, run_findKey hk h1, MapKept.run_setObj_map _ hb, Result.andThen]
    · refine ⟨_, _, (heap_set hb).1, fun y => ?_⟩
      obtain ⟨ry, hy1, hy2⟩ := hf y
      obtain ⟨r', h3, h4⟩ := findNow_push x y v clock es.toList 0 ry hy1
      refine ⟨r', by rw [Array.toList_push]; exact h3, ?_⟩
      rw [h4]
      show _ = if y = x then some v else m y
      rw [← hy2]
      cases ry with
      | none => rfl
      | some p =>
        by_cases hxy : y = x
        · subst hxy
          rw [h1] at hy1
          injection hy1 with hy1
          cases hy1
        · simp [hxy]
  | some p =>
    obtain ⟨j, u⟩ := p
    obtain ⟨_, e', he, hek, hev⟩ := findNow_key x _ _ _ _ h1
    have he' : es[j]? = some e' := by rw [← Array.getElem?_toList]; simpa using he
    refine ⟨{ w with heap := w.heap.setIfInBounds b (.map (es.modify j fun e => { e with key := .int .i64 x, val := v }) clock) }, ?_, ?_, hfar _⟩
    · simp [Instr.mapUpdate, run_underlying ht, MapKept.run_getObj_map hb, run_checkKey_i64 hk, run_findKey hk h1, he', hek, run_keyThatStays, MapKept.run_setObj_map _ hb, Result.andThen]
    · refine ⟨_, _, (heap_set hb).1, fun y => ?_⟩
      obtain ⟨ry, hy1, hy2⟩ := hf y
      obtain ⟨r', h3, h4⟩ := findNow_set x y v es.toList 0 j (fun e => { e with key := .int .i64 x, val := v }) u ry (fun e => ⟨rfl, rfl⟩) (by rw [Nat.zero_add]; exact h1) hy1
      refine ⟨r', by rw [Array.toList_modify]; exact h3, ?_⟩
      rw [h4]
      show _ = if y = x then some v else m y
      rw [← hy2]
end

/-- The store at the operation, for the walk. -/
theorem wpList_put_imap {P : Program} (w : World) {ops : Array Oper} {rest : List Oper} {o : Oper} {a : Act} {Q : Exit → Act → World → Prop}
    (hg : o.guard = none) (mo xo vo : Operand) (t : TypeId) (hop : o.op = Op.mapUpdate t mo xo vo)
    (k e : TypeId) (ht : P.underlying t = some (.map k e)) (hk : P.underlying k = some (.int .i64)) (b : Nat) (m : Int → Option Value)
    (hm : a.eval mo = .map (some b)) (hown : IMap w b m) (x : Int) (v : Value) (hx : a.eval xo = .int .i64 x) (hv : a.eval vo = v)
    (hK : ∀ w', IMap w' b (fun y => if y = x then some v else m y) → w.grownBy w' (some b) → wpList P ops Q rest (a.put o.dst undef) w') :
    wpList P ops Q (o :: rest) a w := by
  refine wpList_plain hg fun K' hK' => ?_
  obtain ⟨w', hrun, r1, r2⟩ := hown.run_put ht hk x v
  unfold Oper.wp
  simp [execOp, hop, hm, hx, hv, hrun, Result.andThen]
  exact hK' _ _ (hK w' r1 r2)
end Go.Proofs.Ytnebacomafgjjaa
