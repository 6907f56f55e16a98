/- What each operation yields, as values read: structs and slices that are built, what is appended, what is stored. -/
import Derived.Test.YtlicjlahnbebcaaE6
namespace Go.Proofs.Ytlicjlahnbebcaa
open Go.RowKit

/-- ps laid over cs from place o on. -/
def putL {α : Type} : List α → Nat → List α → List α
  | cs, _, [] => cs
  | cs, o, p :: ps => putL (cs.set o p) (o + 1) ps
theorem putL_length {α : Type} : ∀ (ps cs : List α) (o : Nat), (putL cs o ps).length = cs.length
  | [], _, _ => rfl
  | p :: ps, cs, o => by rw [putL, putL_length, List.length_set]
theorem RepL.puts {w : World} {μ : LMap} : ∀ {ps : List PV} {us : List Value}, RepL w μ ps us → ∀ {cs : List PV} {vs : List Value} (o : Nat), RepL w μ cs vs → RepL w μ (putL cs o ps) (putL vs o us)
  | [], _, r, _, _, _, h => by simp only [RepL] at r; subst r; exact h
  | p :: ps, _, r, _, _, o, h => by
    simp only [RepL] at r
    obtain ⟨u, us, rfl, r1, r2⟩ := r
    exact RepL.puts r2 (o + 1) (h.set o p u r1)
theorem foldl_put : ∀ (l : List Value) (n off : Nat) (cs : Array Value), ((l.zipIdx n).foldl (fun cs (x : Value × Nat) => cs.setIfInBounds (off + x.2) x.1) cs).toList = putL cs.toList (off + n) l
  | [], _, _, _ => rfl
  | v :: l, n, off, cs => by
    rw [List.zipIdx_cons, List.foldl_cons, foldl_put l (n + 1) off, putL, ← Nat.add_assoc]
    congr 1
    simp
theorem putL_mem {α : Type} {q : α → Prop} : ∀ (ps cs : List α) (o : Nat), (∀ p ∈ ps, q p) → (∀ c ∈ cs, q c) → ∀ x ∈ putL cs o ps, q x
  | [], _, _, _, h => h
  | p :: ps, cs, o, hp, h => by
    rw [putL]
    refine putL_mem ps _ _ (fun x hx => hp x (List.mem_cons_of_mem _ hx)) (fun x hx => ?_)
    rcases List.mem_or_eq_of_mem_set hx with hx | rfl
    · exact h x hx
    · exact hp x (List.mem_cons_self ..)
/-- The parts of what is built, laid over its zero. -/
def fillP (place : Nat → Option (Nat × Nat)) (cs : List PV) : List (Nat × PV) → Option (List PV)
  | [] => some cs
  | (i, p) :: rest => match place i with
    | none => none
    | some (off, n) => bif Nat.beq p.cells.length n && Nat.ble (off + n) cs.length && p.lies then fillP place (putL cs off p.cells) rest else none
theorem fill_of {w : World} {μ : LMap} {place : Nat → Option (Nat × Nat)} : ∀ {ps : List (Nat × PV)} {us : List (Nat × Value)} {cs res : List PV} {vs : Array Value},
    us.map Prod.fst = ps.map Prod.fst → RepL w μ (ps.map Prod.snd) (us.map Prod.snd) → RepL w μ cs vs.toList → (∀ u ∈ vs.toList, u.oneCell' = true) → fillP place cs ps = some res →
    ∃ rv, Instr.fill place vs us = some rv ∧ RepL w μ res rv.toList ∧ ∀ u ∈ rv.toList, u.oneCell' = true
  | [], [], cs, res, vs, _, _, r, h1, h => by
    injection h with h
    subst h
    exact ⟨vs, rfl, r, h1⟩
  | [], _ :: _, _, _, _, h, _, _, _, _ => by simp at h
  | _ :: _, [], _, _, _, h, _, _, _, _ => by simp at h
  | (i, p) :: ps, (i', u) :: us, cs, res, vs, hf, hr, r, h1, h => by
    simp only [List.map_cons, List.cons.injEq] at hf
    obtain ⟨rfl, hf⟩ := hf
    simp only [List.map_cons, RepL] at hr
    obtain ⟨u0, us0, e, hr1, hr2⟩ := hr
    injection e with e1 e2
    subst e1 e2
    rw [fillP] at h
    cases hp : place i' with
    | none => rw [hp] at h; cases h
    | some on =>
      obtain ⟨off, n⟩ := on
      rw [hp] at h
      simp only at h
      cases hc : (Nat.beq p.cells.length n && Nat.ble (off + n) cs.length && p.lies) with
      | false => rw [hc] at h; cases h
      | true =>
        rw [hc, cond_true] at h
        simp only [Bool.and_eq_true] at hc
        obtain ⟨⟨c1, c2⟩, c3⟩ := hc
        have c1' := Nat.eq_of_beq_eq_true c1
        rw [Nat.ble_eq] at c2
        obtain ⟨q1, q2⟩ := hr1.lies c3
        have hn : u.cells.size = n := by rw [← Array.length_toList, q1.length, c1']
        have hlen := r.length
        have hz : (u.cells.zipIdx.foldl (fun cs (x : Value × Nat) => cs.setIfInBounds (off + x.2) x.1) vs).toList = putL vs.toList off u.cells.toList := by
          have := foldl_put u.cells.toList 0 off vs
          rw [Nat.add_zero] at this
          rw [← this, ← Array.foldl_toList, Array.toList_zipIdx]
        have r2 : RepL w μ (putL cs off p.cells) (u.cells.zipIdx.foldl (fun cs (x : Value × Nat) => cs.setIfInBounds (off + x.2) x.1) vs).toList := by rw [hz]; exact RepL.puts q1 off r
        obtain ⟨rv, g1, g2, g3⟩ := fill_of hf hr2 r2 (by rw [hz]; exact putL_mem _ _ _ q2 h1) h
        refine ⟨rv, ?_, g2, g3⟩
        rw [Instr.fill, hp]
        simp only
        have hb : ¬ (u.cells.size ≠ n || decide (off + u.cells.size > vs.size)) = true := by
          rw [← Array.length_toList (xs := vs), hlen]
          simp [hn]
          omega
        rw [if_neg hb]
        exact g1
section
variable {P : Program} {σ : St} {dst : Option Tmp} {ty : TypeId} {pos : String} {after : Array Edge} {guard : Option (Nat × Bool)}
/-- The parts, as they read. -/
def St.evP (σ : St) : List (Nat × Operand) → Option (List (Nat × PV))
  | [] => some []
  | (i, x) :: l => match σ.ev x, σ.evP l with
    | some p, some ps => some ((i, p) :: ps)
    | _, _ => none
theorem evP_spec {X : XF} {w0 w : World} {σ' : St} {a : Act} {μ : LMap} (s : SimM X w0 σ' a w μ) : ∀ {l : List (Nat × Operand)} {ps : List (Nat × PV)}, (∀ x ∈ l.map Prod.snd, ∀ q, σ.ev x = some q → σ'.ev x = some q) → σ.evP l = some ps →
    (l.map fun (i, x) => (i, a.eval x)).map Prod.fst = ps.map Prod.fst ∧ RepL w μ (ps.map Prod.snd) ((l.map fun (i, x) => (i, a.eval x)).map Prod.snd)
  | [], ps, _, h => by injection h with h; subst h; exact ⟨rfl, rfl⟩
  | (i, x) :: l, ps, hag, h => by
    rw [St.evP] at h
    cases hx : σ.ev x with
    | none => rw [hx] at h; cases h
    | some p =>
      cases hl : σ.evP l with
      | none => rw [hx, hl] at h; cases h
      | some qs =>
        rw [hx, hl] at h
        injection h with h
        subst h
        obtain ⟨r1, r2⟩ := evP_spec s (fun y hy => hag y (List.mem_cons_of_mem _ hy)) hl
        refine ⟨by simp only [List.map_cons]; rw [r1], ?_⟩
        simp only [List.map_cons]
        exact ⟨_, _, rfl, eval_tmp s (hag x (List.mem_cons_self ..) p hx), r2⟩
theorem struct_parts {t : Nat} {pl : List (Nat × Nat)} (h : structB P t = some pl) : ∃ fs : Array Field, P.underlying t = some (.struct fs) ∧ ∀ w, (fs.mapM (m := Sem) fun f => do pure (f.offset, ← sizeOf f.type)).run P w = .ok pl.toArray w := by
  unfold structB at h
  split at h
  · rename_i fs hu
    refine ⟨fs, hu, fun w => ?_⟩
    have key : ∀ (l : List Field) (pl : List (Nat × Nat)), (l.mapM fun f => (P.info? f.type).map fun i => (f.offset, i.size)) = some pl → (l.mapM (m := Sem) fun f => do pure (f.offset, ← sizeOf f.type)).run P w = .ok pl w := by
      intro l
      induction l with
      | nil => intro pl h; simp at h; subst h; rfl
      | cons f l ih =>
        intro pl h
        rw [List.mapM_cons] at h
        cases hi : P.info? f.type with
        | none => rw [hi] at h; cases h
        | some i =>
          rw [hi] at h
          cases hm : (l.mapM fun f => (P.info? f.type).map fun i => (f.offset, i.size)) with
          | none => rw [hm] at h; cases h
          | some qs =>
            rw [hm] at h
            injection h with h
            subst h
            have hs : (do pure (f.offset, ← sizeOf f.type) : Sem (Nat × Nat)).run P w = .ok (f.offset, i.size) w := by simp [sizeOf, typeInfo, hi]
            rw [List.mapM_cons, Sem.run_bind, hs, Result.andThen_ok, Sem.run_bind, ih qs hm, Result.andThen_ok]
            rfl
    have hk := key fs.toList pl h
    rw [Array.mapM_eq_mapM_toList]
    simp only [Sem.run_bind, Sem.run_map, hk, Result.andThen_ok] <;> first | rfl | simp [hk]
  · cases h
theorem ok_build {t : TypeId} {parts : List (Nat × Operand)} {pl : List (Nat × Nat)} {zs : List Value} {ps : List (Nat × PV)} {cs : List PV} [h : StructT P t pl] [hz : ZeroT P t zs] (hps : σ.evP parts = some ps := by rfl) (hcs : fillP (fun i => pl[i]?) (zs.map PV.v) ps = some cs := by rfl) (h1 : zs.all Value.oneCell' = true := by rfl) (hd : inB σ dst = true := by rfl) :
    OpOK P ⟨dst, .build t parts.toArray, ty, pos, after, guard⟩ σ (.agg cs) [] :=
  OpOK.val hd fun X w0 σ' a w μ hag s => by
    obtain ⟨fs, hu, hm⟩ := struct_parts h.h
    obtain ⟨i, z, hi, hzz, hzs⟩ := zero_parts hz.h
    obtain ⟨e1, e2⟩ := evP_spec (σ := σ) s (fun x hx q hq => hag.ev x (by simpa [Op.operands] using hx) q hq) hps
    have hzl : RepL w μ (zs.map PV.v) z.cells.toList := by rw [hzs]; exact RepL.of_lits zs
    obtain ⟨rv, g1, g2, g3⟩ := fill_of e1 e2 hzl (by rw [hzs]; exact fun u hu => List.all_eq_true.1 h1 u hu) hcs
    refine ⟨.agg rv, ?_, rv.toList, by simp, g2, g3⟩
    have e3 : (parts.toArray.map fun (x : Nat × Operand) => (x.1, a.eval x.2)).toList = parts.map fun (x : Nat × Operand) => (x.1, a.eval x.2) := by simp
    have g1' : Instr.fill (fun i => pl.toArray[i]?) z.cells (parts.toArray.map fun (x : Nat × Operand) => (x.1, a.eval x.2)).toList = some rv := by
      rw [e3]
      simpa using g1
    simp only [execOp, Instr.build, Sem.run_bind, zeroValue, typeInfo, run_program, hi, hzz, Result.andThen_ok, Sem.run_pure, run_underlying hu, hm w, g1']
/-- Cells, element by element. -/
def chunks {α : Type} (sz n : Nat) (cs : List α) : List (List α) := (List.range n).map fun i => (cs.drop (i * sz)).take sz
theorem chunks_len {α : Type} {sz n : Nat} {cs : List α} (h : cs.length = n * sz) : ∀ e ∈ chunks sz n cs, e.length = sz := by
  intro e he
  obtain ⟨i, hi, rfl⟩ := List.mem_map.1 he
  rw [List.mem_range] at hi
  rw [List.length_take, List.length_drop, h]
  have : (i + 1) * sz ≤ n * sz := Nat.mul_le_mul_right _ hi
  rw [Nat.succ_mul] at this
  omega
theorem chunks_flat {α : Type} {sz : Nat} : ∀ {n : Nat} {cs : List α}, cs.length = n * sz → (chunks sz n cs).flatten = cs
  | 0, cs, h => by
    have : cs = [] := List.eq_nil_of_length_eq_zero (by simpa using h)
    subst this
    rfl
  | n + 1, cs, h => by
    have hc : chunks sz (n + 1) cs = cs.take sz :: chunks sz n (cs.drop sz) := by
      unfold chunks
      rw [List.range_succ_eq_map, List.map_cons, List.map_map]
      simp only [Nat.zero_mul, List.drop_zero]
      congr 1
      apply List.map_congr_left
      intro i _
      simp only [Function.comp, List.drop_drop]
      rw [Nat.succ_mul, Nat.add_comm]
    rw [hc, List.flatten_cons, chunks_flat (by rw [List.length_drop, h, Nat.succ_mul]; omega), List.take_append_drop]
theorem run_buildSlice {t e sz n bytes : Nat} {z : Value} (h : sliceB P t = some (e, sz)) (hz : (P.info? e).map (fun i => (i.zero, i.size, i.bytes)) = some (some z, sz, bytes)) (hn : n * sz ≤ 2 ^ 24) (hzs : z.cells.size = sz) (hsz : sz ≠ 0) {us : List (Nat × Value)} {rv : Array Value} {w : World}
    (hf : Instr.fill (fun i => some (i * sz, sz)) ((Array.range (n * sz)).map fun j => z.cells[j % z.cells.size]!) us = some rv) :
    (Instr.buildSlice t n us.toArray).run P w = .ok (.slice (some ⟨w.heap.size, 0, none⟩) n n) (w.alloc (.cells rv e)) := by
  obtain ⟨i, hu, hi, hs⟩ := slice_parts h
  obtain ⟨i', hi', hz0, hz1, _⟩ := info_parts hz
  rw [hi] at hi'
  injection hi' with hi'
  subst hi'
  have hgt : ¬ n * sz > 2 ^ 24 := by omega
  rcases Nat.eq_zero_or_pos (n * sz) with h0 | h0
  · have hn0 : n = 0 := by
      rcases Nat.mul_eq_zero.1 h0 with h | h
      · exact h
      · exact absurd h hsz
    subst hn0
    have r0 : Array.range 0 = #[] := rfl
    simp only [Nat.zero_mul, r0] at hf
    simp [Instr.buildSlice, run_underlying hu, sizeOf, typeInfo, hi, hs, newRow, r0]
    have hf' : Instr.fill (fun i => some (i * sz, sz)) #[] us = some rv := by simpa using hf
    rw [hf']
    simp
  · have hne : ¬ n * sz = 0 := by omega
    simp [Instr.buildSlice, run_underlying hu, sizeOf, typeInfo, zeroValue, hi, hs, hgt, hne, hz0, newRow]
    rw [hf]
    simp
/-- The zero cells of a slice that is built. -/
def zeroPV (n : Nat) (zs : List Value) : List PV := (List.replicate n (zs.map PV.v)).flatten
theorem zero_range {z : Array Value} {n : Nat} (hz : z.size ≠ 0) : ((Array.range (n * z.size)).map fun j => z[j % z.size]!).toList = (List.replicate n z.toList).flatten := by
  apply List.ext_getElem?
  intro j
  have hzl : ∀ e ∈ List.replicate n z.toList, e.length = z.size := fun e he => by rw [(List.mem_replicate.1 he).2, Array.length_toList]
  have hlen : ((List.replicate n z.toList).flatten).length = n * z.size := by simp
  rcases Nat.lt_or_ge j (n * z.size) with h | h
  · have hpos : 0 < z.size := Nat.pos_of_ne_zero hz
    have hm : j % z.size < z.size := Nat.mod_lt _ hpos
    have hd : j / z.size < n := (Nat.div_lt_iff_lt_mul hpos).2 h
    have e : j = j / z.size * z.size + j % z.size := by rw [Nat.mul_comm]; exact (Nat.div_add_mod _ _).symm
    have h5 : z[j % z.size]! = z[j % z.size] := getElem!_pos z (j % z.size) hm
    have hl : ((Array.range (n * z.size)).map fun j => z[j % z.size]!).toList[j]? = some z[j % z.size] := by
      rw [← h5]
      simp [h]
    rw [hl]
    have gen : ∀ (xs : List (List Value)), (∀ e ∈ xs, e.length = z.size) → ∀ i l, xs[i]? = some l → ∀ k, k < z.size → xs.flatten[i * z.size + k]? = l[k]? := by
      intro xs
      induction xs with
      | nil => intro _ i l h; simp at h
      | cons x xs ih =>
        intro hxs i l hi k hk
        have hx := hxs x (List.mem_cons_self ..)
        cases i with
        | zero =>
          simp at hi
          subst hi
          rw [List.flatten_cons, Nat.zero_mul, Nat.zero_add, List.getElem?_append_left (by omega)]
        | succ i =>
          rw [List.flatten_cons, List.getElem?_append_right (by rw [hx, Nat.succ_mul]; omega), hx, show (i + 1) * z.size + k - z.size = i * z.size + k from by rw [Nat.succ_mul]; omega]
          exact ih (fun e he => hxs e (List.mem_cons_of_mem _ he)) i l (by simpa using hi) k hk
    have := gen (List.replicate n z.toList) hzl (j / z.size) z.toList (by rw [List.getElem?_replicate, if_pos hd]) (j % z.size) hm
    rw [← e] at this
    rw [this]
    simp [hm]
  · rw [List.getElem?_eq_none (by simp; omega), List.getElem?_eq_none (by omega)]
theorem zeroPV_rep {w : World} {μ : LMap} {z : Array Value} {n : Nat} : RepL w μ (zeroPV n z.toList) (List.replicate n z.toList).flatten := by
  unfold zeroPV
  induction n with
  | zero => rfl
  | succ n ih =>
    rw [List.replicate_succ, List.replicate_succ, List.flatten_cons, List.flatten_cons]
    exact (RepL.of_lits z.toList).append ih
theorem mem_replicate_flatten {z : List Value} {n : Nat} {u : Value} (h : u ∈ (List.replicate n z).flatten) : u ∈ z := by
  obtain ⟨l, hl, hu⟩ := List.mem_flatten.1 h
  rw [(List.mem_replicate.1 hl).2] at hu
  exact hu
theorem fillP_length {place : Nat → Option (Nat × Nat)} : ∀ {ps : List (Nat × PV)} {cs res : List PV}, fillP place cs ps = some res → res.length = cs.length
  | [], cs, res, h => by injection h with h; subst h; rfl
  | (i, p) :: ps, cs, res, h => by
    rw [fillP] at h
    cases hp : place i with
    | none => rw [hp] at h; cases h
    | some on =>
      obtain ⟨off, n⟩ := on
      rw [hp] at h
      simp only at h
      cases hc : (Nat.beq p.cells.length n && Nat.ble (off + n) cs.length && p.lies) with
      | false => rw [hc] at h; cases h
      | true =>
        rw [hc, cond_true] at h
        rw [fillP_length h, putL_length]
/-- A slice that is built: only read. -/
theorem ok_lit {t e sz bytes n : Nat} {z : Value} {parts : List (Nat × Operand)} {ps : List (Nat × PV)} {cs : List PV} [h : SliceT P t e sz] [hz : ElemT P e z sz bytes] (hps : σ.evP parts = some ps := by rfl) (hcs : fillP (fun i => some (i * sz, sz)) (zeroPV n z.cells.toList) ps = some cs := by rfl) (hcl : closedL cs = true := by rfl)
    (hk : (Nat.ble (n * sz) 16777216 && Nat.beq z.cells.size sz && !Nat.beq sz 0 && z.cells.toList.all Value.oneCell') = true := by rfl) (hd : inB σ dst = true := by rfl) :
    OpOK P ⟨dst, .buildSlice t n parts.toArray, ty, pos, after, guard⟩ σ (.sl sz (chunks sz n cs)) [] := by
  refine ⟨fun σ' hag _ => ⟨fun X w0 a w μ K Q s hK => ?_⟩⟩
  simp only [Bool.and_eq_true, Bool.not_eq_true'] at hk
  obtain ⟨⟨⟨k1, k2⟩, k3⟩, k4⟩ := hk
  rw [Nat.ble_eq] at k1
  have k2' := Nat.eq_of_beq_eq_true k2
  have k3' : sz ≠ 0 := by intro e; subst e; simp at k3
  obtain ⟨e1, e2⟩ := evP_spec (σ := σ) s (fun x hx q hq => hag.ev x (by simpa [Op.operands] using hx) q hq) hps
  have hzr : ((Array.range (n * sz)).map fun j => z.cells[j % z.cells.size]!).toList = (List.replicate n z.cells.toList).flatten := by
    rw [← k2']; exact zero_range (by omega)
  obtain ⟨rv, g1, g2, g3⟩ := fill_of e1 e2 (vs := (Array.range (n * sz)).map fun j => z.cells[j % z.cells.size]!) (by rw [hzr]; exact zeroPV_rep) (by rw [hzr]; exact fun u hu => List.all_eq_true.1 k4 u (mem_replicate_flatten hu)) hcs
  have hrun := run_buildSlice (P := P) (w := w) h.h hz.h (by simpa using k1) k2' k3' g1
  have hclen : cs.length = n * sz := by rw [fillP_length hcs]; unfold zeroPV; simp [← k2']
  have hb := below_alloc w (.cells rv e)
  have hlat := s.later hb
  have hrep : Rep (w.alloc (.cells rv e)) μ (.sl sz (chunks sz n cs)) (.slice (some ⟨w.heap.size, 0, none⟩) n n) := by
    have hn : (chunks sz n cs).length = n := by simp [chunks]
    simp only [Rep]
    rw [hn]
    refine ⟨some ⟨w.heap.size, 0, none⟩, n, rfl, Nat.le_refl _, ?_, ?_⟩
    · unfold maxLen
      have : n * 1 ≤ n * sz := Nat.mul_le_mul_left n (by omega)
      omega
    · refine RepR.of_flat (chunks_len hclen) ?_
      rw [chunks_flat hclen]
      refine RepC.of_cells ?_ (RepL.shuts cs rv.toList hcl (RepL.later hlat _ _ g2)) g3 (fun j u hu => ?_)
      · rw [LMap.shut_owns]
        exact new_not_owned s
      · rw [Nat.zero_add, add_lit, Nat.zero_add, World.cell?_alloc_new]
        simpa using hu
  unfold Oper.wp
  have he : (execOp a.eval ⟨dst, .buildSlice t n parts.toArray, ty, pos, after, guard⟩).run P w = .ok (.value (.slice (some ⟨w.heap.size, 0, none⟩) n n)) (w.alloc (.cells rv e)) := by
    have e3 : (parts.toArray.map fun (x : Nat × Operand) => (x.1, a.eval x.2)) = (parts.map fun (x : Nat × Operand) => (x.1, a.eval x.2)).toArray := by simp
    simp only [execOp, Sem.run_bind]
    rw [e3, hrun]
    rfl
  rw [he]
  exact hK _ _ μ ((s.below hb).put (SimM.nt_inB hag hd) hrep)
/-- A slice that is built: of one's own. -/
theorem ok_litrow {d t e sz bytes n : Nat} {z : Value} {parts : List (Nat × Operand)} {ps : List (Nat × PV)} {cs : List PV} [h : SliceT P t e sz] [hz : ElemT P e z sz bytes] (hps : σ.evP parts = some ps) (hcs : fillP (fun i => some (i * sz, sz)) (zeroPV n z.cells.toList) ps = some cs)
    (hk : (Nat.ble (n * sz) 16777216 && Nat.beq z.cells.size sz && !Nat.beq sz 0 && z.cells.toList.all Value.oneCell') = true) (hd : inB σ (some d) = true) :
    OpOK P ⟨some d, .buildSlice t n parts.toArray, ty, pos, after, guard⟩ σ (.row d 0) [(d, .row e sz 0 (chunks sz n cs))] :=
  OpOK.new rfl hd fun X w0 σ' a w μ hag s => by
    simp only [Bool.and_eq_true, Bool.not_eq_true'] at hk
    obtain ⟨⟨⟨k1, k2⟩, k3⟩, k4⟩ := hk
    rw [Nat.ble_eq] at k1
    have k2' := Nat.eq_of_beq_eq_true k2
    have k3' : sz ≠ 0 := by intro e; subst e; simp at k3
    obtain ⟨e1, e2⟩ := evP_spec (σ := σ) s (fun x hx q hq => hag.ev x (by simpa [Op.operands] using hx) q hq) hps
    have hzr : ((Array.range (n * sz)).map fun j => z.cells[j % z.cells.size]!).toList = (List.replicate n z.cells.toList).flatten := by
      rw [← k2']; exact zero_range (by omega)
    obtain ⟨rv, g1, g2, g3⟩ := fill_of e1 e2 (vs := (Array.range (n * sz)).map fun j => z.cells[j % z.cells.size]!) (by rw [hzr]; exact zeroPV_rep) (by rw [hzr]; exact fun u hu => List.all_eq_true.1 k4 u (mem_replicate_flatten hu)) hcs
    have hrun := run_buildSlice (P := P) (w := w) h.h hz.h (by simpa using k1) k2' k3' g1
    have hclen : cs.length = n * sz := by rw [fillP_length hcs]; unfold zeroPV; simp [← k2']
    refine ⟨.slice (some ⟨w.heap.size, 0, none⟩) n n, w.alloc (.cells rv e), .row (.slice (some ⟨w.heap.size, 0, none⟩) n n) 0, ?_, below_alloc w _, fun g hg => ?_, fun hlat => ⟨⟨_, rv.toList, LMap.set_eq _ _ _, ?_, ?_, chunks_len hclen, g3⟩, ?_⟩⟩
    · have e3 : (parts.toArray.map fun (x : Nat × Operand) => (x.1, a.eval x.2)) = (parts.map fun (x : Nat × Operand) => (x.1, a.eval x.2)).toArray := by simp
      simp only [execOp, Sem.run_bind]
      rw [e3, hrun]
      rfl
    · simp only [LI.block, Value.ownBlock, Option.some.injEq] at hg
      subst hg
      simp
    · have hn : (chunks sz n cs).length = n := by simp [chunks]
      rw [hn]
      refine World.ownsRow_lit w rv n s.keep.size ?_ ?_
      · unfold maxLen
        have : n * 1 ≤ n * sz := Nat.mul_le_mul_left n (by omega)
        omega
      · rw [← Array.length_toList, g2.length, hclen]
    · rw [chunks_flat hclen]
      exact RepL.later hlat _ _ g2
    · simp only [Rep]
      exact ⟨_, 0, LMap.set_eq _ _ _, Nat.le_refl _, rfl, fun _ => rfl⟩
end
end Go.Proofs.Ytlicjlahnbebcaa
