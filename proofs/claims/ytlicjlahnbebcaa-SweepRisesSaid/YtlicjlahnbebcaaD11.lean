/- Layer 18: floors and merged rows, plain. -/
import Derived.Test.YtlicjlahnbebcaaD10
namespace Go.Proofs.Ytlicjlahnbebcaa
open Go.RowKit
set_option linter.unusedSimpArgs false
set_option linter.unusedVariables false
theorem foldl_min_le : ∀ (l : List Int) (a : Int), l.foldl min a ≤ a ∧ ∀ x ∈ l, l.foldl min a ≤ x
  | [], a => ⟨Int.le_refl _, fun _ h => by simp at h⟩
  | b :: l, a => by
    obtain ⟨h1, h2⟩ := foldl_min_le l (min a b)
    rw [List.foldl_cons]
    refine ⟨by omega, fun x hx => ?_⟩
    rcases List.mem_cons.1 hx with rfl | hx
    · omega
    · exact h2 x hx
theorem foldl_min_mem : ∀ (l : List Int) (a : Int), l.foldl min a = a ∨ l.foldl min a ∈ l
  | [], a => .inl rfl
  | b :: l, a => by
    rw [List.foldl_cons]
    rcases foldl_min_mem l (min a b) with h | h
    · rw [h]
      rcases Int.le_total a b with hab | hab
      · exact .inl (by omega)
      · exact .inr (List.mem_cons.2 (.inl (by omega)))
    · exact .inr (List.mem_cons_of_mem _ h)
theorem leastI_le {l : List Int} {x : Int} (h : x ∈ l) : leastI l ≤ x := by
  cases l with
  | nil => simp at h
  | cons a l =>
    obtain ⟨h1, h2⟩ := foldl_min_le l a
    rcases List.mem_cons.1 h with rfl | h
    · exact h1
    · exact h2 x h
theorem leastI_mem {l : List Int} (h : l ≠ []) : leastI l ∈ l := by
  cases l with
  | nil => exact absurd rfl h
  | cons a l =>
    rcases foldl_min_mem l a with e | e
    · show l.foldl min a ∈ _
      rw [e]; exact List.mem_cons_self ..
    · exact List.mem_cons_of_mem _ e
theorem mergeZ_at : ∀ (a b : List Int) (k : Nat) (ha : k < a.length) (hb : k < b.length) (hm : k < (mergeZ a b).length), (mergeZ a b)[k] = max a[k] b[k]
  | [], _, _, ha, _, _ => by simp at ha
  | _ :: _, [], _, _, hb, _ => by simp at hb
  | a :: l, b :: m, 0, _, _, _ => rfl
  | a :: l, b :: m, k + 1, ha, hb, hm => by
    show (mergeZ l m)[k]'(by simpa [mergeZ] using hm) = _
    exact mergeZ_at l m k (by simpa using ha) (by simpa using hb) _
theorem mergeL_at {a b : List Int} (h : a.length = b.length) (k : Nat) (ha : k < a.length) (hm : k < (mergeL a b).length) : (mergeL a b)[k] = max a[k] (b[k]'(by omega)) := by
  have e : mergeL a b = mergeZ a b := by unfold mergeL; rw [if_neg (by omega)]
  simp only [e] at hm ⊢
  exact mergeZ_at a b k ha (by omega) hm
theorem mergeL_comm3 {a b c : List Int} (h1 : a.length = b.length) (h2 : a.length = c.length) : mergeL (mergeL a b) c = mergeL (mergeL a c) b := by
  have hab := mergeL_len h1
  have hac := mergeL_len h2
  have e1 : (mergeL (mergeL a b) c).length = _ := mergeL_len (by omega)
  have e2 : (mergeL (mergeL a c) b).length = _ := mergeL_len (by omega)
  apply List.ext_getElem
  · omega
  · intro k hk hk2
    have : k < a.length := by omega
    rw [mergeL_at (a := mergeL a b) (b := c) (by omega) k (by omega) hk, mergeL_at (a := mergeL a c) (b := b) (by omega) k (by omega) hk2, mergeL_at h1 k this (by omega), mergeL_at h2 k this (by omega)]
    omega
theorem mergeL_idem {a b : List Int} (h1 : a.length = b.length) : mergeL (mergeL a b) b = mergeL a b := by
  have hab := mergeL_len h1
  have e1 : (mergeL (mergeL a b) b).length = _ := mergeL_len (by omega)
  apply List.ext_getElem
  · omega
  · intro k hk hk2
    have : k < a.length := by omega
    rw [mergeL_at (a := mergeL a b) (b := b) (by omega) k (by omega) hk, mergeL_at h1 k this (by omega)]
    omega
theorem noneB_iff {t : Int} : noneB t = false ↔ 0 ≤ t ∧ t ≤ 1000000 := by
  unfold noneB
  rw [decide_eq_false_iff_not]
  omega
theorem marks_in {l : List Int} {n : Int} (h : marksB l n = true) : (3 ≤ n ∧ n ≤ 9) ∧ (l.length : Int) = n ∧ ∀ x ∈ l, 0 ≤ x ∧ x ≤ 1000000 := by
  unfold marksB at h
  rw [Bool.and_eq_true, Bool.and_eq_true, decide_eq_true_iff] at h
  refine ⟨by simpa [manyB] using h.1, h.2.1, fun x hx => ?_⟩
  have := h.2.2
  rw [Bool.not_eq_true', List.any_eq_false] at this
  exact noneB_iff.1 (by simpa using this x hx)
theorem marks_of {l : List Int} {n : Int} (h1 : 3 ≤ n ∧ n ≤ 9) (h2 : (l.length : Int) = n) (h3 : ∀ x ∈ l, 0 ≤ x ∧ x ≤ 1000000) : marksB l n = true := by
  unfold marksB
  rw [Bool.and_eq_true, Bool.and_eq_true, decide_eq_true_iff]
  refine ⟨by simpa [manyB] using h1, h2, ?_⟩
  rw [Bool.not_eq_true', List.any_eq_false]
  intro x hx
  rw [noneB_iff.2 (h3 x hx)]
  simp
theorem marks_merge {a b : List Int} {n : Int} (ha : marksB a n = true) (hb : marksB b n = true) : marksB (mergeL a b) n = true := by
  obtain ⟨hn, la, ra⟩ := marks_in ha
  obtain ⟨_, lb, rb⟩ := marks_in hb
  have hl : a.length = b.length := by omega
  refine marks_of hn (by rw [mergeL_len hl]; exact la) (fun x hx => ?_)
  obtain ⟨k, hk, rfl⟩ := List.getElem_of_mem hx
  have hka : k < a.length := by rw [mergeL_len hl] at hk; exact hk
  rw [mergeL_at hl k hka hk]
  have h1 := ra _ (List.getElem_mem hka)
  have h2 := rb _ (List.getElem_mem (show k < b.length by omega))
  omega
theorem table_of {m : List (List Int)} {n : Int} (h1 : 3 ≤ n ∧ n ≤ 9) (h2 : (m.length : Int) = n) (h3 : ∀ r ∈ m, marksB r n = true) : tableB m n = true := by
  unfold tableB
  rw [Bool.and_eq_true, Bool.and_eq_true, decide_eq_true_iff]
  exact ⟨by simpa [manyB] using h1, h2, List.all_eq_true.2 h3⟩
theorem tell_table {m : List (List Int)} {n r : Int} {l : List Int} (h : tellOk m n r l = true) : tableB (tellT m n r l) n = true := by
  obtain ⟨ht, hr, hm⟩ := tellOk_parts h
  obtain ⟨hn, hl, hall⟩ := table_parts ht
  have hi : (r - 1).toNat < m.length := by omega
  rw [tellT_ok h hi]
  refine table_of hn (by rw [List.length_set]; exact hl) (fun x hx => ?_)
  rcases List.mem_or_eq_of_mem_set hx with h1 | rfl
  · exact hall x h1
  · exact marks_merge (hall _ (List.getElem_mem hi)) hm
theorem tell_len {m : List (List Int)} {n r : Int} {l : List Int} (h : tellOk m n r l = true) : (tellT m n r l).length = m.length := by
  obtain ⟨ht, hr, hm⟩ := tellOk_parts h
  obtain ⟨hn, hl, hall⟩ := table_parts ht
  rw [tellT_ok h (by omega), List.length_set]
theorem tellOk_of {m : List (List Int)} {n r : Int} {l : List Int} (h1 : tableB m n = true) (h2 : 1 ≤ r ∧ r ≤ n) (h3 : marksB l n = true) : tellOk m n r l = true := by
  unfold tellOk
  rw [h1, h3, decide_eq_true h2]
  rfl
theorem new_table {n : Int} (h : 3 ≤ n ∧ n ≤ 9) : tableB (newT n) n = true ∧ newT n = List.replicate n.toNat (List.replicate n.toNat 0) := by
  have e : newT n = List.replicate n.toNat (List.replicate n.toNat 0) := if_pos (by simpa [manyB] using h)
  refine ⟨?_, e⟩
  rw [e]
  refine table_of h (by rw [List.length_replicate]; omega) (fun r hr => ?_)
  rw [(List.mem_replicate.1 hr).2]
  refine marks_of h (by rw [List.length_replicate]; omega) (fun x hx => ?_)
  rw [(List.mem_replicate.1 hx).2]
  omega
/-- A table in whose first row all is 0. -/
def zeroRow (z : List (List Int)) (n : Int) : Prop := tableB z n = true ∧ z[0]? = some (List.replicate n.toNat 0)
theorem zeroRow_new {n : Int} (h : 3 ≤ n ∧ n ≤ 9) : zeroRow (newT n) n := by
  obtain ⟨h1, h2⟩ := new_table h
  refine ⟨h1, ?_⟩
  rw [h2, List.getElem?_replicate, if_pos (by omega)]
theorem zeroRow_tell {z : List (List Int)} {n r : Int} {l : List Int} (h : zeroRow z n) (hr : 2 ≤ r ∧ r ≤ n) (hm : marksB l n = true) : tellOk z n r l = true ∧ zeroRow (tellT z n r l) n := by
  have ho := tellOk_of h.1 (r := r) (by omega) hm
  obtain ⟨hn, hl, hall⟩ := table_parts h.1
  refine ⟨ho, tell_table ho, ?_⟩
  rw [tellT_ok ho (by omega), List.getElem?_set_ne (by omega)]
  exact h.2
theorem zeroRow_floor {z : List (List Int)} {n s : Int} (h : zeroRow z n) (hs : 1 ≤ s ∧ s ≤ n) : floorT z n s = 0 := by
  obtain ⟨hn, hl, hall⟩ := table_parts h.1
  unfold floorT floorOk
  rw [if_pos (by rw [h.1, decide_eq_true hs]; rfl)]
  have hmem : (0 : Int) ∈ colT z (s - 1).toNat := by
    refine List.mem_map.2 ⟨List.replicate n.toNat 0, List.mem_of_getElem? h.2, ?_⟩
    rw [List.getElem?_replicate, if_pos (by omega)]
    rfl
  have h1 := leastI_le hmem
  have h2 : leastI (colT z (s - 1).toNat) ∈ colT z (s - 1).toNat := leastI_mem (by intro e; rw [e] at hmem; simp at hmem)
  obtain ⟨r, hr, e⟩ := List.mem_map.1 h2
  have hrl := (marks_in (hall r hr)).2
  have hk : (s - 1).toNat < r.length := by omega
  rw [List.getElem?_eq_getElem hk] at e
  have := hrl.2 _ (List.getElem_mem hk)
  simp only [Option.getD_some] at e
  omega
theorem floor_le {m : List (List Int)} {n s : Int} (h : tableB m n = true) (hs : 1 ≤ s ∧ s ≤ n) (i : Nat) (hi : i < m.length) (hk : (s - 1).toNat < m[i].length) : floorT m n s ≤ m[i][(s - 1).toNat] := by
  unfold floorT floorOk
  rw [if_pos (by rw [h, decide_eq_true hs]; rfl)]
  refine leastI_le (List.mem_map.2 ⟨m[i], List.getElem_mem hi, ?_⟩)
  rw [List.getElem?_eq_getElem hk]
  rfl
theorem floor_mem {m : List (List Int)} {n s : Int} (h : tableB m n = true) (hs : 1 ≤ s ∧ s ≤ n) : ∃ (i : Nat) (hi : i < m.length) (hk : (s - 1).toNat < m[i].length), m[i][(s - 1).toNat] = floorT m n s := by
  obtain ⟨hn, hl, hall⟩ := table_parts h
  unfold floorT floorOk
  rw [if_pos (by rw [h, decide_eq_true hs]; rfl)]
  have h2 : leastI (colT m (s - 1).toNat) ∈ colT m (s - 1).toNat := leastI_mem (by intro e; have := congrArg List.length e; rw [colT, List.length_map, List.length_nil] at this; omega)
  obtain ⟨r, hr, e⟩ := List.mem_map.1 h2
  obtain ⟨i, hi, rfl⟩ := List.getElem_of_mem hr
  have hk : (s - 1).toNat < m[i].length := by have := marks_len (hall _ hr); omega
  rw [List.getElem?_eq_getElem hk] at e
  exact ⟨i, hi, hk, e⟩
/-- No row goes back. -/
def risesT (m b : List (List Int)) : Prop := ∀ (i : Nat) (hi : i < m.length) (hb : i < b.length) (k : Nat) (hk : k < m[i].length) (hk2 : k < b[i].length), m[i][k] ≤ b[i][k]
theorem rises_tell {m : List (List Int)} {n r : Int} {l : List Int} (h : tellOk m n r l = true) : risesT m (tellT m n r l) := by
  obtain ⟨ht, hr, hm⟩ := tellOk_parts h
  obtain ⟨hn, hl, hall⟩ := table_parts ht
  have hi0 : (r - 1).toNat < m.length := by omega
  intro i hi hb k hk hk2
  simp only [tellT_ok h hi0] at hk2 hb ⊢
  by_cases he : (r - 1).toNat = i
  · subst he
    have h1 : m[(r - 1).toNat].length = l.length := by have := marks_len hm; have := marks_len (hall _ (List.getElem_mem hi0)); omega
    simp only [List.getElem_set_self] at hk2 ⊢
    rw [mergeL_at h1 k hk hk2]
    omega
  · simp only [List.getElem_set_ne he] at hk2 ⊢
    exact Int.le_refl _
theorem rises_trans {m b c : List (List Int)} {n : Int} (hm : tableB m n = true) (hb : tableB b n = true) (h1 : risesT m b) (h2 : risesT b c) : risesT m c := by
  obtain ⟨_, l1, a1⟩ := table_parts hm
  obtain ⟨_, l2, a2⟩ := table_parts hb
  intro i hi hc k hk hk2
  have hib : i < b.length := by omega
  have hkb : k < b[i].length := by have := marks_len (a1 _ (List.getElem_mem hi)); have := marks_len (a2 _ (List.getElem_mem hib)); omega
  exact Int.le_trans (h1 i hi hib k hk hkb) (h2 i hib hc k hkb hk2)
theorem rises_floor {m b : List (List Int)} {n s : Int} (hm : tableB m n = true) (hb : tableB b n = true) (h : risesT m b) (hs : 1 ≤ s ∧ s ≤ n) : floorT m n s ≤ floorT b n s := by
  obtain ⟨i, hi, hk, e⟩ := floor_mem hb hs
  obtain ⟨_, l1, a1⟩ := table_parts hm
  obtain ⟨_, l2, a2⟩ := table_parts hb
  have him : i < m.length := by omega
  have hkm : (s - 1).toNat < m[i].length := by have := marks_len (a1 _ (List.getElem_mem him)); omega
  have := floor_le hm hs i him hkm
  have := h i him hi _ hkm hk
  omega
theorem tell_swap {m : List (List Int)} {n r s : Int} {x y : List Int} (h1 : tellOk m n r x = true) (h2 : tellOk (tellT m n r x) n s y = true) : tellOk m n s y = true ∧ tellOk (tellT m n s y) n r x = true ∧ tellT (tellT m n r x) n s y = tellT (tellT m n s y) n r x := by
  obtain ⟨ht, hr, hx⟩ := tellOk_parts h1
  obtain ⟨_, hs, hy⟩ := tellOk_parts h2
  have h3 := tellOk_of ht hs hy
  have h4 := tellOk_of (tell_table h3) hr hx
  obtain ⟨hn, hl, hall⟩ := table_parts ht
  have ir : (r - 1).toNat < m.length := by omega
  have is' : (s - 1).toNat < m.length := by omega
  refine ⟨h3, h4, ?_⟩
  rw [tellT_ok h2 (by rw [tell_len h1]; exact is'), tellT_ok h4 (by rw [tell_len h3]; exact ir)]
  simp only [tellT_ok h1 ir, tellT_ok h3 is']
  by_cases he : (r - 1).toNat = (s - 1).toNat
  · simp only [he, List.getElem_set_self, List.set_set]
    have l0 := marks_len (hall _ (List.getElem_mem is'))
    have lx := marks_len hx
    have ly := marks_len hy
    rw [mergeL_comm3 (by omega) (by omega)]
  · rw [List.getElem_set_ne he, List.getElem_set_ne (fun e => he e.symm), List.set_comm _ _ he]
theorem tell_again {m : List (List Int)} {n r s : Int} {x y : List Int} (h1 : tellOk m n r x = true) (h2 : tellOk (tellT m n r x) n s y = true) : tellOk (tellT (tellT m n r x) n s y) n r x = true ∧ tellT (tellT (tellT m n r x) n s y) n r x = tellT (tellT m n r x) n s y := by
  obtain ⟨h3, h4, e⟩ := tell_swap h1 h2
  obtain ⟨ht, hr, hx⟩ := tellOk_parts h1
  have h5 := tellOk_of (tell_table h2) hr hx
  refine ⟨h5, ?_⟩
  obtain ⟨hn, hl, hall⟩ := table_parts (tell_table h3)
  have ir : (r - 1).toNat < (tellT m n s y).length := by omega
  rw [tellT_ok h5 (by rw [e, tell_len h4]; exact ir)]
  simp only [e, tellT_ok h4 ir, List.getElem_set_self, List.set_set]
  rw [mergeL_idem (by have := marks_len (hall _ (List.getElem_mem ir)); have := marks_len hx; omega)]
end Go.Proofs.Ytlicjlahnbebcaa
