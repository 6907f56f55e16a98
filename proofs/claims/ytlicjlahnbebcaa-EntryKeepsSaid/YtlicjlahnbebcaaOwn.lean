/- Rows of the call's own that are written: many cells at once, a prefix, zeroes. -/
import Derived.Test.YtlicjlahnbebcaaBase
import Derived.Laws.IdiomCopy
import Derived.Lib.SliceRun
namespace Go.Proofs.Ytlicjlahnbebcaa
open Go.RowKit

/-- xs with vs laid over it from place o on. -/
def putAll : List Value → Nat → List Value → List Value
  | xs, _, [] => xs
  | xs, o, v :: r => putAll (xs.set o v) (o + 1) r
theorem putAll_length : ∀ (vs xs : List Value) (o : Nat), (putAll xs o vs).length = xs.length
  | [], _, _ => rfl
  | v :: r, xs, o => by
    show (putAll (xs.set o v) (o + 1) r).length = _
    rw [putAll_length, List.length_set]
theorem putAll_cons (u : Value) : ∀ (vs xs : List Value) (o : Nat), putAll (u :: xs) (o + 1) vs = u :: putAll xs o vs
  | [], _, _ => rfl
  | v :: r, xs, o => by
    show putAll ((u :: xs).set (o + 1) v) (o + 1 + 1) r = u :: putAll (xs.set o v) (o + 1) r
    rw [List.set_cons_succ, putAll_cons u r]
theorem putAll_append (us : List Value) : ∀ (vs xs : List Value) (o : Nat), putAll (us ++ xs) (us.length + o) vs = us ++ putAll xs o vs := by
  induction us with
  | nil => intro vs xs o; simp
  | cons u l ih =>
    intro vs xs o
    rw [List.cons_append, List.length_cons, show l.length + 1 + o = l.length + o + 1 from by omega, putAll_cons, ih]
    rfl
theorem putAll_zero : ∀ (vs us xs : List Value), us.length = vs.length → putAll (us ++ xs) 0 vs = vs ++ xs
  | [], us, xs, h => by
    have : us = [] := List.eq_nil_of_length_eq_zero h
    subst this
    rfl
  | v :: r, [], xs, h => by simp at h
  | v :: r, u :: l, xs, h => by
    show putAll ((u :: (l ++ xs)).set 0 v) (0 + 1) r = _
    rw [List.set_cons_zero, putAll_cons, putAll_zero r l xs (by simpa using h)]
    rfl
theorem putAll_take : ∀ (vs xs : List Value) (o m : Nat), m ≤ o → (putAll xs o vs).take m = xs.take m
  | [], _, _, _, _ => rfl
  | v :: r, xs, o, m, h => by
    show (putAll (xs.set o v) (o + 1) r).take m = _
    rw [putAll_take r _ _ m (by omega), List.take_set, List.set_eq_of_length_le (by rw [List.length_take]; omega)]
section
variable {α : Type} (E : Enc α)
theorem Enc.flat_put : ∀ (zs : List α) (a : Nat) (x : α), a < zs.length → putAll (E.flat zs) (a * E.size) (E.cells x) = E.flat (zs.set a x)
  | [], a, x, h => by simp at h
  | z :: l, 0, x, _ => by
    unfold Enc.flat
    rw [Nat.zero_mul, List.flatMap_cons, List.set_cons_zero, List.flatMap_cons]
    exact putAll_zero _ _ _ (by rw [E.len, E.len])
  | z :: l, a + 1, x, h => by
    have ih := Enc.flat_put l a x (by simpa using h)
    unfold Enc.flat at ih ⊢
    rw [List.flatMap_cons, List.set_cons_succ, List.flatMap_cons, Nat.succ_mul, Nat.add_comm (a * E.size), ← E.len z, putAll_append, E.len z, ih]
theorem Enc.flat_take : ∀ (zs : List α) (a : Nat), (E.flat zs).take (a * E.size) = E.flat (zs.take a)
  | [], a => by simp [Enc.flat]
  | z :: l, 0 => by simp [Enc.flat]
  | z :: l, a + 1 => by
    have ih := Enc.flat_take l a
    unfold Enc.flat at ih ⊢
    rw [List.flatMap_cons, List.take_succ_cons, List.flatMap_cons, ← ih, Nat.succ_mul, Nat.add_comm, ← E.len z, List.take_length_add_append, E.len z]
end

theorem filter_take_succ {α : Type} (p : α → Bool) (xs : List α) (b : Nat) (h : b < xs.length) : (xs.take (b + 1)).filter p = (xs.take b).filter p ++ (if p xs[b] then [xs[b]] else []) := by
  rw [List.take_succ_eq_append_getElem h, List.filter_append]
  congr 1
  by_cases hp : p xs[b] = true
  · rw [if_pos hp, List.filter_cons_of_pos hp, List.filter_nil]
  · rw [if_neg hp, List.filter_cons_of_neg hp, List.filter_nil]
theorem drop_set_lt {α : Type} (xs : List α) (a b : Nat) (x : α) (h : a < b) : (xs.set a x).drop b = xs.drop b := by
  rw [List.drop_set, if_pos h]
theorem take_set_at {α : Type} (xs : List α) (a : Nat) (x : α) (h : a < xs.length) : (xs.set a x).take (a + 1) = xs.take a ++ [x] := by
  rw [List.take_succ_eq_append_getElem (by rw [List.length_set]; exact h), List.take_set, List.getElem_set_self, List.set_eq_of_length_le (by rw [List.length_take]; omega)]
theorem getElem_of_drop {α : Type} {xs zs : List α} {b : Nat} (h : zs.drop b = xs.drop b) (hz : b < zs.length) (hx : b < xs.length) : zs[b] = xs[b] ∧ zs.drop (b + 1) = xs.drop (b + 1) := by
  rw [List.drop_eq_getElem_cons hz, List.drop_eq_getElem_cons hx] at h
  injection h with h1 h2
  exact ⟨h1, h2⟩
section
variable {w wx : World} {base : Nat} {e : TypeId} {size g n cap : Nat} {xs : List Value}
theorem own_later (h : w.ownsRow base e size (.slice (some ⟨g, 0, none⟩) n cap) n xs) (hb : Below w.heap.size w wx) : wx.ownsRow base e size (.slice (some ⟨g, 0, none⟩) n cap) n xs := by
  obtain ⟨h1, h2⟩ := h
  refine ⟨h1, ?_⟩
  rcases h2 with h2 | ⟨g', cap', cur, hv, hb', hh, h3, h4, h5, h6⟩
  · exact .inl h2
  · exact .inr ⟨g', cap', cur, hv, hb', (hb.block g' (Array.getElem?_eq_some_iff.1 hh).1).trans hh, h3, h4, h5, h6⟩
theorem own_later' {v : Value} (h : w.ownsRow base e size v n xs) (hb : Below w.heap.size w wx) : wx.ownsRow base e size v n xs := by
  obtain ⟨h1, h2⟩ := h
  refine ⟨h1, ?_⟩
  rcases h2 with h2 | ⟨g', cap', cur, hv, hb', hh, h3, h4, h5, h6⟩
  · exact .inl h2
  · exact .inr ⟨g', cap', cur, hv, hb', (hb.block g' (Array.getElem?_eq_some_iff.1 hh).1).trans hh, h3, h4, h5, h6⟩
theorem own_put : ∀ (vs : List Value) (o : Nat) (w : World) (xs : List Value), w.ownsRow base e size (.slice (some ⟨g, 0, none⟩) n cap) n xs → (w.setCells g o vs).ownsRow base e size (.slice (some ⟨g, 0, none⟩) n cap) n (putAll xs o vs)
  | [], _, _, _, h => h
  | v :: r, o, w, xs, h => own_put r (o + 1) _ _ (h.stored o v).1
theorem own_cut (h : w.ownsRow base e size (.slice (some ⟨g, 0, none⟩) n cap) n xs) {m : Nat} (hm : m ≤ n) : w.ownsRow base e size (.slice (some ⟨g, 0, none⟩) m cap) m (xs.take (m * size)) := by
  obtain ⟨h1, h2⟩ := h
  have hms : m * size ≤ n * size := Nat.mul_le_mul_right _ hm
  refine ⟨by rw [List.length_take, h1]; omega, ?_⟩
  rcases h2 with ⟨hv, _⟩ | ⟨g', cap', cur, hv, hb', hh, h3, h4, h5, h6⟩
  · cases hv
  · injection hv with hv1 _ hv3
    subst hv3
    refine .inr ⟨g', cap, cur, by rw [hv1], hb', hh, Nat.le_trans hm h3, h4, h5, ?_⟩
    rw [← h6, List.take_take, Nat.min_eq_left hms]
theorem below_setCells {B : Nat} {a : World} : ∀ (vs : List Value) (o : Nat) (w : World), Below B a w → B ≤ g → Below B a (w.setCells g o vs)
  | [], _, _, h, _ => h
  | v :: r, o, w, h, hg => below_setCells r (o + 1) _ (h.setCell (p := ⟨g, o, none⟩) hg v) hg
theorem own_block (h : w.ownsRow base e size (.slice (some ⟨g, 0, none⟩) n cap) n xs) : base ≤ g ∧ g < w.heap.size := h.lt g rfl
theorem zeroCells_one (z : Value) (n : Nat) (h1 : ∀ u ∈ z.cells.toList, u.oneCell' = true) : ∀ u ∈ (Builtin.zeroCells z.cells n).toList, u.oneCell' = true := by
  intro u hu
  unfold Builtin.zeroCells at hu
  rw [Array.mem_toList_iff, Array.mem_map] at hu
  obtain ⟨i, hi, rfl⟩ := hu
  rw [Array.mem_range] at hi
  have hz : 0 < z.cells.size := by
    rcases Nat.eq_zero_or_pos z.cells.size with h | h
    · rw [h, Nat.mul_zero] at hi; omega
    · exact h
  have hm : i % z.cells.size < z.cells.size := Nat.mod_lt _ hz
  rw [getElem!_pos z.cells _ hm]
  exact h1 _ (Array.mem_toList_iff.2 (Array.getElem_mem hm))
theorem run_clear_row {P : Program} (w : World) (t e ty : TypeId) (z : Value) (ht : P.underlying t = some (.slice e)) (hv : ∀ w, (zeroValue e).run P w = .ok z w) (h1 : ∀ u ∈ z.cells.toList, u.oneCell' = true) (b o n c : Nat) (hn : 0 < n)
    (hc : ∀ j, j < n * z.cells.size → (w.cell? ⟨b, o + j, none⟩).isSome = true) (hf : ∀ j, j < n * z.cells.size → w.frozen? ⟨b, o + j, none⟩ = false) :
    (Builtin.clear_ #[t] ty #[.slice (some ⟨b, o, none⟩) n c]).run P w = .ok (.tuple #[]) (w.setCells b o (Builtin.zeroCells z.cells n).toList) := by
  have hlen : (Builtin.zeroCells z.cells n).toList.length = n * z.cells.size := by rw [Array.length_toList, size_zeroCells]
  have hst := run_storeCells_cells (P := P) b o (Builtin.zeroCells z.cells n).toList 0 w (fun j hj => by simpa using hc j (by rw [← hlen]; exact hj)) (fun j hj => by simpa using hf j (by rw [← hlen]; exact hj)) (zeroCells_one z n h1)
  simp only [Nat.add_zero] at hst
  obtain ⟨m, rfl⟩ : ∃ m, n = m + 1 := ⟨n - 1, by omega⟩
  simp [Builtin.clear_, run_underlying ht, hv, hst]
end
end Go.Proofs.Ytlicjlahnbebcaa
