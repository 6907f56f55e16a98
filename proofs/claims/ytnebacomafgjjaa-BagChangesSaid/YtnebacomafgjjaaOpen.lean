/- Arguments that came in, opened: slices of structs, arrays and structs by value. -/
import Derived.Test.YtnebacomafgjjaaBase
import Derived.ProofKit
import Derived.OpenShut
import Derived.Deep.Slices
import Derived.Deep.Fields
namespace Go.Proofs.Ytnebacomafgjjaa
open Go.RowKit Go.ChangeShapes Go.WideShapes Go.Deep
section
variable {H : Type} {enc : TypeId × Value → H} {P : Program} {w : World} {base : Nat} {spare : Nat → Bool} {held : Bool}
/-- The cells of a value of type t read as an element. -/
def CellsOf (P : Program) (w : World) (t : TypeId) {α : Type} (E : Enc α) : Prop :=
  ∀ {H : Type} (enc : TypeId × Value → H) (base : Nat) (spare : Nat → Bool) (held : Bool) (fuel : Nat) (cs : List Value) (x : DataW H × List MemPlace), DataW.trod enc P w base spare held fuel t cs = some x → ∃ a : α, cs = E.cells a
theorem open_sl {α : Type} {E : Enc α} {t e : TypeId} (ht : P.underlying t = some (.slice e)) (hC : P.cellsOf e = E.size) (hel : CellsOf P w e E) {v : Value} {d : DataW H} {p : List MemPlace}
    (hv : ∃ A n c, v = .slice A n c) (h : DataW.Trod enc P w base spare held t v d p) :
    ∃ (A : Option Addr) (c : Nat) (xs : List α), v = .slice A xs.length c ∧ xs.length ≤ c ∧ c ≤ maxLen ∧ Row w A (E.flat xs) := by
  obtain ⟨A, n, c, rfl⟩ := hv
  obtain ⟨fuel, hf⟩ := h
  rcases open_slice ht hf with ⟨hcs, _⟩ | ⟨a, len, cap, m, n', D, Pl, hcs, _, hl, hm, hmm, _, hi⟩
  · simp [Value.cells] at hcs
    obtain ⟨rfl, rfl, rfl⟩ := hcs
    exact ⟨none, 0, [], rfl, Nat.le_refl _, Nat.zero_le _, by unfold Enc.flat; exact Row.nil w none⟩
  · simp [Value.cells] at hcs
    obtain ⟨rfl, rfl, rfl⟩ := hcs
    have hlm : n ≤ m := by rw [hmm]; split <;> omega
    have hel' : ∀ i, i < n → ∃ x : α, ∀ j u, (E.cells x)[j]? = some u → w.cell? (a.add (i * E.size + j)) = some u := by
      intro i hin
      obtain ⟨cs', hc, ht'⟩ := hi i (by omega)
      obtain ⟨x, hx⟩ := hel _ _ _ _ _ _ _ ht'
      rw [hC] at hc
      obtain ⟨_, hcl, hat⟩ := World.cells?_some hc
      refine ⟨x, fun j u hu => ?_⟩
      rw [← hx] at hu
      obtain ⟨hj, hu'⟩ := List.getElem?_eq_some_iff.1 hu
      have h1 := hat j (by omega)
      rw [← add_of_add]
      rw [h1]
      exact hu
    have hlist : ∀ k, k ≤ n → ∃ xs : List α, xs.length = k ∧ Row w (some a) (E.flat xs) := by
      intro k
      induction k with
      | zero => exact fun _ => ⟨[], rfl, by unfold Enc.flat; exact Row.nil w _⟩
      | succ k ih =>
        intro hk
        obtain ⟨xs, hxl, hr⟩ := ih (by omega)
        obtain ⟨x, hx⟩ := hel' k (by omega)
        refine ⟨xs ++ [x], by simp [hxl], fun j u hu => ?_⟩
        rw [E.flat_append, E.flat_one] at hu
        rcases Nat.lt_or_ge j (E.flat xs).length with hj | hj
        · rw [List.getElem?_append_left hj] at hu
          exact hr j u hu
        · rw [List.getElem?_append_right hj, E.flat_length, hxl] at hu
          refine ⟨a, rfl, ?_⟩
          have h2 := hx _ u hu
          rw [E.flat_length, hxl] at hj
          rwa [show k * E.size + (j - k * E.size) = j from by omega] at h2
    obtain ⟨xs, hxl, hr⟩ := hlist n (Nat.le_refl _)
    subst hxl
    exact ⟨some a, c, xs, rfl, hl, hm, hr⟩
/-- A struct's cells, field by field: each field of one cell. -/
theorem open_fields {t : TypeId} {fs : Array Field} {fuel : Nat} {cs : List Value} {x : DataW H × List MemPlace} (he : P.underlying t = some (.struct fs)) (hone : oneCellFields P fs = true) (hC : P.cellsOf t = fs.size) (h : DataW.trod enc P w base spare held fuel t cs = some x) :
    cs.length = fs.size ∧ ∀ (j : Nat) (f : Field), fs[j]? = some f → ∃ (u : Value) (y : DataW H × List MemPlace) (n : Nat), cs[j]? = some u ∧ DataW.trod enc P w base spare held n f.type [u] = some y := by
  obtain ⟨ys, n', hn', hy, hlen, hyl, hf⟩ := DataW.trod_struct he h
  refine ⟨hlen.trans hC, fun j f hj => ?_⟩
  obtain ⟨ho, hk⟩ := hone_of hone j f hj
  have hjl : j < fs.size := (Array.getElem?_eq_some_iff.1 hj).1
  have h1 := hf j f hj
  rw [ho, hk] at h1
  have hone' : (cs.drop j).take 1 = [cs[j]'(by omega)] := by
    rw [List.drop_eq_getElem_cons (by omega)]
    rfl
  rw [hone'] at h1
  have hys : ys[j]? = some (ys[j]'(by omega)) := List.getElem?_eq_getElem (by omega)
  exact ⟨_, _, n', List.getElem?_eq_getElem (by omega), h1.trans hys⟩
theorem okWide_array {t e : TypeId} {n : Nat} {r : Reach} {v : Value} {b0 : Nat} (ht : P.underlying t = some (.array n e)) (h : Value.okWide P w r b0 t v) : ∃ cs, v = .agg cs ∧ cs.size = P.cellsOf t := by
  simp only [Value.okWide, ht] at h
  obtain ⟨cs, h1, h2, _⟩ := h
  exact ⟨cs, h1, h2⟩
/-- An array of ints by value. -/
theorem open_ints_arr {t e : TypeId} {n : Nat} (ht : P.underlying t = some (.array n e)) (he : P.underlying e = some (.int .i64)) (hC : P.cellsOf e = 1) (hCt : P.cellsOf t = n) {fuel : Nat} {cs : List Value} {x : DataW H × List MemPlace} (h : DataW.trod enc P w base spare held fuel t cs = some x) :
    cs.length = n ∧ ∀ j, j < n → ∃ z : Int, cs[j]? = some (.int .i64 z) := by
  obtain ⟨ys, m, _, _, hlen, hyl, hf⟩ := DataW.trod_array ht h
  refine ⟨hlen.trans hCt, fun j hj => ?_⟩
  have h1 := hf j hj
  rw [hC, Nat.mul_one] at h1
  have hl : j < cs.length := by omega
  rw [List.drop_eq_getElem_cons hl] at h1
  have hys : ys[j]? = some (ys[j]'(by omega)) := List.getElem?_eq_getElem (by omega)
  rw [hys] at h1
  obtain ⟨z, hz, _⟩ := DataW.trod_int he h1
  have hz2 : [cs[j]] = [Value.int .i64 z] := hz
  injection hz2 with hz' _
  exact ⟨z, by rw [List.getElem?_eq_getElem hl, hz']⟩
end
end Go.Proofs.Ytnebacomafgjjaa
