/- Layer 18: tables, plain. -/
import Derived.Test.YtlicjlahnbebcaaW05
import Derived.Test.YtlicjlahnbebcaaPC
namespace Go.Proofs.Ytlicjlahnbebcaa
open Go.RowKit
set_option linter.unusedSimpArgs false
set_option linter.unusedVariables false
theorem part_flatten {α : Type} {n : Nat} : ∀ (m : List (List α)) (i : Nat) (hi : i < m.length), (∀ r ∈ m, r.length = n) → (m.flatten.drop (i * n)).take n = m[i]
  | [], _, hi, _ => by simp at hi
  | a :: m, 0, _, h => by
    have ha := h a (List.mem_cons_self ..)
    rw [List.flatten_cons, Nat.zero_mul, List.drop_zero, List.take_append_of_le_length (by omega), List.take_of_length_le (by omega)]
    rfl
  | a :: m, i + 1, hi, h => by
    have ha := h a (List.mem_cons_self ..)
    rw [List.flatten_cons, show (i + 1) * n = a.length + i * n by rw [Nat.succ_mul, ha, Nat.add_comm], List.drop_length_add_append]
    exact part_flatten m i (by simpa using hi) (fun r hr => h r (List.mem_cons_of_mem _ hr))
theorem set_flatten {α : Type} {n : Nat} {l : List α} (hl : l.length = n) : ∀ (m : List (List α)) (i : Nat) (hi : i < m.length), (∀ r ∈ m, r.length = n) → m.flatten.take (i * n) ++ l ++ m.flatten.drop (i * n + n) = (m.set i l).flatten
  | [], _, hi, _ => by simp at hi
  | a :: m, 0, _, h => by
    have ha := h a (List.mem_cons_self ..)
    subst ha
    simp
  | a :: m, i + 1, hi, h => by
    have ha := h a (List.mem_cons_self ..)
    have ih := set_flatten hl m i (by simpa using hi) (fun r hr => h r (List.mem_cons_of_mem _ hr))
    rw [List.set_cons_succ, List.flatten_cons, List.flatten_cons, ← ih, show (i + 1) * n = a.length + i * n by rw [Nat.succ_mul, ha, Nat.add_comm], List.take_length_add_append, Nat.add_assoc, List.drop_length_add_append]
    simp only [List.append_assoc]
theorem flatten_len {α : Type} {n : Nat} : ∀ (m : List (List α)), (∀ r ∈ m, r.length = n) → m.flatten.length = m.length * n
  | [], _ => by simp
  | a :: m, h => by
    rw [List.flatten_cons, List.length_append, h a (List.mem_cons_self ..), flatten_len m (fun r hr => h r (List.mem_cons_of_mem _ hr)), List.length_cons, Nat.succ_mul, Nat.add_comm]
/-- The rows of a table that is cut out of one list. -/
def rsl (id n : Nat) (i : Nat) : List PV := [.rs id 0 1 (i * n) n]
theorem finL_cut {σ : St} {id rt n : Nat} {flat : List Int} (hb : σ.blk id = some (.row rt 1 0 (flat.map ics))) (hn : 0 < n) : ∀ (l : List Nat), (∀ i ∈ l, i * n + n ≤ flat.length) → FinL σ (l.map (rsl id n)).flatten ((l.map fun i => (flat.drop (i * n)).take n).map rcs).flatten
  | [], _ => .nil
  | i :: l, h => by
    have hi := h i (List.mem_cons_self ..)
    have hf := Fin'.rs (σ := σ) (off := i * n) (len := n) hb (all_map_closed (fun _ => rfl) flat) (by rw [List.length_map]; exact hi) (by intro e; have := congrArg List.length e; simp at this; rw [this] at hi; simp at hi; omega)
    rw [← List.map_drop, ← List.map_take] at hf
    exact FinL.cons hf (finL_cut hb hn l (fun j hj => h j (List.mem_cons_of_mem _ hj)))
theorem cut_table {n : Nat} (m : List (List Int)) (hl : m.length = n) (h : ∀ r ∈ m, r.length = n) : (List.range n).map (fun i => (m.flatten.drop (i * n)).take n) = m := by
  apply List.ext_getElem (by simp [hl])
  intro i h1 h2
  rw [List.getElem_map, List.getElem_range]
  exact part_flatten m i h2 h
/-- A table cut out of one list of one's own, handed back. -/
theorem fin_cut {σ : St} {id id2 rt rt2 n ver : Nat} {m : List (List Int)} (hb : σ.blk id = some (.row rt 1 0 (m.flatten.map ics))) (hb2 : σ.blk id2 = some (.row rt2 1 ver ((List.range n).map (rsl id n)))) (hn : 0 < n) (hl : m.length = n) (h : ∀ r ∈ m, r.length = n) : Fin' σ (.row id2 ver) (PV.tab m) := by
  have hfl := flatten_len m h
  have hf := finL_cut hb hn (List.range n) (fun i hi => by
    rw [hfl, hl]
    have hi := List.mem_range.1 hi
    have : (i + 1) * n ≤ n * n := Nat.mul_le_mul_right _ hi
    rw [Nat.succ_mul] at this
    exact this)
  rw [cut_table m hl h] at hf
  exact Fin'.rowF hb2 hf (by rw [List.length_map, List.length_map, List.length_range, hl]) (fun e he => by obtain ⟨r, _, rfl⟩ := List.mem_map.1 he; rfl)
def tellOk (m : List (List Int)) (n r : Int) (l : List Int) : Bool := tableB m n && (decide (1 ≤ r ∧ r ≤ n) && marksB l n)
def tellT (m : List (List Int)) (n r : Int) (l : List Int) : List (List Int) := if tellOk m n r l = true then m.set (r - 1).toNat (mergeL ((m[(r - 1).toNat]?).getD []) l) else []
def newT (n : Int) : List (List Int) := if manyB n = true then List.replicate n.toNat (List.replicate n.toNat 0) else []
def floorOk (m : List (List Int)) (n r : Int) : Bool := tableB m n && decide (1 ≤ r ∧ r ≤ n)
def colT (m : List (List Int)) (k : Nat) : List Int := m.map fun r => (r[k]?).getD 0
def floorT (m : List (List Int)) (n r : Int) : Int := if floorOk m n r = true then leastI (colT m (r - 1).toNat) else 0
theorem tellOk_parts {m : List (List Int)} {n r : Int} {l : List Int} (h : tellOk m n r l = true) : tableB m n = true ∧ (1 ≤ r ∧ r ≤ n) ∧ marksB l n = true := by
  unfold tellOk at h
  rw [Bool.and_eq_true, Bool.and_eq_true, decide_eq_true_iff] at h
  exact h
theorem tellT_ok {m : List (List Int)} {n r : Int} {l : List Int} (h : tellOk m n r l = true) (hi : (r - 1).toNat < m.length) : tellT m n r l = m.set (r - 1).toNat (mergeL m[(r - 1).toNat] l) := by
  unfold tellT
  rw [if_pos h, List.getElem?_eq_getElem hi]
  rfl
theorem mergeL_len {a b : List Int} (h : a.length = b.length) : (mergeL a b).length = a.length := by
  unfold mergeL
  rw [if_neg (by omega), mergeZ_len]
end Go.Proofs.Ytlicjlahnbebcaa
