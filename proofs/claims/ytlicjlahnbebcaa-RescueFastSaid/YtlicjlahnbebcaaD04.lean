/- Plain words for proposals and what a quorum decides. -/
import Derived.Test.YtlicjlahnbebcaaD03
import Derived.Test.YtlicjlahnbebcaaPC
namespace Go.Proofs.Ytlicjlahnbebcaa
open Go.RowKit
set_option linter.unusedSimpArgs false
set_option linter.unusedVariables false
def propStep (m : List (Int × Int)) (a : Ack) : List (Int × Int) := if a.kind = 1 ∧ lookI m a.fr = none then m ++ [(a.fr, a.t)] else m
def propM (l : List Ack) : List (Int × Int) := l.foldl propStep []
theorem propM_snoc (l : List Ack) (a : Ack) : propM (l ++ [a]) = propStep (propM l) a := by unfold propM; rw [List.foldl_append]; rfl
theorem propM_succ (l : List Ack) (i : Nat) (h : i < l.length) : propM (l.take (i + 1)) = propStep (propM (l.take i)) l[i] := by rw [take_snoc' l i h, propM_snoc]
theorem propM_nodup (l : List Ack) : ((propM l).map Prod.fst).Nodup := by
  refine rev_ind (p := fun l => ((propM l).map Prod.fst).Nodup) List.nodup_nil (fun l a ih => ?_) l
  rw [propM_snoc]
  unfold propStep
  split
  · rename_i h
    rw [List.map_append, List.map_singleton, List.nodup_append]
    refine ⟨ih, by simp, fun x hx y hy => ?_⟩
    rw [List.mem_singleton] at hy
    subst hy
    obtain ⟨e, he, rfl⟩ := List.mem_map.1 hx
    exact lookI_none.1 h.2 e he
  · exact ih
theorem propM_len (l : List Ack) : (propM l).length ≤ l.length := by
  refine rev_ind (p := fun l => (propM l).length ≤ l.length) (Nat.le_refl _) (fun l a ih => ?_) l
  rw [propM_snoc]
  unfold propStep
  split <;> simp <;> omega
/-- The greatest of some, 0 if there is none above. -/
def maxI (l : List Int) : Int := l.foldl max 0
theorem maxI_snoc (l : List Int) (a : Int) : maxI (l ++ [a]) = max (maxI l) a := by unfold maxI; rw [List.foldl_append]; rfl
theorem maxI_spec (l : List Int) : (∀ a ∈ l, a ≤ maxI l) ∧ 0 ≤ maxI l ∧ (0 < maxI l → maxI l ∈ l) := by
  refine rev_ind (p := fun l => (∀ a ∈ l, a ≤ maxI l) ∧ 0 ≤ maxI l ∧ (0 < maxI l → maxI l ∈ l)) ⟨fun _ h => (by cases h), Int.le_refl _, fun h => absurd h (by decide)⟩ (fun l b ih => ?_) l
  obtain ⟨h1, h2, h3⟩ := ih
  rw [maxI_snoc]
  refine ⟨fun a ha => ?_, by omega, fun h => ?_⟩
  · rcases List.mem_append.1 ha with ha | ha
    · have := h1 a ha; omega
    · rw [List.mem_singleton] at ha; subst ha; omega
  · by_cases hb : maxI l ≤ b
    · rw [show max (maxI l) b = b from by omega]
      simp
    · rw [show max (maxI l) b = maxI l from by omega] at h ⊢
      exact List.mem_append_left _ (h3 h)
theorem maxI_eq {l : List Int} {t : Int} (h1 : ∀ a ∈ l, a ≤ t) (h2 : 0 ≤ t) (h3 : 0 < t → t ∈ l) : maxI l = t := by
  obtain ⟨g1, g2, g3⟩ := maxI_spec l
  by_cases h : 0 < t
  · have := g1 t (h3 h)
    by_cases h' : 0 < maxI l
    · have := h1 _ (g3 h'); omega
    · omega
  · by_cases h' : 0 < maxI l
    · have := h1 _ (g3 h'); omega
    · omega
theorem maxI_perm {l m : List Int} (h : ∀ x, x ∈ l ↔ x ∈ m) : maxI l = maxI m := by
  obtain ⟨g1, g2, g3⟩ := maxI_spec m
  exact maxI_eq (fun a ha => g1 a ((h a).1 ha)) g2 fun hp => (h _).2 (g3 hp)
def timeF (l : List Ack) : Int := maxI ((propM l).map Prod.snd)
def cntV (m : List (Int × Int)) (t : Int) : Nat := (m.filter fun x => decide (x.2 = t)).length
def votesF (l : List Ack) : Nat := cntV (propM l) (timeF l)
def readyF (q : Int) (l : List Ack) : Bool := (listS q 9).all (fun r => decide (1 ≤ (lookI (propM l) r).getD 0)) && decide (0 < (listS q 9).length)
/-- What is decided: the time, is it fast, is there one. -/
def decF (f q : Int) (l : List Ack) : Int × Bool × Bool :=
  if readyF q (inQ q l) = true then (timeF (inQ q l), decide (1 ≤ f ∧ f ≤ (votesF (inQ q l) : Int)), true) else (0, false, false)
/-- The values of the entries that were seen. -/
def seenV (m : List (Int × Int)) (s : List Nat) : List Int := s.filterMap fun i => (m[i]?).map Prod.snd
theorem seenV_snoc (m : List (Int × Int)) (s : List Nat) (i : Nat) (e : Int × Int) (h : m[i]? = some e) : seenV m (s ++ [i]) = seenV m s ++ [e.2] := by
  unfold seenV
  rw [List.filterMap_append]
  simp [h]
theorem seenV_all {m : List (Int × Int)} {s : List Nat} (h : ∀ i, i < m.length → i ∈ s) (x : Int) : x ∈ seenV m s ↔ x ∈ m.map Prod.snd := by
  unfold seenV
  rw [List.mem_filterMap, List.mem_map]
  constructor
  · rintro ⟨i, _, he⟩
    cases hm : m[i]? with
    | none => rw [hm] at he; cases he
    | some e =>
      rw [hm] at he
      injection he with he
      exact ⟨e, List.mem_of_getElem? hm, he⟩
  · rintro ⟨e, he, rfl⟩
    obtain ⟨i, hi⟩ := List.getElem?_of_mem he
    exact ⟨i, h i (List.getElem?_eq_some_iff.1 hi).1, by rw [hi]; rfl⟩
theorem nodup_le {s : List Nat} (h : s.Nodup) {n : Nat} (hn : ∀ i ∈ s, i < n) : s.length ≤ n := by
  have := h.length_le_of_subset (l₂ := List.range n) (fun i hi => List.mem_range.2 (hn i hi))
  simpa using this
theorem seen_perm {s : List Nat} (h : s.Nodup) {n : Nat} (hn : ∀ i ∈ s, i < n) (ha : ∀ i, i < n → i ∈ s) : s.Perm (List.range n) :=
  (List.perm_ext_iff_of_nodup h List.nodup_range).2 fun i => ⟨fun hi => List.mem_range.2 (hn i hi), fun hi => ha i (List.mem_range.1 hi)⟩
theorem seenV_range (m : List (Int × Int)) : seenV m (List.range m.length) = m.map Prod.snd := by
  have gen : ∀ n, n ≤ m.length → seenV m (List.range n) = (m.take n).map Prod.snd := by
    intro n
    induction n with
    | zero => intro _; rfl
    | succ n ih =>
      intro h
      rw [List.range_succ, seenV_snoc m _ n m[n] (List.getElem?_eq_getElem (by omega)), ih (by omega), take_snoc' m n (by omega), List.map_append]
      rfl
  rw [gen _ (Nat.le_refl _), List.take_length]
theorem cnt_seen {m : List (Int × Int)} {s : List Nat} (h : s.Nodup) (hn : ∀ i ∈ s, i < m.length) (ha : ∀ i, i < m.length → i ∈ s) (t : Int) : ((seenV m s).filter fun x => decide (x = t)).length = cntV m t := by
  have hp := seen_perm h hn ha
  have h1 : (seenV m s).Perm (m.map Prod.snd) := by rw [← seenV_range]; exact hp.filterMap _
  have h2 := (h1.filter fun x => decide (x = t)).length_eq
  rw [h2]
  unfold cntV
  rw [List.filter_map, List.length_map]
  rfl
end Go.Proofs.Ytlicjlahnbebcaa
