/- What a rescue takes of a play's answers. -/
import Derived.Test.YtlicjlahnbebcaaD07
namespace Go.Proofs.Ytlicjlahnbebcaa
open Go.RowKit
set_option linter.unusedSimpArgs false
set_option linter.unusedVariables false
theorem nodup_take {l : List Ack} (h : (l.map Ack.fr).Nodup) (j : Nat) (hj : j < l.length) : l[j].fr ∉ (l.take j).map Ack.fr := by
  have h1 : ((l.take (j + 1)).map Ack.fr).Nodup := h.sublist ((List.take_sublist _ _).map _)
  rw [take_snoc' l j hj, List.map_append, List.map_singleton, List.nodup_append] at h1
  intro hm
  exact h1.2.2 _ hm _ (by simp) rfl
theorem self_ten {c : Int} (h : 1 ≤ c ∧ c ≤ 9) : selfI (10 + c) = c := by
  unfold selfI idB
  rw [if_pos]
  · omega
  · simp
    omega
theorem anT_ge {q c t : Int} {ab ot : List Int} (ht : 1 ≤ t) (ha : ∀ x ∈ ab, 0 ≤ x ∧ x ≤ 255) (ho : ∀ x ∈ ot, 0 ≤ x ∧ x ≤ 255) (r : Int) : 1 ≤ anT q c t ab ot r ∧ (hasB q r = true → t ≤ anT q c t ab ot r) := by
  have gd : ∀ {u : List Int}, (∀ x ∈ u, 0 ≤ x ∧ x ≤ 255) → ∀ i, 0 ≤ u.getD i 0 := fun hu i => by
    rw [List.getD_eq_getElem?_getD]
    cases h : (_ : List Int)[i]? with
    | none => exact Int.le_refl _
    | some x => exact (hu x (List.mem_of_getElem? h)).1
  have h1 := gd ha (r - 1).toNat
  have h2 := gd ho (r - 1).toNat
  unfold anT
  by_cases hq : hasB q r = true
  · rw [if_pos hq]
    split <;> omega
  · rw [if_neg hq]
    exact ⟨by omega, fun h => absurd h hq⟩
/-- What a rescue takes. -/
theorem play_choose {n f c q t s x : Int} {ab ot : List Int} {co : Bool} {l : List Ack} (hS : sizeB n f = true) (hc : 1 ≤ c ∧ c ≤ n) (ht : 1 ≤ t) (ha : ∀ x ∈ ab, 0 ≤ x ∧ x ≤ 255) (ho : ∀ x ∈ ot, 0 ≤ x ∧ x ≤ 255)
    (hqc : hasB q c = true) (hql : ((listS q 9).length : Int) = n / 2 + f) (hqn : listS q n.toNat = listS q 9) (hs : s = if co = true then f else f - 1) (hI : AnInv co c q s (anA n q c t ab ot) n.toNat (x, l)) :
    chooseR n f q (10 + c) l = (if co = true then greatI l else greatI (inQ q l), 0) ∧ n - f ≤ (l.length : Int) ∧ (co = false → n / 2 ≤ ((inQ q l).length : Int)) ∧ (∀ a ∈ inQ q l, t ≤ a.t) := by
  have hn := sizeB_iff.1 hS
  obtain ⟨lo, hi, nd, at', len, cnt, yes, no⟩ := hI
  dsimp only at lo hi nd at' len cnt yes no
  have hcn : (n.toNat : Int) = n := by omega
  rw [hcn] at len yes
  have hA : ∀ a ∈ l, a.kind = 3 ∧ 1 ≤ a.fr ∧ a.fr ≤ n ∧ 1 ≤ a.t ∧ a.abal = 0 ∧ (hasB q a.fr = true → t ≤ a.t ∧ a.phase = 3) := fun a hm => by
    obtain ⟨a1, a2, a3⟩ := at' a hm
    have g := anT_ge (q := q) (c := c) ht ha ho a.fr
    generalize a.fr = r at *
    subst a3
    refine ⟨rfl, a1, by omega, g.1, rfl, fun h => ⟨g.2 h, ?_⟩⟩
    show (if hasB q r = true then (3 : Int) else 4) = 3
    rw [if_pos h]
  have hlen : n - f ≤ (l.length : Int) := by
    cases co with
    | true => rw [if_pos rfl] at hs; rw [if_neg (by simp)] at len; omega
    | false => rw [if_neg (by simp)] at hs; rw [if_pos ⟨rfl, hc⟩] at len; omega
  have hr : readyB n f l = true := readyB_iff.2 ⟨hS, fun j hj _ => by
    obtain ⟨b1, b2, b3, b4, -⟩ := hA _ (List.getElem_mem hj)
    exact ⟨mayA_iff.2 ⟨b1, b2, b3, b4⟩, nodup_take nd j hj⟩, hlen⟩
  have ht0 : ¬ 0 < (toldF l).1 := fun h => by
    obtain ⟨a, hm, e, -⟩ := (toldF_spec l).2.2 h
    have := (hA a hm).2.2.2.2.1
    omega
  have hlost : lostB q c l = co := by
    cases co with
    | true =>
      obtain ⟨a, hm, e⟩ := List.mem_map.1 (yes rfl hc.1 hc.2)
      refine List.any_eq_true.2 ⟨a, hm, ?_⟩
      unfold lostOf
      rw [e, hqc, decide_eq_true (.inl rfl)]
      rfl
    | false =>
      unfold lostB
      rw [List.any_eq_false]
      intro a hm h
      unfold lostOf at h
      rw [Bool.and_eq_true, decide_eq_true_iff] at h
      rcases h with ⟨h1, h2 | h2⟩
      · exact no rfl (List.mem_map.2 ⟨a, hm, h2⟩)
      · have := ((hA a hm).2.2.2.2.2 h1).2
        omega
  have hin : co = false → n / 2 ≤ ((inQ q l).length : Int) := fun e => by
    subst e
    rw [if_neg (by simp)] at hs
    have h1 := cnt fun _ => true
    have h2 := filter_but (listS_nodup q n.toNat) (fun _ => true) c
    rw [if_pos rfl] at h2
    rw [hqn] at h1 h2
    have e1 : ((listS q 9).filter fun _ => true).length = (listS q 9).length := congrArg List.length (List.filter_eq_self.2 fun _ _ => rfl)
    have e2 : (l.filter fun a => hasB q a.fr && true) = inQ q l := by
      unfold inQ
      simp only [Bool.and_true]
    rw [e1] at h2
    rw [e2] at h1
    omega
  refine ⟨?_, hlen, hin, fun a hm => ?_⟩
  · unfold chooseR
    rw [self_ten ⟨hc.1, by omega⟩, if_pos ⟨hr, by omega, hc.1, hc.2⟩, if_neg ht0]
    cases co with
    | true => rw [if_pos hlost, if_pos rfl]
    | false =>
      rw [if_neg (by rw [hlost]; simp), if_neg (fun h => ?_), if_neg (by simp)]
      have := hin rfl
      rw [h] at this
      simp at this
      omega
  · obtain ⟨h1, h2⟩ := List.mem_filter.1 hm
    exact ((hA a h1).2.2.2.2.2 h2).1
/-- As many have no proposal above it as a majority has. -/
theorem play_most {n f t x : Int} {co : Bool} {q : Int} {l : List Ack} (hn : 3 ≤ n ∧ n ≤ 9 ∧ 1 ≤ f ∧ 2 * f ≤ n - 1) (hx : x = if co = true then greatI l else greatI (inQ q l)) (h1 : n - f ≤ (l.length : Int)) (h2 : co = false → n / 2 ≤ ((inQ q l).length : Int)) (h3 : ∀ a ∈ inQ q l, t ≤ a.t) :
    n / 2 + 1 ≤ ((l.filter fun a => decide (a.t ≤ x)).length : Int) + (if co = false ∧ t ≤ x then 1 else 0) := by
  cases co with
  | true =>
    rw [if_pos rfl] at hx
    have e : (l.filter fun a => decide (a.t ≤ x)) = l := List.filter_eq_self.2 fun a ha => decide_eq_true (by rw [hx]; exact greatI_ge ha)
    rw [e, if_neg (by simp)]
    omega
  | false =>
    rw [if_neg (by simp)] at hx
    have h2 := h2 rfl
    have hsub : (inQ q l).length ≤ (l.filter fun a => decide (a.t ≤ x)).length := by
      have e : inQ q l = (l.filter fun a => decide (a.t ≤ x)).filter fun a => hasB q a.fr := by
        rw [List.filter_filter]
        unfold inQ
        refine List.filter_congr fun a ha => ?_
        cases hq : hasB q a.fr with
        | false => rfl
        | true =>
          have : a.t ≤ x := by rw [hx]; exact greatI_ge (List.mem_filter.2 ⟨ha, hq⟩)
          rw [decide_eq_true this]; rfl
      have := List.length_filter_le (fun a : Ack => hasB q a.fr) (l.filter fun a => decide (a.t ≤ x))
      rw [← e] at this
      exact this
    obtain ⟨a, ha⟩ := List.exists_mem_of_length_pos (l := inQ q l) (by omega)
    have h4 := h3 a ha
    have h5 := greatI_ge ha
    rw [if_pos ⟨rfl, by omega⟩]
    omega
end Go.Proofs.Ytlicjlahnbebcaa
