/- Plain facts on promises: what a proposal keeps, and that no two have one time. -/
import Derived.Test.YtnebacomafgjjaaClock5
namespace Go.Proofs.Ytnebacomafgjjaa
open Go.RowKit

theorem attsFrom_mono : ∀ (l : List Att) (now now' last : Int) (seen : List Int), now ≤ now' → attsFrom now last seen l = true → attsFrom now' last seen l = true
  | [], _, _, _, _, _, _ => rfl
  | a :: l, now, now', last, seen, hn, h => by
    simp only [attsFrom, Bool.and_eq_true, decide_eq_true_iff] at h ⊢
    obtain ⟨h1, h2, h3, h4, h5⟩ := h
    exact ⟨h1, by omega, h3, h4, attsFrom_mono l now now' a.T (a.Id :: seen) hn h5⟩
theorem attsFrom_snoc : ∀ (l : List Att) (now last : Int) (seen : List Int) (t id : Int), last ≤ now → now < t → idOk id = true → id ∉ seen → id ∉ l.map Att.Id → attsFrom now last seen l = true → attsFrom t last seen (l ++ [⟨t, id⟩]) = true
  | [], now, last, seen, t, id, hl, ht, hid, hs, _, _ => by
    simp only [List.nil_append, attsFrom, Bool.and_eq_true, decide_eq_true_iff]
    exact ⟨by omega, by omega, hid, by rw [decide_eq_false hs]; rfl, trivial⟩
  | a :: l, now, last, seen, t, id, hl, ht, hid, hs, hn, h => by
    simp only [attsFrom, Bool.and_eq_true, decide_eq_true_iff] at h
    obtain ⟨h1, h2, h3, h4, h5⟩ := h
    rw [List.map_cons, List.mem_cons] at hn
    simp only [List.cons_append, attsFrom, Bool.and_eq_true, decide_eq_true_iff]
    exact ⟨h1, by omega, h3, h4, attsFrom_snoc l now a.T (a.Id :: seen) t id (by omega) ht hid (by rw [List.mem_cons]; exact fun e => e.elim (fun e => hn (.inl e)) hs) (fun e => hn (.inr e)) h5⟩
theorem attsFrom_gt : ∀ (l : List Att) (now last : Int) (seen : List Int), attsFrom now last seen l = true → ∀ a ∈ l, last < a.T
  | [], _, _, _, _ => fun a h => by cases h
  | b :: l, now, last, seen, h => by
    simp only [attsFrom, Bool.and_eq_true, decide_eq_true_iff] at h
    obtain ⟨h1, h2, h3, h4, h5⟩ := h
    intro a ha
    rcases List.mem_cons.1 ha with rfl | ha
    · exact h1
    · have := attsFrom_gt l now b.T (b.Id :: seen) h5 a ha
      omega
def cntT (t : Int) (l : List Att) : Nat := (l.filter fun a => decide (a.T = t)).length
theorem cntT_le : ∀ (l : List Att) (now last : Int) (seen : List Int) (t : Int), attsFrom now last seen l = true → cntT t l ≤ 1
  | [], _, _, _, _, _ => by simp [cntT]
  | b :: l, now, last, seen, t, h => by
    simp only [attsFrom, Bool.and_eq_true, decide_eq_true_iff] at h
    obtain ⟨h1, h2, h3, h4, h5⟩ := h
    have ih := cntT_le l now b.T (b.Id :: seen) t h5
    have hgt := attsFrom_gt l now b.T (b.Id :: seen) h5
    unfold cntT at ih ⊢
    by_cases e : b.T = t
    · rw [List.filter_cons_of_pos (by simpa using e), List.filter_eq_nil_iff.2 (fun a ha => by have := hgt a ha; simp; omega)]
      simp
    · rw [List.filter_cons_of_neg (by simpa using e)]
      exact ih
theorem cntT_any (t : Int) (l : List Att) : (l.any fun a => decide (a.T = t)) = !decide (cntT t l = 0) := by
  unfold cntT
  rw [Bool.eq_iff_iff, List.any_eq_true, Bool.not_eq_true', decide_eq_false_iff_not, List.length_eq_zero_iff, List.filter_eq_nil_iff]
  constructor
  · rintro ⟨a, h, g⟩ k
    exact k a h g
  · intro h
    refine Classical.byContradiction fun k => h fun a ha g => k ⟨a, ha, g⟩
theorem cntT_take (t : Int) (l : List Att) (k : Nat) (h : k < l.length) : cntT t (l.take (k + 1)) = cntT t (l.take k) + (if l[k].T = t then 1 else 0) := by
  unfold cntT
  rw [List.take_succ_eq_append_getElem h, List.filter_append, List.length_append]
  congr 1
  by_cases e : l[k].T = t
  · rw [if_pos e, List.filter_cons_of_pos (by simpa using e)]
    rfl
  · rw [if_neg e, List.filter_cons_of_neg (by simpa using e)]
    rfl
theorem clockOk_parts {now : Int} {l : List Att} (h : clockOk now 0 l = true) : (0 ≤ now ∧ now ≤ 1000000) ∧ attsFrom now 0 [] l = true := by
  unfold clockOk at h
  rw [Bool.and_eq_true, decide_eq_true_iff] at h
  exact ⟨by omega, h.2⟩
theorem clockOk_mk {now : Int} {l : List Att} (h : 0 ≤ now ∧ now ≤ 1000000) (g : attsFrom now 0 [] l = true) : clockOk now 0 l = true := by
  unfold clockOk
  rw [Bool.and_eq_true, decide_eq_true_iff]
  exact ⟨by omega, g⟩
theorem clockOk_bump {now t : Int} {l : List Att} (h : clockOk now 0 l = true) : clockOk (bumpI now t) 0 l = true := by
  obtain ⟨h1, h2⟩ := clockOk_parts h
  have h3 : now ≤ bumpI now t ∧ bumpI now t ≤ 1000000 := by unfold bumpI; split <;> (try split) <;> omega
  exact clockOk_mk (by omega) (attsFrom_mono l now _ 0 [] h3.1 h2)
theorem propE_ok {now : Int} {l : List Att} {id least : Int} (h : propE now l id least = 0) : clockOk now 0 l = true ∧ idOk id = true ∧ 0 ≤ least ∧ id ∉ l.map Att.Id ∧ max least (now + 1) ≤ 1000000 := by
  unfold propE at h
  split at h
  · rename_i h1
    split at h
    · omega
    · rename_i h2
      split at h
      · omega
      · exact ⟨h1.1, h1.2.1, h1.2.2.1, h2, by omega⟩
  · omega
theorem clockOk_prop {now : Int} {l : List Att} {id least : Int} (h : propE now l id least = 0) : clockOk (propT now l id least) 0 (propL now l id least) = true := by
  obtain ⟨h1, h2, h3, h4, h5⟩ := propE_ok h
  obtain ⟨g1, g2⟩ := clockOk_parts h1
  have e1 : propT now l id least = max least (now + 1) := by unfold propT; rw [if_pos h]
  have e2 : propL now l id least = l ++ [⟨max least (now + 1), id⟩] := by unfold propL; rw [if_pos h]
  rw [e1, e2]
  exact clockOk_mk (by omega) (attsFrom_snoc l now 0 [] _ id (by omega) (by omega) h2 (by simp) h4 g2)
theorem propL_len (now : Int) (l : List Att) (id least : Int) : (propL now l id least).length ≤ l.length + 1 := by
  unfold propL
  split
  · rw [List.length_append]; simp
  · simp
/-- What is asked of each time. -/
theorem once_at {now : Int} {l : List Att} (h : clockOk now 0 l = true) {t : Int} (h1 : 1 ≤ t) (h2 : t ≤ now) : cntT t l ≤ 1 ∧ freeB now 0 l t = decide (cntT t l = 0) := by
  obtain ⟨_, g⟩ := clockOk_parts h
  refine ⟨cntT_le l now 0 [] t g, ?_⟩
  unfold freeB
  rw [decide_eq_true (by omega : 0 < t ∧ t ≤ now), cntT_any, Bool.not_not, Bool.true_and]
end Go.Proofs.Ytnebacomafgjjaa
