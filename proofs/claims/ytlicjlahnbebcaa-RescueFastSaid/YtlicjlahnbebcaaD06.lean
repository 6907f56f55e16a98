/- Plain words for a quorum's proposals, some of which are lost. -/
import Derived.Test.YtlicjlahnbebcaaD05
import Derived.Test.YtlicjlahnbebcaaS07
namespace Go.Proofs.Ytlicjlahnbebcaa
open Go.RowKit
set_option linter.unusedSimpArgs false
set_option linter.unusedVariables false
theorem listS_at {q : Int} : ∀ {n : Nat} {r : Int}, r ∈ listS q n ↔ 1 ≤ r ∧ r ≤ n ∧ hasB q r = true := by
  intro n
  induction n with
  | zero => intro r; exact ⟨fun h => (by cases h), fun h => by omega⟩
  | succ n ih =>
    intro r
    rw [listS_succ]
    by_cases h : hasB q ((n : Int) + 1) = true
    · rw [if_pos h, List.mem_append, List.mem_singleton, ih]
      constructor
      · rintro (⟨a, b, c⟩ | rfl)
        · exact ⟨a, by omega, c⟩
        · exact ⟨by omega, by omega, h⟩
      · rintro ⟨a, b, c⟩
        by_cases e : r = (n : Int) + 1
        · exact .inr e
        · exact .inl ⟨a, by omega, c⟩
    · rw [if_neg h, ih]
      constructor
      · rintro ⟨a, b, c⟩
        exact ⟨a, by omega, c⟩
      · rintro ⟨a, b, c⟩
        refine ⟨a, ?_, c⟩
        by_cases e : r = (n : Int) + 1
        · subst e; exact absurd c h
        · omega
theorem listS_nodup (q : Int) (n : Nat) : (listS q n).Nodup := by
  induction n with
  | zero => exact List.nodup_nil
  | succ n ih =>
    rw [listS_succ]
    split
    · rw [List.nodup_append]
      refine ⟨ih, by simp, fun a ha b hb => ?_⟩
      rw [List.mem_singleton] at hb
      have := (listS_at.1 ha).2.1
      omega
    · exact ih
theorem filter_but {l : List Int} (hn : l.Nodup) (p : Int → Bool) (c : Int) : (l.filter p).length ≤ (l.filter fun r => p r && decide (r ≠ c)).length + (if p c = true then 1 else 0) := by
  induction l with
  | nil => simp
  | cons a l ih =>
    rw [List.nodup_cons] at hn
    have ih := ih hn.2
    by_cases e : a = c
    · subst e
      have e2 : (l.filter fun r => p r && decide (r ≠ a)) = l.filter p := by
        refine List.filter_congr fun x hx => ?_
        have : x ≠ a := fun h => by subst h; exact hn.1 hx
        simp [this]
      rw [List.filter_cons, List.filter_cons, e2]
      cases p a <;> simp
    · rw [List.filter_cons, List.filter_cons]
      cases hp : p a with
      | true =>
        rw [if_pos rfl, if_pos (by simp [e]), List.length_cons, List.length_cons]
        omega
      | false =>
        rw [if_neg (by simp), if_neg (by simp)]
        exact ih
/-- What the replica r proposes. -/
def tT (u : List Int) (c r : Int) : Int := u.getD (c - 1).toNat 0 + 1 + (if r = c then 0 else u.getD (r - 1).toNat 0 % 4)
def ackT (u : List Int) (c r : Int) : Ack := ⟨1, r, 0, tT u c r, 0, 0⟩
def goneStep (u : List Int) (c f g : Int) (p : Int × List Ack) (r : Int) : Int × List Ack :=
  if r = c then p else if hasB g r = true ∧ p.1 < f - 1 then (p.1 + 1, p.2) else (p.1, p.2 ++ [ackT u c r])
def goneF (u : List Int) (c f g : Int) (l : List Int) : Int × List Ack := l.foldl (goneStep u c f g) (0, [])
theorem goneF_snoc (u : List Int) (c f g : Int) (l : List Int) (r : Int) : goneF u c f g (l ++ [r]) = goneStep u c f g (goneF u c f g l) r := by unfold goneF; rw [List.foldl_append]; rfl
theorem goneF_inv (u : List Int) (c f g : Int) (l : List Int) : 0 ≤ (goneF u c f g l).1 ∧ (goneF u c f g l).1 ≤ (l.length : Int) ∧ ((goneF u c f g l).1 ≤ f - 1 ∨ (goneF u c f g l).1 = 0) ∧ (goneF u c f g l).2.length ≤ l.length ∧ ((goneF u c f g l).2.map Ack.fr).Sublist l ∧ (∀ a ∈ (goneF u c f g l).2, a = ackT u c a.fr) ∧
    ∀ p : Int → Bool, ((l.filter fun r => p r && decide (r ≠ c)).length : Int) ≤ (goneF u c f g l).1 + (((goneF u c f g l).2.filter fun a => p a.fr).length : Nat) := by
  refine rev_ind (p := fun l => 0 ≤ (goneF u c f g l).1 ∧ (goneF u c f g l).1 ≤ (l.length : Int) ∧ ((goneF u c f g l).1 ≤ f - 1 ∨ (goneF u c f g l).1 = 0) ∧ (goneF u c f g l).2.length ≤ l.length ∧ ((goneF u c f g l).2.map Ack.fr).Sublist l ∧ (∀ a ∈ (goneF u c f g l).2, a = ackT u c a.fr) ∧
    ∀ p : Int → Bool, ((l.filter fun r => p r && decide (r ≠ c)).length : Int) ≤ (goneF u c f g l).1 + (((goneF u c f g l).2.filter fun a => p a.fr).length : Nat)) ?_ (fun l r ih => ?_) l
  · exact ⟨Int.le_refl _, Int.le_refl _, .inr rfl, Nat.le_refl _, List.Sublist.refl _, fun _ h => (by cases h), fun _ => Int.le_refl _⟩
  · rw [goneF_snoc]
    obtain ⟨i1, i2, i3, i4, i5, i6, i7⟩ := ih
    generalize goneF u c f g l = s at *
    obtain ⟨x, s⟩ := s
    dsimp only at i1 i2 i3 i4 i5 i6 i7
    unfold goneStep
    dsimp only
    by_cases h1 : r = c
    · rw [if_pos h1]
      refine ⟨i1, by simp; omega, i3, by simp; omega, i5.trans (List.sublist_append_left _ _), i6, fun p => ?_⟩
      rw [List.filter_append, List.filter_cons, if_neg (by simp [h1]), List.filter_nil, List.append_nil]
      exact i7 p
    · rw [if_neg h1]
      by_cases h2 : hasB g r = true ∧ x < f - 1
      · rw [if_pos h2]
        refine ⟨by dsimp only; omega, by simp; omega, .inl (by dsimp only; omega), by simp; omega, i5.trans (List.sublist_append_left _ _), i6, fun p => ?_⟩
        have := i7 p
        rw [List.filter_append, List.length_append]
        have h3 : ([r].filter fun r => p r && decide (r ≠ c)).length ≤ 1 := List.length_filter_le _ _
        dsimp only
        omega
      · rw [if_neg h2]
        refine ⟨i1, by simp; omega, i3, by simp; omega, ?_, fun a ha => ?_, fun p => ?_⟩
        · rw [List.map_append]
          exact i5.append (List.Sublist.refl _)
        · rcases List.mem_append.1 ha with ha | ha
          · exact i6 a ha
          · rw [List.mem_singleton] at ha; subst ha; rfl
        · have := i7 p
          dsimp only
          rw [List.filter_append, List.length_append, List.filter_append, List.length_append, List.filter_cons, List.filter_nil, List.filter_cons, List.filter_nil]
          have e : (ackT u c r).fr = r := rfl
          rw [e]
          cases hp : p r with
          | true => simp [h1] at this ⊢; omega
          | false => simp at this ⊢; omega
theorem ackT_once (u : List Int) (c : Int) {l : List Int} (h : l.Nodup) : onceP (l.map (ackT u c)) :=
  ⟨fun a ha => by obtain ⟨r, _, rfl⟩ := List.mem_map.1 ha; rfl, by rw [List.map_map, show (Ack.fr ∘ ackT u c) = id from rfl, List.map_id]; exact h⟩
theorem tT_ge {u : List Int} (hu : ∀ x ∈ u, 0 ≤ x ∧ x ≤ 255) (c r : Int) : tT u c c ≤ tT u c r ∧ 1 ≤ tT u c c := by
  have gd : ∀ i, 0 ≤ u.getD i 0 := fun i => by
    rw [List.getD_eq_getElem?_getD]
    cases h : u[i]? with
    | none => exact Int.le_refl _
    | some x => exact (hu x (List.mem_of_getElem? h)).1
  have h1 := gd (c - 1).toNat
  have h2 := gd (r - 1).toNat
  unfold tT
  rw [if_pos rfl]
  split <;> omega
/-- What a quorum decides. -/
theorem told_dec {u : List Int} (hu : ∀ x ∈ u, 0 ≤ x ∧ x ≤ 255) (f c q : Int) (hc : c ∈ listS q 9) : ∃ t, decF f q ((listS q 9).map (ackT u c)) = (t, decide (1 ≤ f ∧ f ≤ (((listS q 9).filter fun r => decide (tT u c r = t)).length : Nat)), true) ∧ tT u c c ≤ t ∧ (∀ r ∈ listS q 9, tT u c r ≤ t) ∧ t = timeF ((listS q 9).map (ackT u c)) := by
  have hL := ackT_once u c (listS_nodup q 9)
  have e1 : inQ q ((listS q 9).map (ackT u c)) = (listS q 9).map (ackT u c) := List.filter_eq_self.2 fun a ha => by
    obtain ⟨r, hr, rfl⟩ := List.mem_map.1 ha
    exact (listS_at.1 hr).2.2
  have e2 : readyF q ((listS q 9).map (ackT u c)) = true := by
    unfold readyF
    rw [Bool.and_eq_true]
    refine ⟨List.all_eq_true.2 fun r hr => ?_, decide_eq_true (List.length_pos_of_mem hc)⟩
    rw [(look_once hL (r := r) (v := tT u c r)).2 ⟨ackT u c r, List.mem_map_of_mem hr, rfl, rfl⟩]
    have := tT_ge hu c r
    exact decide_eq_true (by show 1 ≤ tT u c r; omega)
  have e3 := time_once hL
  have e4 : ((listS q 9).map (ackT u c)).map Ack.t = (listS q 9).map (tT u c) := by rw [List.map_map]; rfl
  have m := maxI_spec (((listS q 9).map (ackT u c)).map Ack.t)
  rw [← e3, e4] at m
  refine ⟨timeF ((listS q 9).map (ackT u c)), ?_, m.1 _ (List.mem_map_of_mem hc), fun r hr => m.1 _ (List.mem_map_of_mem hr), rfl⟩
  unfold decF
  rw [e1, if_pos e2]
  unfold votesF
  rw [cnt_once hL, List.filter_map, List.length_map]
  rfl
/-- A fast time is the greatest one of what is left. -/
theorem told_left {u : List Int} (hu : ∀ x ∈ u, 0 ≤ x ∧ x ≤ 255) {f c g q t : Int} (hc : c ∈ listS q 9) (h1 : 1 ≤ f) (hq : f < ((listS q 9).length : Int)) (hle : ∀ r ∈ listS q 9, tT u c r ≤ t) (hv : f ≤ (((listS q 9).filter fun r => decide (tT u c r = t)).length : Nat)) : timeF (goneF u c f g (listS q 9)).2 = t := by
  obtain ⟨i1, i2, i3, i4, i5, i6, i7⟩ := goneF_inv u c f g (listS q 9)
  generalize goneF u c f g (listS q 9) = s at *
  obtain ⟨x, s⟩ := s
  dsimp only at *
  have hn := listS_nodup q 9
  have ho : onceP s := ⟨fun a ha => by rw [i6 a ha]; rfl, hn.sublist i5⟩
  rw [time_once ho]
  have ht := tT_ge hu c c
  have hct := hle c hc
  refine maxI_eq (fun y hy => ?_) (by omega) fun _ => ?_
  · obtain ⟨a, ha, rfl⟩ := List.mem_map.1 hy
    rw [i6 a ha]
    exact hle _ (i5.subset (List.mem_map_of_mem ha))
  · refine Classical.byContradiction fun hno => ?_
    have key : ∀ p : Int → Bool, (∀ r, p r = true → tT u c r = t) → ((s.filter fun a => p a.fr).length : Nat) = 0 := fun p hp => by
      rw [List.length_eq_zero_iff, List.filter_eq_nil_iff]
      intro a ha h
      refine hno (List.mem_map.2 ⟨a, ha, ?_⟩)
      rw [i6 a ha]
      exact hp _ h
    have k1 := i7 fun r => decide (tT u c r = t)
    rw [key _ fun r h => of_decide_eq_true h] at k1
    have k2 := filter_but hn (fun r => decide (tT u c r = t)) c
    by_cases hcv : tT u c c = t
    · have all : ∀ r ∈ listS q 9, tT u c r = t := fun r hr => by
        have := hle r hr
        have := (tT_ge hu c r).1
        omega
      have k3 : ((listS q 9).filter fun r => decide (tT u c r = t)) = listS q 9 := List.filter_eq_self.2 fun r hr => decide_eq_true (all r hr)
      rw [k3] at k2 hv
      split at k2 <;> omega
    · rw [if_neg (by simpa using hcv)] at k2
      omega
end Go.Proofs.Ytlicjlahnbebcaa
