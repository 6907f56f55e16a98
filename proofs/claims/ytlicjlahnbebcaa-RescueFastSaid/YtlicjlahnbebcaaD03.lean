/- Plain words for rescues. -/
import Derived.Test.YtlicjlahnbebcaaS17
import Derived.Test.YtlicjlahnbebcaaS08
namespace Go.Proofs.Ytlicjlahnbebcaa
open Go.RowKit
set_option linter.unusedSimpArgs false
set_option linter.unusedVariables false
def mayA (n : Int) (a : Ack) : Bool := decide (a.kind = 3 ∧ 1 ≤ a.fr ∧ a.fr ≤ n ∧ 1 ≤ a.t)
theorem mayA_iff {n : Int} {a : Ack} : mayA n a = true ↔ a.kind = 3 ∧ 1 ≤ a.fr ∧ a.fr ≤ n ∧ 1 ≤ a.t := by unfold mayA; exact decide_eq_true_iff
theorem hasB_orN (l : List Int) (r : Int) : hasB (orN l : Nat) r = (replB r && decide (r ∈ l)) := by
  cases hr : replB r with
  | false => unfold hasB; rw [hr]; simp
  | true =>
    have h := replB_iff.1 hr
    have := hasB_nat (s := orN l) (r := (r - 1).toNat) (orN_lt l)
    rw [show (((r - 1).toNat : Nat) : Int) + 1 = r from by omega] at this
    rw [this, orN_bit _ _ (by omega), show (((r - 1).toNat : Nat) : Int) + 1 = r from by omega, decide_eq_true (by omega : (r - 1).toNat < 9)]
/-- So far all answers may be, each of another replica. -/
def okTo (n : Int) (l : List Ack) (i : Nat) : Prop := ∀ j, ∀ h : j < l.length, j < i → mayA n l[j] = true ∧ l[j].fr ∉ (l.take j).map Ack.fr
def readyP (n f : Int) (l : List Ack) : Prop := sizeB n f = true ∧ okTo n l l.length ∧ n - f ≤ (l.length : Int)
open Classical in
noncomputable def readyB (n f : Int) (l : List Ack) : Bool := decide (readyP n f l)
open Classical in
theorem readyB_iff {n f : Int} {l : List Ack} : readyB n f l = true ↔ readyP n f l := by unfold readyB; exact decide_eq_true_iff
open Classical in
theorem readyB_not {n f : Int} {l : List Ack} (h : ¬ readyP n f l) : readyB n f l = false := by unfold readyB; exact decide_eq_false h
theorem okTo_succ {n : Int} {l : List Ack} {i : Nat} (hi : i < l.length) (h : okTo n l i) (h1 : mayA n l[i] = true) (h2 : l[i].fr ∉ (l.take i).map Ack.fr) : okTo n l (i + 1) := fun j hj hlt => by
  rcases Nat.lt_or_ge j i with h3 | h3
  · exact h j hj h3
  · obtain rfl : j = i := by omega
    exact ⟨h1, h2⟩
theorem rev_ind {α : Type} {p : List α → Prop} (h0 : p []) (h1 : ∀ l a, p l → p (l ++ [a])) (l : List α) : p l := by
  have h : ∀ m : List α, p m.reverse := by
    intro m
    induction m with
    | nil => exact h0
    | cons a m ih => rw [List.reverse_cons]; exact h1 _ _ ih
  have := h l.reverse
  rwa [List.reverse_reverse] at this
def toldStep (p : Int × Int) (a : Ack) : Int × Int := if p.1 < a.abal then (a.abal, a.t) else p
def toldF (l : List Ack) : Int × Int := l.foldl toldStep (0, 0)
theorem toldF_snoc (l : List Ack) (a : Ack) : toldF (l ++ [a]) = toldStep (toldF l) a := by unfold toldF; rw [List.foldl_append]; rfl
theorem toldF_succ (l : List Ack) (i : Nat) (h : i < l.length) : toldF (l.take (i + 1)) = toldStep (toldF (l.take i)) l[i] := by rw [take_snoc' l i h, toldF_snoc]
def lostOf (q c : Int) (a : Ack) : Bool := hasB q a.fr && decide (a.fr = c ∨ a.phase = 4)
def lostB (q c : Int) (l : List Ack) : Bool := l.any (lostOf q c)
def greatI (l : List Ack) : Int := l.foldl (fun t a => max t a.t) (-1)
theorem greatI_snoc (l : List Ack) (a : Ack) : greatI (l ++ [a]) = max (greatI l) a.t := by unfold greatI; rw [List.foldl_append]; rfl
theorem greatI_succ (l : List Ack) (i : Nat) (h : i < l.length) : greatI (l.take (i + 1)) = max (greatI (l.take i)) l[i].t := by rw [take_snoc' l i h, greatI_snoc]
def inQ (q : Int) (l : List Ack) : List Ack := l.filter fun a => hasB q a.fr
/-- Which time a rescue takes, and whether it does. -/
noncomputable def chooseR (n f q id : Int) (l : List Ack) : Int × Int :=
  if readyB n f l = true ∧ (listS q 9).length ≠ 0 ∧ 1 ≤ selfI id ∧ selfI id ≤ n then
    if 0 < (toldF l).1 then ((toldF l).2, 0)
    else if lostB q (selfI id) l = true then (greatI l, 0)
    else if inQ q l = [] then (0, 33) else (greatI (inQ q l), 0)
  else (0, 2)
theorem greatI_mem : ∀ {l : List Ack}, l ≠ [] → (∀ a ∈ l, 1 ≤ a.t) → ∃ a ∈ l, a.t = greatI l := by
  have gen : ∀ (l : List Ack), (l = [] ∧ greatI l = -1) ∨ ((∀ a ∈ l, 1 ≤ a.t) → ∃ a ∈ l, a.t = greatI l) := by
    intro l
    refine rev_ind (p := fun l => (l = [] ∧ greatI l = -1) ∨ ((∀ a ∈ l, 1 ≤ a.t) → ∃ a ∈ l, a.t = greatI l)) (.inl ⟨rfl, rfl⟩) (fun l a ih => ?_) l
    · refine .inr fun h => ?_
      rw [greatI_snoc]
      have ha := h a (by simp)
      rcases ih with ⟨rfl, h2⟩ | h2
      · exact ⟨a, by simp, by rw [h2]; omega⟩
      · obtain ⟨b, hb, he⟩ := h2 fun x hx => h x (by simp [hx])
        by_cases hlt : greatI l ≤ a.t
        · exact ⟨a, by simp, by omega⟩
        · exact ⟨b, by simp [hb], by omega⟩
  intro l hne hl
  rcases gen l with ⟨h, _⟩ | h
  · exact absurd h hne
  · exact h hl
theorem greatI_ge : ∀ {l : List Ack} {a : Ack}, a ∈ l → a.t ≤ greatI l := by
  intro l
  refine rev_ind (p := fun l => ∀ {a : Ack}, a ∈ l → a.t ≤ greatI l) (fun {a} h => by cases h) (fun l b ih => ?_) l
  · intro a h
    rw [greatI_snoc]
    rcases List.mem_append.1 h with h | h
    · have := ih h; omega
    · rw [List.mem_singleton] at h
      subst h
      omega
/-- What was accepted last. -/
theorem toldF_spec : ∀ (l : List Ack), (∀ a ∈ l, a.abal ≤ (toldF l).1) ∧ 0 ≤ (toldF l).1 ∧ (0 < (toldF l).1 → ∃ a ∈ l, a.abal = (toldF l).1 ∧ a.t = (toldF l).2) := by
  intro l
  refine rev_ind (p := fun l => (∀ a ∈ l, a.abal ≤ (toldF l).1) ∧ 0 ≤ (toldF l).1 ∧ (0 < (toldF l).1 → ∃ a ∈ l, a.abal = (toldF l).1 ∧ a.t = (toldF l).2)) ⟨fun _ h => (by cases h), Int.le_refl _, fun h => absurd h (by decide)⟩ (fun l b ih => ?_) l
  · obtain ⟨h1, h2, h3⟩ := ih
    rw [toldF_snoc]
    unfold toldStep
    split
    · rename_i hlt
      refine ⟨fun a ha => ?_, by show 0 ≤ b.abal; omega, fun _ => ⟨b, by simp, rfl, rfl⟩⟩
      rcases List.mem_append.1 ha with ha | ha
      · have := h1 a ha; show a.abal ≤ b.abal; omega
      · rw [List.mem_singleton] at ha; subst ha; exact Int.le_refl _
    · rename_i hlt
      refine ⟨fun a ha => ?_, h2, fun h => ?_⟩
      · rcases List.mem_append.1 ha with ha | ha
        · exact h1 a ha
        · rw [List.mem_singleton] at ha; subst ha; omega
      · obtain ⟨a, ha, e⟩ := h3 h
        exact ⟨a, by simp [ha], e⟩
theorem choose_ok {n f q id : Int} {l : List Ack} (h : (chooseR n f q id l).2 = 0) : readyP n f l ∧ (∃ a ∈ l, a.t = (chooseR n f q id l).1) ∧ (0 < (toldF l).1 → (chooseR n f q id l).1 = (toldF l).2) := by
  unfold chooseR at h ⊢
  split at h
  · rename_i hc
    have hr := readyB_iff.1 hc.1
    rw [if_pos hc]
    have hn : 3 ≤ n ∧ n ≤ 9 ∧ 1 ≤ f ∧ 2 * f ≤ n - 1 := sizeB_iff.1 hr.1
    have hne : l ≠ [] := fun e => by have := hr.2.2; rw [e] at this; simp at this; omega
    have ht : ∀ a ∈ l, 1 ≤ a.t := fun a ha => by
      obtain ⟨i, hi, rfl⟩ := List.getElem_of_mem ha
      exact (mayA_iff.1 (hr.2.1 i hi hi).1).2.2.2
    refine ⟨hr, ?_⟩
    split
    · rename_i hp
      obtain ⟨a, ha, _, e⟩ := (toldF_spec l).2.2 hp
      exact ⟨⟨a, ha, e⟩, fun _ => rfl⟩
    · rename_i hp
      rw [if_neg hp] at h
      refine ⟨?_, fun h => absurd h hp⟩
      split
      · exact greatI_mem hne ht
      · rename_i hl
        rw [if_neg hl] at h
        split at h
        · cases h
        · rename_i hq
          rw [if_neg hq]
          obtain ⟨a, ha, e⟩ := greatI_mem hq fun a ha => ht a (List.mem_filter.1 ha).1
          exact ⟨a, (List.mem_filter.1 ha).1, e⟩
  · cases h
theorem choose_err {n f q id : Int} {l : List Ack} (h : (chooseR n f q id l).2 ≠ 0) : (chooseR n f q id l).1 = 0 := by
  unfold chooseR at h ⊢
  split
  · rename_i hc
    rw [if_pos hc] at h
    split
    · rename_i hp; rw [if_pos hp] at h; exact absurd rfl h
    · rename_i hp
      rw [if_neg hp] at h
      split
      · rename_i hl; rw [if_pos hl] at h; exact absurd rfl h
      · rename_i hl
        rw [if_neg hl] at h
        split
        · rfl
        · rename_i hq; rw [if_neg hq] at h; exact absurd rfl h
  · rfl
end Go.Proofs.Ytlicjlahnbebcaa
