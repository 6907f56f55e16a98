/- Plain words for a play's answers. -/
import Derived.Test.YtlicjlahnbebcaaD06
namespace Go.Proofs.Ytlicjlahnbebcaa
open Go.RowKit
set_option linter.unusedSimpArgs false
set_option linter.unusedVariables false
def anT (q c t : Int) (ab ot : List Int) (r : Int) : Int := if hasB q r = true then (if r = c then t else t + ab.getD (r - 1).toNat 0 % 4) else 1 + ot.getD (r - 1).toNat 0
def anA (n q c t : Int) (ab ot : List Int) (r : Int) : Ack := ⟨3, r, n + 1, anT q c t ab ot r, 0, if hasB q r = true then 3 else 4⟩
def anStep (co : Bool) (g c : Int) (A : Int → Ack) (p : Int × List Ack) (r : Int) : Int × List Ack :=
  if r = c ∧ co = false then p else if r ≠ c ∧ 0 < p.1 ∧ hasB g r = true then (p.1 - 1, p.2) else (p.1, p.2 ++ [A r])
def anF (co : Bool) (g c : Int) (A : Int → Ack) (s : Int) : Nat → Int × List Ack
  | 0 => (s, [])
  | k + 1 => anStep co g c A (anF co g c A s k) ((k : Int) + 1)
structure AnInv (co : Bool) (c q s : Int) (A : Int → Ack) (k : Nat) (p : Int × List Ack) : Prop where
  lo : 0 ≤ p.1
  hi : p.1 ≤ s
  nd : (p.2.map Ack.fr).Nodup
  at' : ∀ a ∈ p.2, 1 ≤ a.fr ∧ a.fr ≤ k ∧ a = A a.fr
  len : (p.2.length : Int) + (s - p.1) + (if co = false ∧ 1 ≤ c ∧ c ≤ k then 1 else 0) = k
  cnt : ∀ P : Int → Bool, (((listS q k).filter fun r => P r && decide (r ≠ c)).length : Int) ≤ s - p.1 + (((p.2.filter fun a => hasB q a.fr && P a.fr).length : Nat) : Int)
  yes : co = true → 1 ≤ c → c ≤ k → c ∈ p.2.map Ack.fr
  no : co = false → c ∉ p.2.map Ack.fr
theorem anF_inv (co : Bool) (g c q s : Int) (A : Int → Ack) (hA : ∀ r, (A r).fr = r) (hs : 0 ≤ s) (hc : 1 ≤ c) (k : Nat) : AnInv co c q s A k (anF co g c A s k) := by
  induction k with
  | zero =>
    refine ⟨hs, Int.le_refl _, List.nodup_nil, fun _ h => (by cases h), ?_, fun P => ?_, fun _ h1 h2 => ?_, fun _ h => by cases h⟩
    · rw [if_neg (by omega)]
      show (0 : Int) + (s - s) + 0 = 0
      omega
    · show (0 : Int) ≤ s - s + 0
      omega
    · omega
  | succ k ih =>
    show AnInv co c q s A (k + 1) (anStep co g c A (anF co g c A s k) ((k : Int) + 1))
    generalize anF co g c A s k = p at ih
    obtain ⟨x, l⟩ := p
    obtain ⟨lo, hi, nd, at', len, cnt, yes, no⟩ := ih
    dsimp only at lo hi nd at' len cnt yes no
    have hnew : ∀ P : Int → Bool, (((listS q (k + 1)).filter fun r => P r && decide (r ≠ c)).length : Int) = (((listS q k).filter fun r => P r && decide (r ≠ c)).length : Int) + (if hasB q ((k : Int) + 1) = true ∧ P ((k : Int) + 1) = true ∧ (k : Int) + 1 ≠ c then 1 else 0) := fun P => by
      rw [listS_succ]
      by_cases hb : hasB q ((k : Int) + 1) = true
      · rw [if_pos hb, List.filter_append, List.length_append, List.filter_cons, List.filter_nil]
        by_cases hp : P ((k : Int) + 1) = true ∧ (k : Int) + 1 ≠ c
        · rw [if_pos (by rw [hp.1, decide_eq_true hp.2]; rfl), if_pos ⟨hb, hp⟩]; simp
        · rw [if_neg (by rw [Bool.and_eq_true, decide_eq_true_iff]; exact hp), if_neg (fun h => hp h.2)]; simp
      · rw [if_neg hb, if_neg (fun h => hb h.1)]; omega
    have hfr : ∀ r ∈ l.map Ack.fr, r ≤ k := fun r hr => by
      obtain ⟨a, ha, rfl⟩ := List.mem_map.1 hr
      exact (at' a ha).2.1
    unfold anStep
    dsimp only
    by_cases h1 : (k : Int) + 1 = c ∧ co = false
    · rw [if_pos h1]
      refine ⟨lo, hi, nd, fun a ha => ?_, ?_, fun P => ?_, fun h => ?_, no⟩
      · obtain ⟨a1, a2, a3⟩ := at' a ha
        exact ⟨a1, by omega, a3⟩
      · rw [if_neg (by omega)] at len
        rw [if_pos ⟨h1.2, by omega, by omega⟩]
        dsimp only
        omega
      · rw [hnew, if_neg (fun h => h.2.2 h1.1)]
        have := cnt P
        dsimp only
        omega
      · rw [h1.2] at h; cases h
    · rw [if_neg h1]
      have hl1 : (if co = false ∧ 1 ≤ c ∧ c ≤ ((k + 1 : Nat) : Int) then (1 : Int) else 0) = (if co = false ∧ 1 ≤ c ∧ c ≤ (k : Int) then 1 else 0) := by
        by_cases h : co = false ∧ 1 ≤ c ∧ c ≤ (k : Int)
        · rw [if_pos h, if_pos ⟨h.1, h.2.1, by omega⟩]
        · rw [if_neg h, if_neg (fun h' => ?_)]
          have : (k : Int) + 1 ≠ c := fun e => h1 ⟨e, h'.1⟩
          exact h ⟨h'.1, h'.2.1, by omega⟩
      by_cases h2 : (k : Int) + 1 ≠ c ∧ 0 < x ∧ hasB g ((k : Int) + 1) = true
      · rw [if_pos h2]
        refine ⟨by dsimp only; omega, by dsimp only; omega, nd, fun a ha => ?_, ?_, fun P => ?_, fun h h3 h4 => yes h h3 (by omega), no⟩
        · obtain ⟨a1, a2, a3⟩ := at' a ha
          exact ⟨a1, by omega, a3⟩
        · rw [hl1]; dsimp only; omega
        · rw [hnew]
          have := cnt P
          dsimp only
          split <;> omega
      · rw [if_neg h2]
        refine ⟨lo, hi, ?_, fun a ha => ?_, ?_, fun P => ?_, fun h h3 h4 => ?_, fun h => ?_⟩
        · dsimp only
          rw [List.map_append, List.map_singleton, hA, List.nodup_append]
          refine ⟨nd, by simp, fun a ha b hb => ?_⟩
          rw [List.mem_singleton] at hb
          have := hfr a ha
          omega
        · rcases List.mem_append.1 ha with ha | ha
          · obtain ⟨a1, a2, a3⟩ := at' a ha
            exact ⟨a1, by omega, a3⟩
          · rw [List.mem_singleton] at ha
            subst ha
            rw [hA]
            exact ⟨by omega, by omega, rfl⟩
        · rw [hl1]
          dsimp only
          rw [List.length_append, List.length_singleton]
          omega
        · rw [hnew]
          have := cnt P
          dsimp only
          have ef : (([A ((k : Int) + 1)].filter fun a => hasB q a.fr && P a.fr).length : Int) = if hasB q ((k : Int) + 1) = true ∧ P ((k : Int) + 1) = true then 1 else 0 := by
            rw [List.filter_cons, List.filter_nil, hA]
            by_cases hq : hasB q ((k : Int) + 1) = true ∧ P ((k : Int) + 1) = true
            · rw [if_pos (by rw [hq.1, hq.2]; rfl), if_pos hq]; rfl
            · rw [if_neg (by rw [Bool.and_eq_true]; exact hq), if_neg hq]; rfl
          rw [List.filter_append, List.length_append, Int.natCast_add, ef]
          by_cases hq : hasB q ((k : Int) + 1) = true ∧ P ((k : Int) + 1) = true
          · rw [if_pos hq]
            split <;> omega
          · rw [if_neg hq, if_neg (fun h => hq ⟨h.1, h.2.1⟩)]
            omega
        · dsimp only
          rw [List.map_append, List.map_singleton, hA, List.mem_append, List.mem_singleton]
          by_cases e : c = (k : Int) + 1
          · exact .inr e
          · exact .inl (yes h h3 (by omega))
        · dsimp only
          rw [List.map_append, List.map_singleton, hA, List.mem_append, List.mem_singleton]
          rintro (h5 | h5)
          · exact no h h5
          · exact h1 ⟨h5.symm, h⟩
end Go.Proofs.Ytlicjlahnbebcaa
