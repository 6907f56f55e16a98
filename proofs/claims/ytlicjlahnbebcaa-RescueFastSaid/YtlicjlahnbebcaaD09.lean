/- What a coordinator decides by its quorum, and what a rescue takes then. -/
import Derived.Test.YtlicjlahnbebcaaD08
namespace Go.Proofs.Ytlicjlahnbebcaa
open Go.RowKit
set_option linter.unusedSimpArgs false
set_option linter.unusedVariables false
/-- What the replica r of the quorum proposes. -/
def prT (c t : Int) (ab : List Int) (r : Int) : Int := if r = c then t else t + ab.getD (r - 1).toNat 0 % 4
def prA (c t : Int) (ab : List Int) (r : Int) : Ack := ⟨1, r, 0, prT c t ab r, 0, 0⟩
theorem prT_ge {c t : Int} {ab : List Int} (ha : ∀ x ∈ ab, 0 ≤ x ∧ x ≤ 255) (r : Int) : t ≤ prT c t ab r := by
  have gd : 0 ≤ ab.getD (r - 1).toNat 0 := by
    rw [List.getD_eq_getElem?_getD]
    cases h : ab[(r - 1).toNat]? with
    | none => exact Int.le_refl _
    | some x => exact (ha x (List.mem_of_getElem? h)).1
  unfold prT
  split <;> omega
theorem prA_once (c t : Int) (ab : List Int) {l : List Int} (h : l.Nodup) : onceP (l.map (prA c t ab)) :=
  ⟨fun a ha => by obtain ⟨r, _, rfl⟩ := List.mem_map.1 ha; rfl, by rw [List.map_map, show (Ack.fr ∘ prA c t ab) = id from rfl, List.map_id]; exact h⟩
theorem fast_dec {c t : Int} {ab : List Int} (h1 : 1 ≤ t) (ha : ∀ x ∈ ab, 0 ≤ x ∧ x ≤ 255) (f q : Int) (hc : c ∈ listS q 9) : ∃ m, decF f q ((listS q 9).map (prA c t ab)) = (m, decide (1 ≤ f ∧ f ≤ (((listS q 9).filter fun r => decide (prT c t ab r = m)).length : Nat)), true) ∧ (∀ r ∈ listS q 9, prT c t ab r ≤ m) ∧ t ≤ m := by
  have hL := prA_once c t ab (listS_nodup q 9)
  have e1 : inQ q ((listS q 9).map (prA c t ab)) = (listS q 9).map (prA c t ab) := List.filter_eq_self.2 fun a ha => by
    obtain ⟨r, hr, rfl⟩ := List.mem_map.1 ha
    exact (listS_at.1 hr).2.2
  have e2 : readyF q ((listS q 9).map (prA c t ab)) = true := by
    unfold readyF
    rw [Bool.and_eq_true]
    refine ⟨List.all_eq_true.2 fun r hr => ?_, decide_eq_true (List.length_pos_of_mem hc)⟩
    rw [(look_once hL (r := r) (v := prT c t ab r)).2 ⟨prA c t ab r, List.mem_map_of_mem hr, rfl, rfl⟩]
    have := prT_ge (c := c) (t := t) ha r
    exact decide_eq_true (by show 1 ≤ prT c t ab r; omega)
  have e3 := time_once hL
  have e4 : ((listS q 9).map (prA c t ab)).map Ack.t = (listS q 9).map (prT c t ab) := by rw [List.map_map]; rfl
  have m := maxI_spec (((listS q 9).map (prA c t ab)).map Ack.t)
  rw [← e3, e4] at m
  have hle : ∀ r ∈ listS q 9, prT c t ab r ≤ timeF ((listS q 9).map (prA c t ab)) := fun r hr => m.1 _ (List.mem_map_of_mem hr)
  refine ⟨timeF ((listS q 9).map (prA c t ab)), ?_, hle, ?_⟩
  · unfold decF
    rw [e1, if_pos e2]
    unfold votesF
    rw [cnt_once hL, List.filter_map, List.length_map]
    rfl
  · have h3 := hle c hc
    have h4 := prT_ge (c := c) (t := t) ha c
    omega
/-- A rescue takes a time that was fast. -/
theorem fast_rescue {n f c q t m x : Int} {ab ot : List Int} {l : List Ack} (hn : 3 ≤ n ∧ n ≤ 9 ∧ 1 ≤ f ∧ 2 * f ≤ n - 1) (ht : 1 ≤ t) (ha : ∀ x ∈ ab, 0 ≤ x ∧ x ≤ 255)
    (hc : c ∈ listS q 9) (hql : ((listS q 9).length : Int) = n / 2 + f) (hqn : listS q n.toNat = listS q 9) (hI : AnInv false c q (f - 1) (anA n q c t ab ot) n.toNat (x, l))
    (hle : ∀ r ∈ listS q 9, prT c t ab r ≤ m) (hv : f ≤ (((listS q 9).filter fun r => decide (prT c t ab r = m)).length : Nat)) : greatI (inQ q l) = m := by
  obtain ⟨lo, hi, nd, at', len, cnt, yes, no⟩ := hI
  dsimp only at lo hi nd at' len cnt yes no
  have hcn : (n.toNat : Int) = n := by omega
  have hT : ∀ a ∈ inQ q l, a.fr ∈ listS q 9 ∧ a.t = prT c t ab a.fr := fun a hm => by
    obtain ⟨h1, h2⟩ := List.mem_filter.1 hm
    obtain ⟨a1, a2, a3⟩ := at' a h1
    refine ⟨listS_at.2 ⟨a1, by omega, h2⟩, ?_⟩
    have e : a.t = anT q c t ab ot a.fr := by rw [a3]; rfl
    rw [e]
    unfold anT prT
    rw [if_pos h2]
  have hex : ∃ a ∈ inQ q l, a.t = m := by
    refine Classical.byContradiction fun hno => ?_
    have hn0 := listS_nodup q 9
    have k1 := cnt fun r => decide (prT c t ab r = m)
    rw [hqn] at k1
    have z : ((l.filter fun a => hasB q a.fr && decide (prT c t ab a.fr = m)).length : Nat) = 0 := by
      rw [List.length_eq_zero_iff, List.filter_eq_nil_iff]
      intro a hm h
      rw [Bool.and_eq_true, decide_eq_true_iff] at h
      have hq : a ∈ inQ q l := List.mem_filter.2 ⟨hm, h.1⟩
      exact hno ⟨a, hq, by rw [(hT a hq).2]; exact h.2⟩
    rw [z] at k1
    have k2 := filter_but hn0 (fun r => decide (prT c t ab r = m)) c
    by_cases hcv : prT c t ab c = m
    · have htm : t = m := by unfold prT at hcv; rwa [if_pos rfl] at hcv
      have all : ∀ r ∈ listS q 9, prT c t ab r = m := fun r hr => by
        have := hle r hr
        have := prT_ge (c := c) (t := t) ha r
        omega
      have k3 : ((listS q 9).filter fun r => decide (prT c t ab r = m)) = listS q 9 := List.filter_eq_self.2 fun r hr => decide_eq_true (all r hr)
      rw [k3] at k2 hv
      split at k2 <;> omega
    · rw [if_neg (by simpa using hcv)] at k2
      omega
  obtain ⟨a, hm, hat⟩ := hex
  have g1 := greatI_ge hm
  obtain ⟨b, hb, e⟩ := greatI_mem (List.ne_nil_of_mem hm) fun a hm => by
    rw [(hT a hm).2]
    have := prT_ge (c := c) (t := t) ha a.fr
    omega
  have := hle _ (hT b hb).1
  rw [← (hT b hb).2] at this
  omega
end Go.Proofs.Ytlicjlahnbebcaa
