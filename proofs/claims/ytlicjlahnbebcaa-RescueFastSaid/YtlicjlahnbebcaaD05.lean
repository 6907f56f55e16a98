/- Plain words for the document's proposals. -/
import Derived.Test.YtlicjlahnbebcaaD04
namespace Go.Proofs.Ytlicjlahnbebcaa
open Go.RowKit
set_option linter.unusedSimpArgs false
set_option linter.unusedVariables false
def frIn (o : List Ack) (r : Int) : Bool := o.any fun x => decide (x.fr = r)
def proStep (o : List Ack) (a : Ack) : List Ack := if a.kind = 1 ∧ frIn o a.fr = false then o ++ [a] else o
def proL (l : List Ack) : List Ack := l.foldl proStep []
theorem proL_snoc (l : List Ack) (a : Ack) : proL (l ++ [a]) = proStep (proL l) a := by unfold proL; rw [List.foldl_append]; rfl
theorem proL_succ (l : List Ack) (i : Nat) (h : i < l.length) : proL (l.take (i + 1)) = proStep (proL (l.take i)) l[i] := by rw [take_snoc' l i h, proL_snoc]
theorem proL_len (l : List Ack) : (proL l).length ≤ l.length := by
  refine rev_ind (p := fun l => (proL l).length ≤ l.length) (Nat.le_refl _) (fun l a ih => ?_) l
  rw [proL_snoc]
  unfold proStep
  split <;> simp <;> omega
theorem frIn_succ (o : List Ack) (r : Int) (k : Nat) (h : k < o.length) : frIn (o.take (k + 1)) r = (frIn (o.take k) r || decide (o[k].fr = r)) := by
  unfold frIn
  rw [take_snoc' o k h, List.any_append]
  simp
theorem frIn_false {o : List Ack} {r : Int} : frIn o r = false ↔ r ∉ o.map Ack.fr := by
  unfold frIn
  rw [List.any_eq_false]
  simp
/-- Proposals, each of another replica. -/
def onceP (l : List Ack) : Prop := (∀ a ∈ l, a.kind = 1) ∧ (l.map Ack.fr).Nodup
theorem proL_once (l : List Ack) : onceP (proL l) := by
  refine rev_ind (p := fun l => onceP (proL l)) ⟨fun _ h => (by cases h), List.nodup_nil⟩ (fun l a ih => ?_) l
  rw [proL_snoc]
  unfold proStep
  split
  · rename_i h
    refine ⟨fun b hb => ?_, ?_⟩
    · rcases List.mem_append.1 hb with hb | hb
      · exact ih.1 b hb
      · rw [List.mem_singleton] at hb; subst hb; exact h.1
    · rw [List.map_append, List.map_singleton, List.nodup_append]
      refine ⟨ih.2, by simp, fun x hx y hy => ?_⟩
      rw [List.mem_singleton] at hy
      subst hy
      intro e
      subst e
      exact frIn_false.1 h.2 hx
  · exact ih
theorem onceP_filter {l : List Ack} (h : onceP l) (q : Int) : onceP (inQ q l) :=
  ⟨fun a ha => h.1 a (List.mem_filter.1 ha).1, h.2.sublist (List.filter_sublist.map _)⟩
theorem onceP_rev {l : List Ack} (h : onceP l) : onceP l.reverse :=
  ⟨fun a ha => h.1 a (List.mem_reverse.1 ha), by rw [List.map_reverse]; exact (List.reverse_perm _).nodup_iff.2 h.2⟩
theorem propM_once : ∀ {l : List Ack}, onceP l → propM l = l.map fun a => (a.fr, a.t) := by
  intro l
  refine rev_ind (p := fun l => onceP l → propM l = l.map fun a => (a.fr, a.t)) (fun _ => rfl) (fun l a ih h => ?_) l
  obtain ⟨h1, h2⟩ := h
  rw [List.map_append, List.map_singleton, List.nodup_append] at h2
  have hl : onceP l := ⟨fun b hb => h1 b (List.mem_append_left _ hb), h2.1⟩
  have hk : lookI (l.map fun a => (a.fr, a.t)) a.fr = none := lookI_none.2 fun x hx => by
    obtain ⟨b, hb, rfl⟩ := List.mem_map.1 hx
    exact h2.2.2 _ (List.mem_map_of_mem hb) _ (by simp)
  rw [propM_snoc, ih hl, List.map_append]
  exact if_pos ⟨h1 a (by simp), hk⟩
theorem inQ_rev (q : Int) (l : List Ack) : inQ q l.reverse = (inQ q l).reverse := List.filter_reverse ..
theorem look_once {l : List Ack} (h : onceP l) {r v : Int} : lookI (propM l) r = some v ↔ ∃ a ∈ l, a.fr = r ∧ a.t = v := by
  have hn := propM_nodup l
  rw [propM_once h] at hn ⊢
  constructor
  · intro e
    obtain ⟨a, ha, e⟩ := List.mem_map.1 (lookI_mem e)
    injection e with e1 e2
    exact ⟨a, ha, e1, e2⟩
  · rintro ⟨a, ha, rfl, rfl⟩
    exact lookI_of hn (List.mem_map.2 ⟨a, ha, rfl⟩)
theorem look_rev {l : List Ack} (h : onceP l) (r : Int) : lookI (propM l.reverse) r = lookI (propM l) r := by
  cases e : lookI (propM l) r with
  | some v =>
    obtain ⟨a, ha, h1⟩ := (look_once h).1 e
    exact (look_once (onceP_rev h)).2 ⟨a, List.mem_reverse.2 ha, h1⟩
  | none =>
    cases e2 : lookI (propM l.reverse) r with
    | none => rfl
    | some v =>
      obtain ⟨a, ha, h1⟩ := (look_once (onceP_rev h)).1 e2
      rw [(look_once h).2 ⟨a, List.mem_reverse.1 ha, h1⟩] at e
      cases e
theorem time_once {l : List Ack} (h : onceP l) : timeF l = maxI (l.map Ack.t) := by
  unfold timeF
  rw [propM_once h, List.map_map]
  rfl
theorem cnt_once {l : List Ack} (h : onceP l) (t : Int) : cntV (propM l) t = (l.filter fun a => decide (a.t = t)).length := by
  unfold cntV
  rw [propM_once h, List.filter_map, List.length_map]
  rfl
theorem dec_rev {l : List Ack} (h : onceP l) (f q : Int) : decF f q l.reverse = decF f q l := by
  have h1 := onceP_filter h q
  have e1 : readyF q (inQ q l.reverse) = readyF q (inQ q l) := by
    unfold readyF
    rw [inQ_rev]
    simp only [look_rev h1]
  have e2 : timeF (inQ q l.reverse) = timeF (inQ q l) := by
    rw [inQ_rev, time_once (onceP_rev h1), time_once h1, List.map_reverse]
    exact maxI_perm fun x => List.mem_reverse
  have e3 : votesF (inQ q l.reverse) = votesF (inQ q l) := by
    unfold votesF
    rw [e2, inQ_rev, cnt_once (onceP_rev h1), cnt_once h1, List.filter_reverse, List.length_reverse]
  unfold decF
  rw [e1, e2, e3]
/-- What a quorum decides is proposed. -/
theorem dec_one {l : List Ack} {f q : Int} (h : onceP l) (hr : readyF q (inQ q l) = true) : (∃ a ∈ inQ q l, a.t = timeF (inQ q l)) ∧ ∀ a ∈ inQ q l, a.t ≤ timeF (inQ q l) := by
  have h1 := onceP_filter h q
  rw [time_once h1]
  obtain ⟨g1, g2, g3⟩ := maxI_spec ((inQ q l).map Ack.t)
  refine ⟨?_, fun a ha => g1 _ (List.mem_map_of_mem ha)⟩
  unfold readyF at hr
  rw [Bool.and_eq_true, List.all_eq_true, decide_eq_true_iff] at hr
  obtain ⟨r, hr2⟩ := List.exists_mem_of_length_pos hr.2
  have := of_decide_eq_true (hr.1 r hr2)
  cases e : lookI (propM (inQ q l)) r with
  | none => rw [e] at this; exact absurd this (by decide)
  | some v =>
    rw [e] at this
    obtain ⟨a, ha, -, rfl⟩ := (look_once h1).1 e
    have hp := g1 _ (List.mem_map_of_mem (f := Ack.t) ha)
    have hv : 1 ≤ a.t := this
    obtain ⟨b, hb, e⟩ := List.mem_map.1 (g3 (by omega))
    exact ⟨b, hb, e⟩
end Go.Proofs.Ytlicjlahnbebcaa
