/- Plain words for what is proposed, committed, executed, accepted and promised. -/
import Derived.Test.YtlicjlahnbebcaaS17
namespace Go.Proofs.Ytlicjlahnbebcaa
set_option linter.unusedSectionVars false
open Go.RowKit
set_option linter.unusedSimpArgs false
set_option linter.unusedVariables false
def Ent.up (e : Ent) (p t b ab : Int) (q : List Ack) : Ent := ⟨e.id, p, e.quorum, t, b, ab, e.seen, e.age, e.payload, q⟩
def timeB (t : Int) : Bool := decide (1 ≤ t ∧ t ≤ 1000000)
theorem timeB_iff {t : Int} : timeB t = true ↔ 1 ≤ t ∧ t ≤ 1000000 := by unfold timeB; exact decide_eq_true_iff
def needsB (e : Ent) : Bool := entB e && decide (e.phase = 1 ∧ e.bal = 0)
theorem needsB_iff {e : Ent} : needsB e = true ↔ entB e = true ∧ e.phase = 1 ∧ e.bal = 0 := by unfold needsB; rw [Bool.and_eq_true, decide_eq_true_iff]
def n2X (p : Int) : Int := if p = 0 ∨ p = 1 then 0 else if 0 ≤ p ∧ p ≤ 6 then 33 else 2
def n2P (p : Int) : Int := if p = 0 ∨ p = 1 then 2 else 0
def n3X (p : Int) : Int := if 0 ≤ p ∧ p ≤ 4 then 0 else if 0 ≤ p ∧ p ≤ 6 then 33 else 2
def n3P (p : Int) : Int := if 0 ≤ p ∧ p ≤ 4 then (if p = 2 ∨ p = 3 then 3 else 4) else 0
def n4P (p : Int) : Int := if 0 ≤ p ∧ p ≤ 4 then 5 else 0
def n5X (p : Int) : Int := if p = 5 then 0 else if 0 ≤ p ∧ p ≤ 6 then 33 else 2
def n5P (p : Int) : Int := if p = 5 then 6 else 0
def propX (e : Ent) (t : Int) : Int := if entB e = true ∧ timeB t = true then (if needsB e = true then 0 else 33) else 2
def propE (e : Ent) (t : Int) : Ent := if propX e t = 0 then e.up 2 t e.bal e.abal e.acks else e
def commX (e : Ent) (t : Int) : Int := if entB e = true ∧ timeB t = true then (if e.phase < 5 then 0 else 33) else 2
def commE (e : Ent) (t : Int) : Ent := if commX e t = 0 then e.up 5 t e.bal e.abal [] else e
def execX (e : Ent) : Int := if entB e = true then (if e.phase = 5 then 0 else 33) else 2
def execE (e : Ent) : Ent := if execX e = 0 then e.up 6 e.t e.bal e.abal e.acks else e
def accX (e : Ent) (t b : Int) : Int := if entB e = true ∧ timeB t = true ∧ timeB b = true then (if e.phase < 5 then (if e.bal ≤ b then 0 else 45) else 33) else 2
def accE (e : Ent) (t b : Int) : Ent := if accX e t b = 0 then e.up e.phase t b b [] else e
def promX (e : Ent) (b t : Int) : Int := if entB e = true ∧ timeB b = true ∧ (needsB e = true → timeB t = true) then (if e.phase < 5 then (if e.bal < b then 0 else 45) else 33) else 2
def promE (e : Ent) (b t : Int) : Ent := if promX e b t = 0 then e.up (if e.bal = 0 then n3P e.phase else e.phase) (if needsB e = true then t else e.t) b e.abal [] else e
structure Act3 where
  kind : Int
  t : Int
  bal : Int
def Act3.cs (a : Act3) : List PV := [PV.int a.kind, PV.int a.t, PV.int a.bal]
def doX (e : Ent) (a : Act3) : Int := if a.kind = 0 then propX e a.t else if a.kind = 1 then accX e a.t a.bal else if a.kind = 2 then promX e a.bal a.t else if a.kind = 3 then commX e a.t else execX e
def doE (e : Ent) (a : Act3) : Ent := if a.kind = 0 then propE e a.t else if a.kind = 1 then accE e a.t a.bal else if a.kind = 2 then promE e a.bal a.t else if a.kind = 3 then commE e a.t else execE e

theorem ent_facts {e : Ent} (h : entB e = true) : 1 ≤ e.phase ∧ e.phase ≤ 6 ∧ 0 ≤ e.t ∧ e.t ≤ 1000000 ∧ 0 ≤ e.bal ∧ e.bal ≤ 1000000 ∧ 0 ≤ e.abal ∧ e.abal ≤ e.bal ∧ ((2 ≤ e.phase ∧ e.phase ≤ 4 ∨ e.phase = 5 ∨ e.phase = 6 ∨ 0 < e.abal ↔ 0 < e.t) ∧ (0 < e.abal ∨ e.phase = 5 ∨ e.phase = 6 ∨ (0 < e.bal ↔ e.phase = 3 ∨ e.phase = 4))) ∧ (e.phase < 5 ∨ e.acks.length = 0) := by
  obtain ⟨_, h2, h3, _, _, _, h7, h8, _, h10⟩ := entB_iff.1 h
  have := numB_iff.1 h7
  exact ⟨h2, h3, this.1, this.2.1, this.2.2.1, this.2.2.2.1, this.2.2.2.2.1, this.2.2.2.2.2.1, toldB_iff.1 h8, h10⟩
theorem up_ent {e : Ent} {p t b ab : Int} {q : List Ack} (h : entB e = true) (h1 : 1 ≤ p ∧ p ≤ 6) (h2 : 0 ≤ t ∧ t ≤ 1000000 ∧ 0 ≤ b ∧ b ≤ 1000000 ∧ 0 ≤ ab ∧ ab ≤ b)
    (h3 : (2 ≤ p ∧ p ≤ 4 ∨ p = 5 ∨ p = 6 ∨ 0 < ab ↔ 0 < t) ∧ (0 < ab ∨ p = 5 ∨ p = 6 ∨ (0 < b ↔ p = 3 ∨ p = 4))) (h4 : acksB q = true) (h5 : p < 5 ∨ q.length = 0) : entB (e.up p t b ab q) = true := by
  obtain ⟨k1, _, _, k4, k5, k6, k7, _, _, _⟩ := entB_iff.1 h
  obtain ⟨_, _, _, _, _, _, n7, n8, n9, n10⟩ := numB_iff.1 k7
  exact entB_iff.2 ⟨k1, h1.1, h1.2, k4, k5, k6, numB_iff.2 ⟨h2.1, h2.2.1, h2.2.2.1, h2.2.2.2.1, h2.2.2.2.2.1, h2.2.2.2.2.2, n7, n8, n9, n10⟩, toldB_iff.2 h3, h4, h5⟩
theorem acks_of {e : Ent} (h : entB e = true) : acksB e.acks = true := (entB_iff.1 h).2.2.2.2.2.2.2.2.1
theorem acks_nil : acksB [] = true := by decide
theorem prop_ok {e : Ent} {t : Int} (h : propX e t = 0) : entB e = true ∧ (1 ≤ t ∧ t ≤ 1000000) ∧ e.phase = 1 ∧ e.bal = 0 := by
  unfold propX at h
  split at h
  · split at h
    · rename_i h1 h2
      exact ⟨h1.1, timeB_iff.1 h1.2, (needsB_iff.1 h2).2⟩
    · cases h
  · cases h
theorem comm_ok {e : Ent} {t : Int} (h : commX e t = 0) : entB e = true ∧ (1 ≤ t ∧ t ≤ 1000000) ∧ e.phase < 5 := by
  unfold commX at h
  split at h
  · split at h
    · rename_i h1 h2
      exact ⟨h1.1, timeB_iff.1 h1.2, h2⟩
    · cases h
  · cases h
theorem exec_ok {e : Ent} (h : execX e = 0) : entB e = true ∧ e.phase = 5 := by
  unfold execX at h
  split at h
  · split at h
    · exact ⟨‹_›, ‹_›⟩
    · cases h
  · cases h
theorem acc_ok {e : Ent} {t b : Int} (h : accX e t b = 0) : entB e = true ∧ (1 ≤ t ∧ t ≤ 1000000) ∧ (1 ≤ b ∧ b ≤ 1000000) ∧ e.phase < 5 ∧ e.bal ≤ b := by
  unfold accX at h
  split at h
  · split at h
    · split at h
      · rename_i h1 h2 h3
        exact ⟨h1.1, timeB_iff.1 h1.2.1, timeB_iff.1 h1.2.2, h2, h3⟩
      · cases h
    · cases h
  · cases h
theorem prom_ok {e : Ent} {b t : Int} (h : promX e b t = 0) : entB e = true ∧ (1 ≤ b ∧ b ≤ 1000000) ∧ (needsB e = true → 1 ≤ t ∧ t ≤ 1000000) ∧ e.phase < 5 ∧ e.bal < b := by
  unfold promX at h
  split at h
  · split at h
    · split at h
      · rename_i h1 h2 h3
        exact ⟨h1.1, timeB_iff.1 h1.2.1, fun hn => timeB_iff.1 (h1.2.2 hn), h2, h3⟩
      · cases h
    · cases h
  · cases h
theorem needs_of {e : Ent} (h : entB e = true) : needsB e = decide (e.phase = 1 ∧ e.bal = 0) := by unfold needsB; rw [h]; rfl
/-- What an act does keeps. -/
structure Kept (e x : Ent) : Prop where
  ent : entB x = true
  bal : e.bal ≤ x.bal
  abal : e.abal ≤ x.abal
  id : x.id = e.id
  payload : x.payload = e.payload
  quorum : x.quorum = e.quorum
  settled : 5 ≤ e.phase → x.t = e.t ∧ e.phase ≤ x.phase
theorem Kept.refl {e : Ent} (h : entB e = true) : Kept e e := ⟨h, Int.le_refl _, Int.le_refl _, rfl, rfl, rfl, fun _ => ⟨rfl, Int.le_refl _⟩⟩
theorem prop_kept {e : Ent} {t : Int} (h : entB e = true) : Kept e (propE e t) := by
  unfold propE
  split
  · rename_i hx
    obtain ⟨_, h2, h3, h4⟩ := prop_ok hx
    have f := ent_facts h
    exact ⟨up_ent h (by omega) (by omega) (by omega) (acks_of h) (by omega), Int.le_refl _, Int.le_refl _, rfl, rfl, rfl, fun hp => by omega⟩
  · exact Kept.refl h
theorem comm_kept {e : Ent} {t : Int} (h : entB e = true) : Kept e (commE e t) := by
  unfold commE
  split
  · rename_i hx
    obtain ⟨_, h2, h3⟩ := comm_ok hx
    have f := ent_facts h
    exact ⟨up_ent h (by omega) (by omega) (by omega) acks_nil (.inr rfl), Int.le_refl _, Int.le_refl _, rfl, rfl, rfl, fun hp => by omega⟩
  · exact Kept.refl h
theorem exec_kept {e : Ent} (h : entB e = true) : Kept e (execE e) := by
  unfold execE
  split
  · rename_i hx
    obtain ⟨_, h2⟩ := exec_ok hx
    have f := ent_facts h
    exact ⟨up_ent h (by omega) (by omega) (by omega) (acks_of h) (by omega), Int.le_refl _, Int.le_refl _, rfl, rfl, rfl, fun hp => ⟨rfl, by show e.phase ≤ 6; omega⟩⟩
  · exact Kept.refl h
theorem acc_kept {e : Ent} {t b : Int} (h : entB e = true) : Kept e (accE e t b) := by
  unfold accE
  split
  · rename_i hx
    obtain ⟨_, h2, h3, h4, h5⟩ := acc_ok hx
    have f := ent_facts h
    exact ⟨up_ent h (by omega) (by omega) (by omega) acks_nil (.inr rfl), h5, by show e.abal ≤ b; omega, rfl, rfl, rfl, fun hp => by omega⟩
  · exact Kept.refl h
theorem prom_kept {e : Ent} {b t : Int} (h : entB e = true) : Kept e (promE e b t) := by
  unfold promE
  split
  · rename_i hx
    obtain ⟨_, h2, h3, h4, h5⟩ := prom_ok hx
    have f := ent_facts h
    have hn := needsB_iff (e := e)
    have hp : 1 ≤ (if e.bal = 0 then n3P e.phase else e.phase) ∧ (if e.bal = 0 then n3P e.phase else e.phase) ≤ 4 ∧ (e.bal = 0 → (if e.bal = 0 then n3P e.phase else e.phase) = 3 ∨ (if e.bal = 0 then n3P e.phase else e.phase) = 4) ∧ (e.bal ≠ 0 → (if e.bal = 0 then n3P e.phase else e.phase) = e.phase) := by
      unfold n3P
      repeat' split
      all_goals omega
    have ht : (needsB e = true → (if needsB e = true then t else e.t) = t) ∧ (¬ needsB e = true → (if needsB e = true then t else e.t) = e.t) := ⟨fun h => if_pos h, fun h => if_neg h⟩
    generalize (if e.bal = 0 then n3P e.phase else e.phase) = p' at hp
    generalize (if needsB e = true then t else e.t) = t' at ht
    rw [h] at hn
    simp only [true_and] at hn
    by_cases hb : e.phase = 1 ∧ e.bal = 0
    · have h6 := h3 (hn.2 hb)
      have h7 := ht.1 (hn.2 hb)
      exact ⟨up_ent h (by omega) (by omega) (by omega) acks_nil (.inr rfl), by show e.bal ≤ b; omega, Int.le_refl _, rfl, rfl, rfl, fun hp => by omega⟩
    · have h7 := ht.2 (fun hx => hb (hn.1 hx))
      exact ⟨up_ent h (by omega) (by omega) (by omega) acks_nil (.inr rfl), by show e.bal ≤ b; omega, Int.le_refl _, rfl, rfl, rfl, fun hp => by omega⟩
  · exact Kept.refl h
theorem do_kept {e : Ent} {a : Act3} (h : entB e = true) : Kept e (doE e a) := by
  unfold doE
  split
  · exact prop_kept h
  split
  · exact acc_kept h
  split
  · exact prom_kept h
  split
  · exact comm_kept h
  · exact exec_kept h
theorem do_err {e : Ent} {a : Act3} (h : doX e a ≠ 0) : doE e a = e := by
  unfold doX at h
  unfold doE
  split
  · rw [if_pos ‹_›] at h; exact if_neg h
  rw [if_neg ‹_›] at h
  split
  · rw [if_pos ‹_›] at h; exact if_neg h
  rw [if_neg ‹_›] at h
  split
  · rw [if_pos ‹_›] at h; exact if_neg h
  rw [if_neg ‹_›] at h
  split
  · rw [if_pos ‹_›] at h; exact if_neg h
  rw [if_neg ‹_›] at h
  exact if_neg h
end Go.Proofs.Ytlicjlahnbebcaa
