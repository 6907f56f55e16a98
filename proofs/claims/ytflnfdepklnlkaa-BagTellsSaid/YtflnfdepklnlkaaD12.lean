/- Layer 14: plain words for flights. -/
import Derived.Test.YtflnfdepklnlkaaG01
namespace Go.Proofs.Ytflnfdepklnlkaa
open Go.RowKit
set_option linter.unusedSimpArgs false
set_option linter.unusedVariables false
/-- Where the first one is; below 0: there is none. -/
def idxF {α : Type} (p : α → Bool) (l : List α) : Int := if l.any p then (l.findIdx p : Nat) else -1
theorem idxF_at {α : Type} {p : α → Bool} {l : List α} {k : Nat} (hk : k < l.length) (h0 : ∀ x ∈ l.take k, p x = false) (h1 : p l[k] = true) : idxF p l = k := by
  unfold idxF
  rw [if_pos (List.any_eq_true.2 ⟨l[k], List.getElem_mem _, h1⟩)]
  congr 1
  rw [List.findIdx_eq hk]
  refine ⟨h1, fun j hj => ?_⟩
  exact h0 _ (List.mem_take_iff_getElem.2 ⟨j, by omega, rfl⟩)
theorem idxF_no {α : Type} {p : α → Bool} {l : List α} (h : ∀ x ∈ l, p x = false) : idxF p l = -1 := by
  unfold idxF
  rw [if_neg (by rw [List.any_eq_true]; rintro ⟨x, hx, hp⟩; rw [h x hx] at hp; cases hp)]
theorem idxF_ge {α : Type} (p : α → Bool) (l : List α) : tst (0 ≤ idxF p l) = l.any p := by
  unfold idxF
  cases h : l.any p with
  | true => rw [if_pos rfl, tst_eq]; exact decide_eq_true (Int.natCast_nonneg _)
  | false => rw [if_neg (by simp), tst_eq]; rfl
theorem take_no {α : Type} {p : α → Bool} {l : List α} {k : Nat} (hk : k < l.length) (h0 : ∀ x ∈ l.take k, p x = false) (h1 : p l[k] = false) : ∀ x ∈ l.take (k + 1), p x = false := by
  intro x hx
  rw [take_snoc' l k hk, List.mem_append, List.mem_singleton] at hx
  rcases hx with hx | rfl
  · exact h0 x hx
  · exact h1
theorem take_all {α : Type} {p : α → Bool} {l : List α} {k : Nat} (hk : l.length ≤ k) (h0 : ∀ x ∈ l.take k, p x = false) : ∀ x ∈ l, p x = false := by rwa [List.take_of_length_le hk] at h0
theorem take_snocG {α : Type} (l : List α) (i : Nat) (h : i < l.length) : l.take (i + 1) = l.take i ++ [l[i]] := by
  rw [List.take_succ_eq_append_getElem h]
structure Fli where
  fr : Int
  ft : Int
  data : ByteArray
def Fli.sv (f : Fli) : List SV := [.i f.fr, .i f.ft, .s f.data]
def Fli.cs (f : Fli) : List PV := [PV.int f.fr, PV.int f.ft, .v (.string f.data)]
abbrev PV.bag (l : List Fli) : PV := .sl 3 (l.map Fli.cs)
theorem Fli.sv_inj {f g : Fli} : f.sv = g.sv ↔ f = g := by
  constructor
  · intro h
    obtain ⟨a, b, c⟩ := f
    obtain ⟨a', b', c'⟩ := g
    simp only [Fli.sv, List.cons.injEq, SV.i.injEq, SV.s.injEq, and_true] at h
    obtain ⟨rfl, rfl, rfl⟩ := h
    rfl
  · rintro rfl; rfl
def fliB (f : Fli) : Bool := decide (1 ≤ f.fr ∧ f.fr ≤ 9 ∧ 1 ≤ f.ft ∧ f.ft ≤ 9 ∧ f.fr ≠ f.ft ∧ f.data.size ≤ 20000)
theorem fliB_iff {f : Fli} : fliB f = true ↔ 1 ≤ f.fr ∧ f.fr ≤ 9 ∧ 1 ≤ f.ft ∧ f.ft ≤ 9 ∧ f.fr ≠ f.ft ∧ f.data.size ≤ 20000 := decide_eq_true_iff
/-- The error of a bag. -/
def bagE (l : List Fli) : Int := if l.all fliB then (if l.length ≤ 5000 then 0 else 3) else 2
def openF (cut : Int) (f : Fli) : Bool := hasB cut f.fr == hasB cut f.ft
def nextF (cut : Int) (l : List Fli) : Int := if l.any (openF cut) then (l.findIdx (openF cut) : Nat) else 0
def linkN (a b : Int) (l : List Fli) : Nat → List Int
  | 0 => []
  | k + 1 => linkN a b l k ++ (match l[k]? with
    | some f => if f.fr = a ∧ f.ft = b then [(k : Int)] else []
    | none => [])
theorem linkN_len (a b : Int) (l : List Fli) : ∀ k, (linkN a b l k).length ≤ k
  | 0 => Nat.zero_le _
  | k + 1 => by
    have := linkN_len a b l k
    rw [linkN, List.length_append]
    split
    · split <;> simp <;> omega
    · simp; omega
theorem linkN_yes {a b : Int} {l : List Fli} {k : Nat} (h : k < l.length) (h2 : l[k].fr = a ∧ l[k].ft = b) : linkN a b l (k + 1) = linkN a b l k ++ [(k : Int)] := by
  rw [linkN, List.getElem?_eq_getElem h]
  simp only
  rw [if_pos h2]
theorem linkN_no {a b : Int} {l : List Fli} {k : Nat} (h : k < l.length) (h2 : ¬ (l[k].fr = a ∧ l[k].ft = b)) : linkN a b l (k + 1) = linkN a b l k := by
  rw [linkN, List.getElem?_eq_getElem h]
  simp only
  rw [if_neg h2, List.append_nil]
def sendE (l : List Fli) (f : Fli) : Int := if bagE l ≠ 0 then bagE l else if fliB f = false then 2 else if l.length < 5000 then 0 else 8
def sendL (l : List Fli) (f : Fli) : List Fli := if sendE l f = 0 then l ++ [f] else []
def Fli.zero : Fli := ⟨0, 0, ⟨#[]⟩⟩
def takeE (l : List Fli) (k : Int) : Int := if bagE l ≠ 0 then bagE l else if 0 ≤ k ∧ k < l.length then 0 else 31
def takeF (l : List Fli) (k : Int) : Fli := if takeE l k = 0 then (l[k.toNat]?).getD Fli.zero else Fli.zero
def takeL (l : List Fli) (k : Int) : List Fli := if takeE l k = 0 then l.eraseIdx k.toNat else []
end Go.Proofs.Ytflnfdepklnlkaa
