/- Plain words for sizes and sets. -/
import Derived.Test.YtflnfdepklnlkaaPB
namespace Go.Proofs.Ytflnfdepklnlkaa
set_option linter.unusedSimpArgs false
set_option linter.unusedVariables false
set_option linter.unusedSectionVars false
open Go.RowKit
def manyB (n : Int) : Bool := decide (3 ≤ n ∧ n ≤ 9)
def mayB (set : Int) : Bool := decide (0 ≤ set ∧ set ≤ 511)
def replB (r : Int) : Bool := decide (1 ≤ r ∧ r ≤ 9)
theorem replB_iff {r : Int} : replB r = true ↔ 1 ≤ r ∧ r ≤ 9 := by unfold replB; exact decide_eq_true_iff
theorem mayB_iff {r : Int} : mayB r = true ↔ 0 ≤ r ∧ r ≤ 511 := by unfold mayB; exact decide_eq_true_iff
theorem manyB_iff {r : Int} : manyB r = true ↔ 3 ≤ r ∧ r ≤ 9 := by unfold manyB; exact decide_eq_true_iff
def sizeB (n f : Int) : Bool := manyB n && decide (1 ≤ f ∧ f ≤ (n - 1) / 2)
theorem sizeB_iff {n f : Int} : sizeB n f = true ↔ 3 ≤ n ∧ n ≤ 9 ∧ 1 ≤ f ∧ 2 * f ≤ n - 1 := by
  unfold sizeB
  rw [Bool.and_eq_true, manyB_iff, decide_eq_true_iff]
  omega
theorem sizeB_not {n f : Int} : sizeB n f = false ↔ ¬ (3 ≤ n ∧ n ≤ 9 ∧ 1 ≤ f ∧ 2 * f ≤ n - 1) := by
  rw [← sizeB_iff]; cases sizeB n f <;> simp
theorem errI_t {b : Bool} {x : Int} (h : b = true) : errI b x = 0 := by rw [h]; rfl
theorem errI_f {b : Bool} {x : Int} (h : b = false) : errI b x = x := by rw [h]; rfl
theorem errI2 {b : Bool} : errI b 2 = 0 ↔ b = true := by cases b <;> simp [errI]
theorem errI2' {b : Bool} : 0 = errI b 2 ↔ b = true := by cases b <;> simp [errI]
theorem sizeB_m {n f : Int} (h : manyB n = false) : sizeB n f = false := by unfold sizeB; rw [h]; rfl
def ics (x : Int) : List PV := [.v (.int .i64 x)]
abbrev PV.int (x : Int) : PV := .v (.int .i64 x)
abbrev PV.ints (l : List Int) : PV := .sl 1 (l.map ics)
theorem errI_wrap {b : Bool} : IntKind.i64.wrap (errI b 2) = errI b 2 := by cases b <;> decide
/-- How the facts of a branch on sizes are put. -/
theorem lB : (∀ n : Int, (manyB n = true) = (3 ≤ n ∧ n ≤ 9)) ∧ (∀ n : Int, (mayB n = true) = (0 ≤ n ∧ n ≤ 511)) ∧ (∀ n : Int, (replB n = true) = (1 ≤ n ∧ n ≤ 9)) ∧ (∀ n f : Int, (sizeB n f = true) = (3 ≤ n ∧ n ≤ 9 ∧ 1 ≤ f ∧ 2 * f ≤ n - 1)) ∧ (∀ n f : Int, (sizeB n f = false) = ¬ (3 ≤ n ∧ n ≤ 9 ∧ 1 ≤ f ∧ 2 * f ≤ n - 1)) ∧ (∀ b : Bool, (errI b 2 = 0) = (b = true)) ∧ (∀ b : Bool, (0 = errI b 2) = (b = true)) :=
  ⟨fun _ => propext manyB_iff, fun _ => propext mayB_iff, fun _ => propext replB_iff, fun _ _ => propext sizeB_iff, fun _ _ => propext sizeB_not, fun _ => propext errI2, fun _ => propext errI2'⟩
/-- How the facts of a branch are put, all. -/
theorem lC : ((∀ n : Int, (manyB n = true) = (3 ≤ n ∧ n ≤ 9)) ∧ (∀ n : Int, (mayB n = true) = (0 ≤ n ∧ n ≤ 511)) ∧ (∀ n : Int, (replB n = true) = (1 ≤ n ∧ n ≤ 9)) ∧ (∀ n f : Int, (sizeB n f = true) = (3 ≤ n ∧ n ≤ 9 ∧ 1 ≤ f ∧ 2 * f ≤ n - 1)) ∧ (∀ n f : Int, (sizeB n f = false) = ¬ (3 ≤ n ∧ n ≤ 9 ∧ 1 ≤ f ∧ 2 * f ≤ n - 1)) ∧ (∀ b : Bool, (errI b 2 = 0) = (b = true)) ∧ (∀ b : Bool, (0 = errI b 2) = (b = true))) ∧ ((∀ p : Prop, (tst p = true) = p) ∧ (∀ p : Prop, (tst p = false) = ¬ p) ∧ (∀ b : Bool, ((!b) = true) = (b = false)) ∧ (∀ b : Bool, ((!b) = false) = (b = true)) ∧ (∀ a b : Int, (¬ a < b) = (b ≤ a)) ∧ (∀ a b : Int, (¬ a ≤ b) = (b < a)) ∧ (∀ (α : Type) (f : α → List PV) (l : List α), (l.map f).length = l.length) ∧ ((!true) = false) ∧ ((!false) = true) ∧ ((true = false) = False) ∧ ((false = true) = False) ∧ ((¬ True) = False) ∧ ((¬ False) = True) ∧ (∀ p : Prop, (p ∧ True) = p) ∧ (∀ p : Prop, (True ∧ p) = p) ∧ (∀ p : Prop, (p ∧ False) = False) ∧ (∀ p : Prop, (False ∧ p) = False) ∧ (∀ b : Bool, (b == b) = true) ∧ (∀ h : Decidable True, @decide True h = true) ∧ (∀ h : Decidable False, @decide False h = false)) := ⟨lB, sB⟩
/-- Every slice has a length. -/
theorem PW.bound {P : Program} {X : XF} {w0 : World} {c : Code} {σ : St} {K : Exit → St → Prop} (x : Operand) {sz : Nat} {xs : List (List PV)} (h : σ.ev x = some (.sl sz xs)) (k : xs.length ≤ 9223372036854775807 → PW P X w0 c σ K) : PW P X w0 c σ K := ⟨fun a w μ s => by
  have h1 := eval_tmp s h
  simp only [Rep] at h1
  obtain ⟨A, c', _, h2, h3, _⟩ := h1
  have : maxLen = 9223372036854775807 := by decide
  exact (k (by omega)).run a w μ s⟩
/-- The bit of replica r. -/
def bitB (set r : Int) : Bool := decide (set / 2 ^ (r - 1).toNat % 2 = 1)
def hasB (set r : Int) : Bool := mayB set && (replB r && bitB set r)
theorem ofInt_i64 (a : Nat) (_ha : a < 9223372036854775808) : (BitVec.ofInt 64 (a : Int)).toNat = a := by
  rw [BitVec.ofInt_natCast, BitVec.toNat_ofNat]; exact Nat.mod_eq_of_lt (by omega)
theorem i64_and_nat (a b : Nat) (ha : a < 9223372036854775808) (hb : b < 9223372036854775808) : bitI .and .i64 (a : Int) (b : Int) = ((a &&& b : Nat) : Int) := by
  have hx : a &&& b < 2 ^ 63 := Nat.and_lt_two_pow _ (by omega)
  show IntKind.i64.wrap ((BitVec.ofInt 64 (a : Int) &&& BitVec.ofInt 64 (b : Int)).toNat : Int) = _
  rw [BitVec.toNat_and, ofInt_i64 a ha, ofInt_i64 b hb, IntKind.wrap_i64]
  omega
theorem i64_or_nat (a b : Nat) (ha : a < 9223372036854775808) (hb : b < 9223372036854775808) : bitI .or .i64 (a : Int) (b : Int) = ((a ||| b : Nat) : Int) := by
  have hx : a ||| b < 2 ^ 63 := Nat.or_lt_two_pow (by omega) (by omega)
  show IntKind.i64.wrap ((BitVec.ofInt 64 (a : Int) ||| BitVec.ofInt 64 (b : Int)).toNat : Int) = _
  rw [BitVec.toNat_or, ofInt_i64 a ha, ofInt_i64 b hb, IntKind.wrap_i64]
  omega
theorem and_one (a : Int) (h0 : 0 ≤ a) (h1 : a ≤ 1000000) : bitI .and .i64 a 1 = a % 2 := by
  obtain ⟨n, rfl⟩ := Int.eq_ofNat_of_zero_le h0
  have h := i64_and_nat n 1 (by omega) (by omega)
  rw [show ((1 : Nat) : Int) = 1 from rfl] at h
  rw [h, Nat.and_one_is_mod]
  omega
theorem shr_bit (set r : Int) (h0 : 0 ≤ set) (h1 : set ≤ 511) (hr : 1 ≤ r) (hr' : r ≤ 9) : bitI .and .i64 (set.fdiv (2 ^ (min (r - 1).toNat IntKind.i64.bits))) 1 = set / 2 ^ (r - 1).toNat % 2 := by
  obtain ⟨n, hn⟩ : ∃ n : Nat, (r - 1).toNat = n := ⟨_, rfl⟩
  have hle : n ≤ 8 := by omega
  have hb : IntKind.i64.bits = 64 := rfl
  rw [hn, hb, show min n 64 = n from by omega, Int.fdiv_eq_ediv_of_nonneg _ (Int.le_of_lt (Int.pow_pos (by decide)))]
  have h2 : (0 : Int) ≤ set / 2 ^ n := Int.ediv_nonneg h0 (Int.le_of_lt (Int.pow_pos (by decide)))
  have h3 : set / 2 ^ n ≤ set := Int.ediv_le_self _ h0
  exact and_one _ h2 (by omega)
theorem shl_bit (r : Int) (hr : 1 ≤ r) (hr' : r ≤ 9) : IntKind.i64.wrap (1 * 2 ^ (min (r - 1).toNat IntKind.i64.bits)) = ((2 ^ (r - 1).toNat : Nat) : Int) := by
  obtain ⟨n, hn⟩ : ∃ n : Nat, (r - 1).toNat = n := ⟨_, rfl⟩
  have hle : n ≤ 8 := by omega
  have hb : IntKind.i64.bits = 64 := rfl
  rw [hn, hb, show min n 64 = n from by omega]
  have : n = 0 ∨ n = 1 ∨ n = 2 ∨ n = 3 ∨ n = 4 ∨ n = 5 ∨ n = 6 ∨ n = 7 ∨ n = 8 := by omega
  rcases this with rfl | rfl | rfl | rfl | rfl | rfl | rfl | rfl | rfl <;> decide
/-- The set of a list. -/
def orN (l : List Int) : Nat := l.foldl (fun m r => if replB r then m ||| 2 ^ (r - 1).toNat else m) 0
theorem orN_snoc (l : List Int) (r : Int) : orN (l ++ [r]) = if replB r then orN l ||| 2 ^ (r - 1).toNat else orN l := by unfold orN; rw [List.foldl_append]; rfl
theorem orN_lt (l : List Int) : orN l < 512 := by
  unfold orN
  have : ∀ (l : List Int) (m : Nat), m < 512 → l.foldl (fun m r => if replB r then m ||| 2 ^ (r - 1).toNat else m) m < 512 := by
    intro l
    induction l with
    | nil => intro m h; exact h
    | cons r l ih =>
      intro m h
      rw [List.foldl_cons]
      refine ih _ ?_
      split
      · rename_i hr
        have := replB_iff.1 hr
        exact Nat.or_lt_two_pow (n := 9) (by omega) (Nat.pow_lt_pow_right (by decide) (by omega))
      · exact h
  exact this l 0 (by decide)
theorem or_step (n : Nat) (hn : n < 512) (r : Int) (hr : 1 ≤ r) (hr' : r ≤ 9) : bitI .or .i64 (n : Int) (IntKind.i64.wrap (1 * 2 ^ (min (r - 1).toNat IntKind.i64.bits))) = ((n ||| 2 ^ (r - 1).toNat : Nat) : Int) := by
  rw [shl_bit r hr hr']
  have : 2 ^ (r - 1).toNat < 2 ^ 9 := Nat.pow_lt_pow_right (by decide) (by omega)
  exact i64_or_nat n _ (by omega) (by omega)
theorem take_snoc' {α : Type} (l : List α) (k : Nat) (h : k < l.length) : l.take (k + 1) = l.take k ++ [l[k]] := List.take_succ_eq_append_getElem h
/-- Which replicas are in a set. -/
def listS (set : Int) (n : Nat) : List Int := (List.map (fun (i : Nat) => (i : Int) + 1) (List.range n)).filter (hasB set)
theorem listS_succ (set : Int) (n : Nat) : listS set (n + 1) = if hasB set ((n : Int) + 1) then listS set n ++ [(n : Int) + 1] else listS set n := by
  unfold listS
  rw [List.range_succ, List.map_append, List.filter_append]
  simp only [List.map_cons, List.map_nil, List.filter_cons, List.filter_nil]
  split <;> simp
theorem listS_len (set : Int) (n : Nat) : (listS set n).length ≤ n := by
  unfold listS
  refine Nat.le_trans (List.length_filter_le _ _) (by simp)
theorem listS_no {set : Int} (h : mayB set = false) (n : Nat) : listS set n = [] := by
  unfold listS
  rw [List.filter_eq_nil_iff]
  intro a _
  unfold hasB
  rw [h]
  simp
theorem orN_one {r : Int} (hr : 1 ≤ r) (hr' : r ≤ 9) : orN [r] = 2 ^ (r - 1).toNat := by
  have := orN_snoc [] r
  rw [List.nil_append] at this
  rw [this, if_pos (replB_iff.2 ⟨hr, hr'⟩)]
  show 0 ||| _ = _
  rw [Nat.zero_or]
theorem or_more (l : List Int) (r : Int) (hr : 1 ≤ r) (hr' : r ≤ 9) : bitI .or .i64 (orN l : Nat) (orN [r] : Nat) = (orN (l ++ [r]) : Nat) := by
  rw [orN_snoc, if_pos (replB_iff.2 ⟨hr, hr'⟩), orN_one hr hr']
  have h1 := orN_lt l
  have : 2 ^ (r - 1).toNat < 2 ^ 9 := Nat.pow_lt_pow_right (by decide) (by omega)
  exact i64_or_nat _ _ (by omega) (by omega)
end Go.Proofs.Ytflnfdepklnlkaa
