/- Texts joined by wip/gen/kpack.py: D01 S10 S11 S12 S13 S14 S15 S16 S17 D20 U01 D02 V01 V02 V03 V04 V05 V06 T01 T02 T03 T04 U02 U03 W01 W02 W03 D21 D22 U06 U07 U08. -/
import Derived.Lib.Overlaps
import Derived.Shelf.Spec.SlicesInsertGrow
import Derived.Test.YtbjepdfnmbdplaaGreatKC3
section
namespace Go.Proofs.YtbjepdfnmbdplaaGreat
set_option linter.unusedSectionVars false
open Go.RowKit
set_option linter.unusedSimpArgs false
set_option linter.unusedVariables false
structure Ack where
  kind : Int
  fr : Int
  bal : Int
  t : Int
  abal : Int
  phase : Int
deriving DecidableEq
def Ack.cs (a : Ack) : List PV := [PV.int a.kind, PV.int a.fr, PV.int a.bal, PV.int a.t, PV.int a.abal, PV.int a.phase]
structure Ent where
  id : Int
  phase : Int
  quorum : Int
  t : Int
  bal : Int
  abal : Int
  seen : Int
  age : Int
  payload : ByteArray
  acks : List Ack
def Ent.cs (e : Ent) : List PV := [PV.int e.id, PV.int e.phase, PV.int e.quorum, PV.int e.t, PV.int e.bal, PV.int e.abal, PV.int e.seen, PV.int e.age, .v (.string e.payload), .sl 6 (e.acks.map Ack.cs)]
def Ent.zero : Ent := ⟨0, 0, 0, 0, 0, 0, 0, 0, ⟨#[]⟩, []⟩
def within (n top : Int) : Bool := decide (0 ≤ n ∧ n ≤ top)
theorem within_iff {n top : Int} : within n top = true ↔ 0 ≤ n ∧ n ≤ top := by unfold within; exact decide_eq_true_iff
def idB (id : Int) : Bool := decide (11 ≤ id ∧ id ≤ 999999 ∧ id % 10 ≠ 0)
theorem idB_iff {id : Int} : idB id = true ↔ 11 ≤ id ∧ id ≤ 999999 ∧ id % 10 ≠ 0 := by unfold idB; exact decide_eq_true_iff
def selfI (id : Int) : Int := if idB id then id % 10 else 0
def seqI (id : Int) : Int := if idB id then id / 10 else 0
def phB (p : Int) : Bool := decide (0 ≤ p ∧ p ≤ 6)
def openB (p : Int) : Bool := decide (1 ≤ p ∧ p ≤ 4)
def settB (p : Int) : Bool := decide (p = 5 ∨ p = 6)
def propB (p : Int) : Bool := decide (2 ≤ p ∧ p ≤ 4)
theorem phB_iff {p : Int} : phB p = true ↔ 0 ≤ p ∧ p ≤ 6 := by unfold phB; exact decide_eq_true_iff
theorem openB_iff {p : Int} : openB p = true ↔ 1 ≤ p ∧ p ≤ 4 := by unfold openB; exact decide_eq_true_iff
theorem settB_iff {p : Int} : settB p = true ↔ (p = 5 ∨ p = 6) := by unfold settB; exact decide_eq_true_iff
theorem propB_iff {p : Int} : propB p = true ↔ 2 ≤ p ∧ p ≤ 4 := by unfold propB; exact decide_eq_true_iff
def ansB (a : Ack) : Bool := decide (1 ≤ a.kind ∧ a.kind ≤ 3 ∧ 1 ≤ a.fr ∧ a.fr ≤ 9 ∧ 0 ≤ a.t ∧ a.t ≤ 1000000 ∧ 0 ≤ a.bal ∧ a.bal ≤ 1000000 ∧ 0 ≤ a.abal ∧ a.abal ≤ 1000000 ∧ 0 ≤ a.phase ∧ a.phase ≤ 6)
def Ack.q (a : Ack) : Int × Int × Int := (a.kind, a.fr, a.bal)
def sameQ (q : Int × Int × Int) (a : Ack) : Bool := decide (a.q = q)
def hadB (l : List Ack) (a : Ack) : Bool := l.any (sameQ a.q)
def acksTo (l : List Ack) (n : Nat) : Bool := (List.range n).all fun i => match l[i]? with
  | some a => ansB a && !hadB (l.take i) a
  | none => true
def acksB (l : List Ack) : Bool := acksTo l l.length && decide (l.length ≤ 27)
theorem acksTo_succ (l : List Ack) (n : Nat) (h : n < l.length) : acksTo l (n + 1) = (acksTo l n && (ansB l[n] && !hadB (l.take n) l[n])) := by
  unfold acksTo
  rw [List.range_succ, List.all_append]
  simp [List.getElem?_eq_getElem h]
theorem acksB_no {l : List Ack} {i : Nat} (h : i < l.length) (hx : ansB l[i] = false ∨ hadB (l.take i) l[i] = true) : acksB l = false := by
  have : acksTo l l.length = false := by
    unfold acksTo
    rw [List.all_eq_false]
    refine ⟨i, List.mem_range.2 h, ?_⟩
    rw [List.getElem?_eq_getElem h]
    rcases hx with hx | hx <;> simp [hx]
  unfold acksB
  rw [this]
  rfl
theorem acksTo_next {l : List Ack} {i : Nat} (h : i < l.length) (h0 : acksTo l i = true) (h1 : ansB l[i] = true) (h2 : hadB (l.take i) l[i] = false) : acksTo l (i + 1) = true := by
  rw [acksTo_succ l i h, h0, h1, h2]
  rfl
theorem acksB_end {l : List Ack} {i : Nat} (hi : i = l.length) (h : acksTo l i = true) : tst ((l.length : Int) ≤ 27) = acksB l := by
  subst hi
  unfold acksB
  rw [h, Bool.true_and, tst_eq, decide_eq_decide]
  omega
def numB (e : Ent) : Bool := decide (0 ≤ e.t ∧ e.t ≤ 1000000 ∧ 0 ≤ e.bal ∧ e.bal ≤ 1000000 ∧ 0 ≤ e.abal ∧ e.abal ≤ e.bal ∧ 0 ≤ e.seen ∧ e.seen ≤ 1000000 ∧ 0 ≤ e.age ∧ e.age ≤ 1000000)
theorem numB_iff {e : Ent} : numB e = true ↔ 0 ≤ e.t ∧ e.t ≤ 1000000 ∧ 0 ≤ e.bal ∧ e.bal ≤ 1000000 ∧ 0 ≤ e.abal ∧ e.abal ≤ e.bal ∧ 0 ≤ e.seen ∧ e.seen ≤ 1000000 ∧ 0 ≤ e.age ∧ e.age ≤ 1000000 := by unfold numB; exact decide_eq_true_iff
def toldB (e : Ent) : Bool := decide ((2 ≤ e.phase ∧ e.phase ≤ 4 ∨ e.phase = 5 ∨ e.phase = 6 ∨ 0 < e.abal ↔ 0 < e.t) ∧ (0 < e.abal ∨ e.phase = 5 ∨ e.phase = 6 ∨ (0 < e.bal ↔ e.phase = 3 ∨ e.phase = 4)))
theorem toldB_iff {e : Ent} : toldB e = true ↔ ((2 ≤ e.phase ∧ e.phase ≤ 4 ∨ e.phase = 5 ∨ e.phase = 6 ∨ 0 < e.abal ↔ 0 < e.t) ∧ (0 < e.abal ∨ e.phase = 5 ∨ e.phase = 6 ∨ (0 < e.bal ↔ e.phase = 3 ∨ e.phase = 4))) := by unfold toldB; exact decide_eq_true_iff
def entB (e : Ent) : Bool := idB e.id && decide (1 ≤ e.phase ∧ e.phase ≤ 6) && mayB e.quorum && decide (e.quorum ≠ 0) && decide (e.payload.size ≤ 300) && numB e && toldB e && acksB e.acks && (decide (e.phase < 5) || e.acks.isEmpty)
def Ent.ack (e : Ent) (a : Ack) : Ent := { e with acks := e.acks ++ [a] }
def ackB (e : Ent) (a : Ack) : Bool := entB e && decide (e.phase < 5) && ansB a && decide (e.acks.length < 27) && !hadB e.acks a
def ackR (e : Ent) (a : Ack) : Ent := if ackB e a then e.ack a else e
def Ent.new (id quorum : Int) (p : ByteArray) : Ent := ⟨id, 1, quorum, 0, 0, 0, 0, 0, p, []⟩
def newR (id quorum : Int) (p : ByteArray) : Ent := if entB (.new id quorum p) then .new id quorum p else .zero
def ofL (l : List Ack) (kind bal : Int) : List Ack := l.filter fun a => decide (a.kind = kind ∧ a.bal = bal)
def whoN (e : Ent) (kind bal : Int) : Nat := orN ((ofL e.acks kind bal).map Ack.fr)
def Ent.same (a b : Ent) : Bool := decide (a.id = b.id ∧ a.phase = b.phase ∧ a.quorum = b.quorum ∧ a.t = b.t ∧ a.bal = b.bal ∧ a.abal = b.abal ∧ a.seen = b.seen ∧ a.age = b.age ∧ a.payload = b.payload ∧ a.acks = b.acks)
theorem Ent.same_iff {a b : Ent} : a.same b = true ↔ a = b := by
  unfold Ent.same
  rw [decide_eq_true_iff]
  cases a; cases b
  simp
theorem or_any (l : List Int) (r : Int) : bitI .or .i64 (orN l : Nat) (orN [r] : Nat) = (orN (l ++ [r]) : Nat) := by
  cases hr : replB r with
  | true =>
    have := replB_iff.1 hr
    exact or_more l r (by omega) (by omega)
  | false =>
    have h1 : orN [r] = 0 := by
      have := orN_snoc [] r
      rw [List.nil_append, hr] at this
      exact this
    rw [orN_snoc, hr, h1]
    have := i64_or_nat (orN l) 0 (by have := orN_lt l; omega) (by omega)
    rw [this]
    simp
theorem Ack.eq_list (a b : Ack) : ([a.kind, a.fr, a.bal, a.t, a.abal, a.phase] = [b.kind, b.fr, b.bal, b.t, b.abal, b.phase]) = (a = b) := by
  cases a; cases b
  simp
theorem cnt_any (q : Nat) (h : q < 512) (h0 : q ≠ 0) : (listS q 9).length ≠ 0 := by
  intro e
  have e := List.eq_nil_of_length_eq_zero e
  have hb : ∀ r : Nat, r < 9 → q.testBit r = false := by
    intro r hr
    have : hasB (q : Int) ((r : Int) + 1) = false := by
      cases hx : hasB (q : Int) ((r : Int) + 1) with
      | false => rfl
      | true =>
        have hm : (r : Int) + 1 ∈ listS q 9 := by
          unfold listS
          rw [List.mem_filter]
          exact ⟨List.mem_map.2 ⟨r, List.mem_range.2 hr, rfl⟩, hx⟩
        rw [e] at hm
        cases hm
    unfold hasB bitB at this
    rw [show mayB (q : Int) = true from mayB_iff.2 (by omega), replB_iff.2 (by omega)] at this
    simp only [Bool.true_and, show ((r : Int) + 1 - 1).toNat = r from by omega] at this
    rw [Nat.testBit_eq_decide_div_mod_eq]
    have e2 : (q : Int) / 2 ^ r = ((q / 2 ^ r : Nat) : Int) := by rw [Int.natCast_ediv, Int.natCast_pow]; rfl
    rw [e2] at this
    rw [decide_eq_false_iff_not] at this ⊢
    omega
  apply h0
  apply Nat.eq_of_testBit_eq
  intro r
  rw [Nat.zero_testBit]
  by_cases hr : r < 9
  · exact hb r hr
  · exact Nat.testBit_lt_two_pow (Nat.lt_of_lt_of_le h (show 2 ^ 9 ≤ 2 ^ r from Nat.pow_le_pow_right (by decide) (by omega)))
theorem cnt_zero (q : Int) : (((listS q 9).length : Int) = 0) = ¬ (1 ≤ q ∧ q ≤ 511) := by
  refine propext ⟨fun h hq => ?_, fun h => ?_⟩
  · obtain ⟨n, rfl⟩ := Int.eq_ofNat_of_zero_le (show 0 ≤ q by omega)
    exact cnt_any n (by omega) (by omega) (by omega)
  · by_cases h0 : q = 0
    · subst h0
      have : (listS 0 9).length = 0 := by decide +kernel
      rw [this]; rfl
    · have hm : mayB q = false := by
        cases e : mayB q with
        | false => rfl
        | true => have := mayB_iff.1 e; omega
      rw [listS_no hm]
      rfl
theorem entB_iff {e : Ent} : entB e = true ↔ idB e.id = true ∧ 1 ≤ e.phase ∧ e.phase ≤ 6 ∧ 1 ≤ e.quorum ∧ e.quorum ≤ 511 ∧ e.payload.size ≤ 300 ∧ numB e = true ∧ toldB e = true ∧ acksB e.acks = true ∧ (e.phase < 5 ∨ e.acks.length = 0) := by
  unfold entB
  simp only [Bool.and_eq_true, Bool.or_eq_true, decide_eq_true_eq, mayB_iff, List.isEmpty_iff, List.length_eq_zero_iff]
  constructor
  · rintro ⟨⟨⟨⟨⟨⟨⟨⟨a, b⟩, c⟩, d⟩, e⟩, f⟩, g⟩, h⟩, i⟩
    exact ⟨a, b.1, b.2, by omega, by omega, e, f, g, h, i⟩
  · rintro ⟨a, b, c, d, d', e, f, g, h, i⟩
    exact ⟨⟨⟨⟨⟨⟨⟨⟨a, b, c⟩, by omega, by omega⟩, by omega⟩, e⟩, f⟩, g⟩, h⟩, i⟩
theorem entB_not {e : Ent} (h : ¬ (idB e.id = true ∧ 1 ≤ e.phase ∧ e.phase ≤ 6 ∧ 1 ≤ e.quorum ∧ e.quorum ≤ 511 ∧ e.payload.size ≤ 300 ∧ numB e = true ∧ toldB e = true ∧ acksB e.acks = true ∧ (e.phase < 5 ∨ e.acks.length = 0))) : entB e = false := by
  cases e' : entB e with
  | false => rfl
  | true => exact absurd (entB_iff.1 e') h
theorem ofL_succ (l : List Ack) (k b : Int) (i : Nat) (h : i < l.length) : ofL (l.take (i + 1)) k b = if l[i].kind = k ∧ l[i].bal = b then ofL (l.take i) k b ++ [l[i]] else ofL (l.take i) k b := by
  unfold ofL
  rw [take_snoc' l i h, List.filter_append, List.filter_cons, List.filter_nil]
  by_cases hc : l[i].kind = k ∧ l[i].bal = b
  · rw [if_pos hc, if_pos (by simpa using hc)]
  · rw [if_neg hc, if_neg (by simpa using hc), List.append_nil]
theorem ofL_len (l : List Ack) (k b : Int) (i : Nat) : (ofL (l.take i) k b).length ≤ i := Nat.le_trans (List.length_filter_le _ _) (List.length_take_le _ _)
theorem lD0 : (∀ n t : Int, (within n t = true) = (0 ≤ n ∧ n ≤ t)) ∧ (∀ n t : Int, (within n t = false) = ¬ (0 ≤ n ∧ n ≤ t)) ∧ (∀ p : Int, (openB p = true) = (1 ≤ p ∧ p ≤ 4)) ∧ (∀ p : Int, (openB p = false) = ¬ (1 ≤ p ∧ p ≤ 4)) ∧ (∀ p : Int, (settB p = true) = (p = 5 ∨ p = 6)) ∧ (∀ p : Int, (settB p = false) = ¬ (p = 5 ∨ p = 6)) ∧ (∀ p : Int, (propB p = true) = (2 ≤ p ∧ p ≤ 4)) ∧ (∀ p : Int, (propB p = false) = ¬ (2 ≤ p ∧ p ≤ 4)) ∧ (∀ b : Bool, (errI b 31 = 0) = (b = true)) ∧ (∀ b : Bool, (errI b 33 = 0) = (b = true)) ∧ (∀ b : Bool, (0 = errI b 33) = (b = true)) ∧ (∀ b : Bool, (0 = errI b 31) = (b = true)) ∧ (∀ p : Int, (phB p = true) = (0 ≤ p ∧ p ≤ 6)) ∧ (∀ p : Int, (phB p = false) = ¬ (0 ≤ p ∧ p ≤ 6)) ∧ (∀ b : Bool, (true == b) = b) ∧ (∀ b : Bool, (b == true) = b) ∧ (∀ b : Bool, (false == b) = !b) ∧ (∀ b : Bool, (b == false) = !b) ∧ (∀ p q : Prop, (tst p == tst q) = tst (p ↔ q)) ∧ (∀ a b : Ack, ([a.kind, a.fr, a.bal, a.t, a.abal, a.phase] = [b.kind, b.fr, b.bal, b.t, b.abal, b.phase]) = (a = b)) ∧ (∀ q : Int, (((listS q 9).length : Int) = 0) = ¬ (1 ≤ q ∧ q ≤ 511)) := by
  have F : ∀ {b : Bool} {p : Prop}, (b = true ↔ p) → (b = false) = ¬ p := fun {b p} h => propext (by rw [← h]; cases b <;> simp)
  refine ⟨fun _ _ => propext within_iff, fun _ _ => F within_iff, fun _ => propext openB_iff, fun _ => F openB_iff, fun _ => propext settB_iff, fun _ => F settB_iff, fun _ => propext propB_iff, fun _ => F propB_iff, fun b => ?_, fun b => ?_, fun b => ?_, fun b => ?_, fun _ => propext phB_iff, fun _ => F phB_iff, fun b => ?_, fun b => ?_, fun b => ?_, fun b => ?_, fun p q => ?_, Ack.eq_list, cnt_zero⟩
  all_goals first | (cases b <;> simp [errI]; done) | skip
  rw [Bool.eq_iff_iff, tst_true]
  by_cases hp : p <;> by_cases hq : q <;> simp [tst_eq, hp, hq]
theorem lD : ((∀ n t : Int, (within n t = true) = (0 ≤ n ∧ n ≤ t)) ∧ (∀ n t : Int, (within n t = false) = ¬ (0 ≤ n ∧ n ≤ t)) ∧ (∀ p : Int, (openB p = true) = (1 ≤ p ∧ p ≤ 4)) ∧ (∀ p : Int, (openB p = false) = ¬ (1 ≤ p ∧ p ≤ 4)) ∧ (∀ p : Int, (settB p = true) = (p = 5 ∨ p = 6)) ∧ (∀ p : Int, (settB p = false) = ¬ (p = 5 ∨ p = 6)) ∧ (∀ p : Int, (propB p = true) = (2 ≤ p ∧ p ≤ 4)) ∧ (∀ p : Int, (propB p = false) = ¬ (2 ≤ p ∧ p ≤ 4)) ∧ (∀ b : Bool, (errI b 31 = 0) = (b = true)) ∧ (∀ b : Bool, (errI b 33 = 0) = (b = true)) ∧ (∀ b : Bool, (0 = errI b 33) = (b = true)) ∧ (∀ b : Bool, (0 = errI b 31) = (b = true)) ∧ (∀ p : Int, (phB p = true) = (0 ≤ p ∧ p ≤ 6)) ∧ (∀ p : Int, (phB p = false) = ¬ (0 ≤ p ∧ p ≤ 6)) ∧ (∀ b : Bool, (true == b) = b) ∧ (∀ b : Bool, (b == true) = b) ∧ (∀ b : Bool, (false == b) = !b) ∧ (∀ b : Bool, (b == false) = !b) ∧ (∀ p q : Prop, (tst p == tst q) = tst (p ↔ q)) ∧ (∀ a b : Ack, ([a.kind, a.fr, a.bal, a.t, a.abal, a.phase] = [b.kind, b.fr, b.bal, b.t, b.abal, b.phase]) = (a = b)) ∧ (∀ q : Int, (((listS q 9).length : Int) = 0) = ¬ (1 ≤ q ∧ q ≤ 511))) ∧ (((∀ n : Int, (manyB n = true) = (3 ≤ n ∧ n ≤ 9)) ∧ (∀ n : Int, (mayB n = true) = (0 ≤ n ∧ n ≤ 511)) ∧ (∀ n : Int, (replB n = true) = (1 ≤ n ∧ n ≤ 9)) ∧ (∀ n f : Int, (sizeB n f = true) = (3 ≤ n ∧ n ≤ 9 ∧ 1 ≤ f ∧ 2 * f ≤ n - 1)) ∧ (∀ n f : Int, (sizeB n f = false) = ¬ (3 ≤ n ∧ n ≤ 9 ∧ 1 ≤ f ∧ 2 * f ≤ n - 1)) ∧ (∀ b : Bool, (errI b 2 = 0) = (b = true)) ∧ (∀ b : Bool, (0 = errI b 2) = (b = true))) ∧ ((∀ p : Prop, (tst p = true) = p) ∧ (∀ p : Prop, (tst p = false) = ¬ p) ∧ (∀ b : Bool, ((!b) = true) = (b = false)) ∧ (∀ b : Bool, ((!b) = false) = (b = true)) ∧ (∀ a b : Int, (¬ a < b) = (b ≤ a)) ∧ (∀ a b : Int, (¬ a ≤ b) = (b < a)) ∧ (∀ (α : Type) (f : α → List PV) (l : List α), (l.map f).length = l.length) ∧ ((!true) = false) ∧ ((!false) = true) ∧ ((true = false) = False) ∧ ((false = true) = False) ∧ ((¬ True) = False) ∧ ((¬ False) = True) ∧ (∀ p : Prop, (p ∧ True) = p) ∧ (∀ p : Prop, (True ∧ p) = p) ∧ (∀ p : Prop, (p ∧ False) = False) ∧ (∀ p : Prop, (False ∧ p) = False) ∧ (∀ b : Bool, (b == b) = true) ∧ (∀ h : Decidable True, @decide True h = true) ∧ (∀ h : Decidable False, @decide False h = false))) := ⟨lD0, lC⟩
end Go.Proofs.YtbjepdfnmbdplaaGreat
end
section
namespace Go.Proofs.YtbjepdfnmbdplaaGreat
set_option linter.unusedSectionVars false
open Go.RowKit
set_option linter.unusedSimpArgs false
set_option linter.unusedVariables false
set_option maxRecDepth 100000
set_option maxHeartbeats 1000000
instance within_spec (n top : Int) : HasSpec Tryz.prog 216 [PV.int n, PV.int top] (.v (.bool (within n top))) := by
  refine ⟨?_⟩; refine Spec.ofR (h := fun F w0 => ?_)
  repeat' ((conv => whnf); first | refine Q.N ?_ | (refine Stk.both (fun hb => ?_) (fun hb => ?_) <;> (try simp only [lD] at hb) <;> (try (exfalso; omega)))); all_goals (conv => whnf)
  all_goals ((refine Q.r6 (h := ?_); repeat' (first | exact Q.r0 | refine Q.r1 ?_ ?_ | refine Q.r2 ?_ | exact Q.r7 | refine Q.r3 ?_ | refine Q.r4 ?_ | refine Q.r5 ?_)))
  all_goals ((first | rfl | (rw [Bool.eq_iff_iff]; simp only [tst_true, tst_false, within, decide_eq_true_eq, decide_eq_false_iff_not, Bool.and_eq_true, Bool.or_eq_true, Bool.not_eq_true', Bool.not_eq_false', Bool.false_eq_true, Bool.true_eq_false, true_iff, iff_true, false_iff, iff_false, true_and, and_true, false_and, and_false, not_false_eq_true, not_true_eq_false]; try omega)))
instance identcheck_spec (id : Int) : HasSpec Tryz.prog 178 [PV.int id] (PV.int (errI (idB id) 31)) := by
  refine ⟨?_⟩; refine Spec.ofR (h := fun F w0 => ?_)
  repeat' ((conv => whnf); first | refine Q.N ?_ | (refine Stk.both (fun hb => ?_) (fun hb => ?_) <;> (try simp only [lD] at hb) <;> (try (exfalso; omega)))); all_goals (conv => whnf)
  all_goals ((refine Q.r6 (h := ?_); repeat' (first | exact Q.r0 | refine Q.r1 ?_ ?_ | refine Q.r2 ?_ | exact Q.r7 | refine Q.r3 ?_ | refine Q.r4 ?_ | refine Q.r5 ?_)))
  all_goals (first | (rw [errI_t (idB_iff.2 (by omega))]; done) | (rw [errI_f (by cases e : idB id with | false => rfl | true => have := idB_iff.1 e; omega)]; done))
instance identself_spec (id : Int) : HasSpec Tryz.prog 131 [PV.int id] (PV.int (selfI id)) := by
  cases e : idB id with
  | true =>
    have h := idB_iff.1 e
    have hc := identcheck_spec id
    rw [e] at hc
    rw [show selfI id = id % 10 from if_pos e]
    refine ⟨?_⟩; refine Spec.ofR (h := fun F w0 => ?_)
    repeat' ((conv => whnf); first | refine Q.N ?_ | (refine Stk.both (fun hb => ?_) (fun hb => ?_) <;> (try simp only [lD] at hb) <;> (try (exfalso; omega)))); all_goals (conv => whnf)
    all_goals ((refine Q.r6 (h := ?_); repeat' (first | exact Q.r0 | refine Q.r1 ?_ ?_ | refine Q.r2 ?_ | exact Q.r7 | refine Q.r3 ?_ | refine Q.r4 ?_ | refine Q.r5 ?_)))
  | false =>
    have hc := identcheck_spec id
    rw [e] at hc
    rw [show selfI id = 0 from if_neg (by rw [e]; simp)]
    refine ⟨?_⟩; refine Spec.ofR (h := fun F w0 => ?_)
    repeat' ((conv => whnf); first | refine Q.N ?_ | (refine Stk.both (fun hb => ?_) (fun hb => ?_) <;> (try simp only [lD] at hb) <;> (try (exfalso; omega)))); all_goals (conv => whnf)
    all_goals ((refine Q.r6 (h := ?_); repeat' (first | exact Q.r0 | refine Q.r1 ?_ ?_ | refine Q.r2 ?_ | exact Q.r7 | refine Q.r3 ?_ | refine Q.r4 ?_ | refine Q.r5 ?_)))
instance phasecheck_spec (p : Int) : HasSpec Tryz.prog 217 [PV.int p] (PV.int (errI (phB p) 2)) := by
  refine ⟨?_⟩; refine Spec.ofR (h := fun F w0 => ?_)
  repeat' ((conv => whnf); first | refine Q.N ?_ | (refine Stk.both (fun hb => ?_) (fun hb => ?_) <;> (try simp only [lD] at hb) <;> (try (exfalso; omega)))); all_goals (conv => whnf)
  all_goals ((refine Q.r6 (h := ?_); repeat' (first | exact Q.r0 | refine Q.r1 ?_ ?_ | refine Q.r2 ?_ | exact Q.r7 | refine Q.r3 ?_ | refine Q.r4 ?_ | refine Q.r5 ?_)))
  all_goals (first | (rw [errI_t (phB_iff.2 (by omega))]; done) | (rw [errI_f (by cases e : phB p with | false => rfl | true => have := phB_iff.1 e; omega)]; done))
instance phaseopen_spec (n : Int) : HasSpec Tryz.prog 71 [PV.int n] (.v (.bool (openB n))) := by
  refine ⟨?_⟩; refine Spec.ofR (h := fun F w0 => ?_)
  repeat' ((conv => whnf); first | refine Q.N ?_ | (refine Stk.both (fun hb => ?_) (fun hb => ?_) <;> (try simp only [lD] at hb) <;> (try (exfalso; omega)))); all_goals (conv => whnf)
  all_goals ((refine Q.r6 (h := ?_); repeat' (first | exact Q.r0 | refine Q.r1 ?_ ?_ | refine Q.r2 ?_ | exact Q.r7 | refine Q.r3 ?_ | refine Q.r4 ?_ | refine Q.r5 ?_)))
  all_goals ((first | rfl | (rw [Bool.eq_iff_iff]; simp only [tst_true, tst_false, openB, decide_eq_true_eq, decide_eq_false_iff_not, Bool.and_eq_true, Bool.or_eq_true, Bool.not_eq_true', Bool.not_eq_false', Bool.false_eq_true, Bool.true_eq_false, true_iff, iff_true, false_iff, iff_false, true_and, and_true, false_and, and_false, not_false_eq_true, not_true_eq_false]; try omega)))
instance phasesett_spec (n : Int) : HasSpec Tryz.prog 52 [PV.int n] (.v (.bool (settB n))) := by
  refine ⟨?_⟩; refine Spec.ofR (h := fun F w0 => ?_)
  repeat' ((conv => whnf); first | refine Q.N ?_ | (refine Stk.both (fun hb => ?_) (fun hb => ?_) <;> (try simp only [lD] at hb) <;> (try (exfalso; omega)))); all_goals (conv => whnf)
  all_goals ((refine Q.r6 (h := ?_); repeat' (first | exact Q.r0 | refine Q.r1 ?_ ?_ | refine Q.r2 ?_ | exact Q.r7 | refine Q.r3 ?_ | refine Q.r4 ?_ | refine Q.r5 ?_)))
  all_goals ((first | rfl | (rw [Bool.eq_iff_iff]; simp only [tst_true, tst_false, settB, decide_eq_true_eq, decide_eq_false_iff_not, Bool.and_eq_true, Bool.or_eq_true, Bool.not_eq_true', Bool.not_eq_false', Bool.false_eq_true, Bool.true_eq_false, true_iff, iff_true, false_iff, iff_false, true_and, and_true, false_and, and_false, not_false_eq_true, not_true_eq_false]; try omega)))
instance phaseprop_spec (n : Int) : HasSpec Tryz.prog 247 [PV.int n] (.v (.bool (propB n))) := by
  refine ⟨?_⟩; refine Spec.ofR (h := fun F w0 => ?_)
  repeat' ((conv => whnf); first | refine Q.N ?_ | (refine Stk.both (fun hb => ?_) (fun hb => ?_) <;> (try simp only [lD] at hb) <;> (try (exfalso; omega)))); all_goals (conv => whnf)
  all_goals ((refine Q.r6 (h := ?_); repeat' (first | exact Q.r0 | refine Q.r1 ?_ ?_ | refine Q.r2 ?_ | exact Q.r7 | refine Q.r3 ?_ | refine Q.r4 ?_ | refine Q.r5 ?_)))
  all_goals ((first | rfl | (rw [Bool.eq_iff_iff]; simp only [tst_true, tst_false, propB, decide_eq_true_eq, decide_eq_false_iff_not, Bool.and_eq_true, Bool.or_eq_true, Bool.not_eq_true', Bool.not_eq_false', Bool.false_eq_true, Bool.true_eq_false, true_iff, iff_true, false_iff, iff_false, true_and, and_true, false_and, and_false, not_false_eq_true, not_true_eq_false]; try omega)))
instance answer_spec (a : Ack) : HasSpec Tryz.prog 146 [.agg a.cs] (.v (.bool (ansB a))) := by
  refine ⟨?_⟩; refine Spec.ofR (h := fun F w0 => ?_)
  repeat' ((conv => whnf); first | refine Q.N ?_ | (refine Stk.both (fun hb => ?_) (fun hb => ?_) <;> (try simp only [lD] at hb) <;> (try (exfalso; omega)))); all_goals (conv => whnf)
  all_goals ((refine Q.r6 (h := ?_); repeat' (first | exact Q.r0 | refine Q.r1 ?_ ?_ | refine Q.r2 ?_ | exact Q.r7 | refine Q.r3 ?_ | refine Q.r4 ?_ | refine Q.r5 ?_)))
  all_goals ((first | rfl | (rw [Bool.eq_iff_iff]; simp only [tst_true, tst_false, lD, ansB, decide_eq_true_eq, decide_eq_false_iff_not, Bool.and_eq_true, Bool.or_eq_true, Bool.not_eq_true', Bool.not_eq_false', Bool.false_eq_true, Bool.true_eq_false, true_iff, iff_true, false_iff, iff_false, true_and, and_true, false_and, and_false, not_false_eq_true, not_true_eq_false]; try omega)))
instance of_spec' (a : Ack) : HasSpec Tryz.prog 144 [.agg a.cs] (.agg [PV.int a.kind, PV.int a.fr, PV.int a.bal]) := by
  refine ⟨?_⟩; refine Spec.ofR (h := fun F w0 => ?_)
  repeat' ((conv => whnf); first | refine Q.N ?_ | (refine Stk.both (fun hb => ?_) (fun hb => ?_) <;> (try simp only [lD] at hb) <;> (try (exfalso; omega)))); all_goals (conv => whnf)
  all_goals ((refine Q.r6 (h := ?_); repeat' (first | exact Q.r0 | refine Q.r1 ?_ ?_ | refine Q.r2 ?_ | exact Q.r7 | refine Q.r3 ?_ | refine Q.r4 ?_ | refine Q.r5 ?_)))
instance is_spec (k f b : Int) (a : Ack) : HasSpec Tryz.prog 145 [.agg [PV.int k, PV.int f, PV.int b], .agg a.cs] (.v (.bool (sameQ (k, f, b) a))) := by
  refine ⟨?_⟩; refine Spec.ofR (h := fun F w0 => ?_)
  repeat' ((conv => whnf); first | refine Q.N ?_ | (refine Stk.both (fun hb => ?_) (fun hb => ?_) <;> (try simp only [lD] at hb) <;> (try (exfalso; omega)))); all_goals (conv => whnf)
  (refine Q.r6 (h := ?_); repeat' (first | exact Q.r0 | refine Q.r1 ?_ ?_ | refine Q.r2 ?_ | exact Q.r7 | refine Q.r3 ?_ | refine Q.r4 ?_ | refine Q.r5 ?_))
  unfold sameQ Ack.q
  rw [tst_eq, decide_eq_decide]
  simp
def idxF {α : Type} (p : α → Bool) (l : List α) : Int := if l.any p then (l.findIdx p : Nat) else -1
theorem idxF_at {α : Type} {p : α → Bool} {l : List α} {k : Nat} (hk : k < l.length) (h0 : ∀ x ∈ l.take k, p x = false) (h1 : p l[k] = true) : idxF p l = k := by
  unfold idxF
  rw [if_pos (List.any_eq_true.2 ⟨l[k], List.getElem_mem _, h1⟩)]
  congr 1
  rw [List.findIdx_eq hk]
  refine ⟨h1, fun j hj => ?_⟩
  exact h0 _ (List.mem_take_iff_getElem.2 ⟨j, by omega, rfl⟩)
theorem idxF_no {α : Type} {p : α → Bool} {l : List α} (h : ∀ x ∈ l, p x = false) : idxF p l = -1 := by
  unfold idxF
  rw [if_neg (by rw [List.any_eq_true]; rintro ⟨x, hx, hp⟩; rw [h x hx] at hp; cases hp)]
theorem idxF_ge {α : Type} (p : α → Bool) (l : List α) : tst (0 ≤ idxF p l) = l.any p := by
  unfold idxF
  cases h : l.any p with
  | true => rw [if_pos rfl, tst_eq]; exact decide_eq_true (Int.natCast_nonneg _)
  | false => rw [if_neg (by simp), tst_eq]; rfl
theorem take_no {α : Type} {p : α → Bool} {l : List α} {k : Nat} (hk : k < l.length) (h0 : ∀ x ∈ l.take k, p x = false) (h1 : p l[k] = false) : ∀ x ∈ l.take (k + 1), p x = false := by
  intro x hx
  rw [take_snoc' l k hk, List.mem_append, List.mem_singleton] at hx
  rcases hx with hx | rfl
  · exact h0 x hx
  · exact h1
theorem take_all {α : Type} {p : α → Bool} {l : List α} {k : Nat} (hk : l.length ≤ k) (h0 : ∀ x ∈ l.take k, p x = false) : ∀ x ∈ l, p x = false := by rwa [List.take_of_length_le hk] at h0
instance indexack_spec (l : List Ack) (k f b : Int) : HasSpec Tryz.prog 218 [.sl 6 (l.map Ack.cs), .fn (.func 145) [.agg [PV.int k, PV.int f, PV.int b]] []] (PV.int (idxF (sameQ (k, f, b)) l)) := by
  refine ⟨Spec.bound 0 rfl fun hl => ?_⟩; rw [List.length_map] at hl; refine Spec.ofR (h := fun F w0 => ?_)
  repeat' ((conv => whnf); first | refine Q.N ?_ | (refine Stk.both (fun hb => ?_) (fun hb => ?_) <;> (try simp only [lD] at hb) <;> (try (exfalso; omega)))); all_goals (conv => whnf)
  refine Stk.loop (ι := Nat) (fun i => [(0, .sl 6 (l.map Ack.cs)), (1, .fn (.func 145) [.agg [PV.int k, PV.int f, PV.int b]] []), (7, PV.int (l.length : Nat)), (8, PV.int (i : Nat))]) (fun _ => []) (fun i => i ≤ l.length ∧ ∀ x ∈ l.take i, sameQ (k, f, b) x = false) (fun i => l.length - i) 0 ⟨Nat.zero_le _, by simp⟩ (Weak.to ⟨rfl, rfl, rfl, rfl, trivial⟩ trivial rfl) (fun i hi => ?_)
  obtain ⟨hi, hno⟩ := hi
  repeat' ((conv => whnf); first | refine Q.N ?_ | (refine Stk.both (fun hb => ?_) (fun hb => ?_) <;> (try simp only [lD] at hb) <;> (try (exfalso; omega)))); all_goals (conv => whnf)
  · rw [idxF_at (by omega) hno ‹_›]
    (refine Q.r6 (h := ?_); repeat' (first | exact Q.r0 | refine Q.r1 ?_ ?_ | refine Q.r2 ?_ | exact Q.r7 | refine Q.r3 ?_ | refine Q.r4 ?_ | refine Q.r5 ?_))
  · exact ⟨i + 1, ⟨by omega, take_no (by omega) hno ‹_›⟩, by omega, Weak.to ⟨rfl, rfl, rfl, rfl, trivial⟩ trivial rfl⟩
  · rw [idxF_no (take_all (by omega) hno)]
    (refine Q.r6 (h := ?_); repeat' (first | exact Q.r0 | refine Q.r1 ?_ ?_ | refine Q.r2 ?_ | exact Q.r7 | refine Q.r3 ?_ | refine Q.r4 ?_ | refine Q.r5 ?_))
instance contack_spec (l : List Ack) (k f b : Int) : HasSpec Tryz.prog 147 [.sl 6 (l.map Ack.cs), .fn (.func 145) [.agg [PV.int k, PV.int f, PV.int b]] []] (.v (.bool (l.any (sameQ (k, f, b))))) := by
  rw [← idxF_ge]
  refine ⟨?_⟩; refine Spec.ofR (h := fun F w0 => ?_)
  repeat' ((conv => whnf); first | refine Q.N ?_ | (refine Stk.both (fun hb => ?_) (fun hb => ?_) <;> (try simp only [lD] at hb) <;> (try (exfalso; omega)))); all_goals (conv => whnf)
  (refine Q.r6 (h := ?_); repeat' (first | exact Q.r0 | refine Q.r1 ?_ ?_ | refine Q.r2 ?_ | exact Q.r7 | refine Q.r3 ?_ | refine Q.r4 ?_ | refine Q.r5 ?_))
instance acks_spec (l : List Ack) : HasSpec Tryz.prog 196 [.sl 6 (l.map Ack.cs)] (.v (.bool (acksB l))) := by
  refine ⟨Spec.bound 0 rfl fun hl => ?_⟩; rw [List.length_map] at hl; refine Spec.ofR (h := fun F w0 => ?_)
  repeat' ((conv => whnf); first | refine Q.N ?_ | (refine Stk.both (fun hb => ?_) (fun hb => ?_) <;> (try simp only [lD] at hb) <;> (try (exfalso; omega)))); all_goals (conv => whnf)
  refine Stk.loop (ι := Nat) (fun i => [(0, .sl 6 (l.map Ack.cs)), (6, .sl 6 (l.map Ack.cs)), (7, PV.int (l.length : Nat)), (8, PV.int (i : Nat))]) (fun _ => []) (fun i => i ≤ l.length ∧ acksTo l i = true) (fun i => l.length - i) 0 ⟨Nat.zero_le _, rfl⟩ (Weak.to ⟨rfl, rfl, rfl, rfl, trivial⟩ trivial rfl) (fun i hi => ?_)
  obtain ⟨hi, hok⟩ := hi
  repeat' ((conv => whnf); first | refine Q.N ?_ | (refine Stk.both (fun hb => ?_) (fun hb => ?_) <;> (try simp only [lD] at hb) <;> (try (exfalso; omega)))); all_goals (conv => whnf)
  · rw [acksB_no (i := i) (by omega) (.inl ‹_›)]
    (refine Q.r6 (h := ?_); repeat' (first | exact Q.r0 | refine Q.r1 ?_ ?_ | refine Q.r2 ?_ | exact Q.r7 | refine Q.r3 ?_ | refine Q.r4 ?_ | refine Q.r5 ?_))
  · rw [acksB_no (i := i) (by omega) (.inr ‹_›)]
    (refine Q.r6 (h := ?_); repeat' (first | exact Q.r0 | refine Q.r1 ?_ ?_ | refine Q.r2 ?_ | exact Q.r7 | refine Q.r3 ?_ | refine Q.r4 ?_ | refine Q.r5 ?_))
  · exact ⟨i + 1, ⟨by omega, acksTo_next (by omega) hok ‹_› ‹_›⟩, by omega, Weak.gc ⟨rfl, rfl, rfl, rfl, trivial⟩ trivial rfl rfl rfl⟩
  · rw [← acksB_end (by omega) hok]
    (refine Q.r6 (h := ?_); repeat' (first | exact Q.r0 | refine Q.r1 ?_ ?_ | refine Q.r2 ?_ | exact Q.r7 | refine Q.r3 ?_ | refine Q.r4 ?_ | refine Q.r5 ?_))
instance numbers_spec (e : Ent) : HasSpec Tryz.prog 194 [.agg e.cs] (.v (.bool (numB e))) := by
  refine ⟨?_⟩; refine Spec.ofR (h := fun F w0 => ?_)
  repeat' ((conv => whnf); first | refine Q.N ?_ | (refine Stk.both (fun hb => ?_) (fun hb => ?_) <;> (try simp only [lD] at hb) <;> (try (exfalso; omega)))); all_goals (conv => whnf)
  all_goals ((refine Q.r6 (h := ?_); repeat' (first | exact Q.r0 | refine Q.r1 ?_ ?_ | refine Q.r2 ?_ | exact Q.r7 | refine Q.r3 ?_ | refine Q.r4 ?_ | refine Q.r5 ?_)))
  all_goals ((first | rfl | (rw [Bool.eq_iff_iff]; simp only [tst_true, tst_false, lD, numB, decide_eq_true_eq, decide_eq_false_iff_not, Bool.and_eq_true, Bool.or_eq_true, Bool.not_eq_true', Bool.not_eq_false', Bool.false_eq_true, Bool.true_eq_false, true_iff, iff_true, false_iff, iff_false, true_and, and_true, false_and, and_false, not_false_eq_true, not_true_eq_false]; try omega)))
instance told_spec (e : Ent) : HasSpec Tryz.prog 195 [.agg e.cs] (.v (.bool (toldB e))) := by
  refine ⟨?_⟩; refine Spec.ofR (h := fun F w0 => ?_)
  repeat' ((conv => whnf); first | refine Q.N ?_ | (refine Stk.both (fun hb => ?_) (fun hb => ?_) <;> (try simp only [lD] at hb) <;> (try (exfalso; omega)))); all_goals (conv => whnf)
  all_goals ((refine Q.r6 (h := ?_); repeat' (first | exact Q.r0 | refine Q.r1 ?_ ?_ | refine Q.r2 ?_ | exact Q.r7 | refine Q.r3 ?_ | refine Q.r4 ?_ | refine Q.r5 ?_)))
  all_goals ((first | rfl | (rw [Bool.eq_iff_iff]; simp only [tst_true, tst_false, lD, toldB, decide_eq_true_eq, decide_eq_false_iff_not, Bool.and_eq_true, Bool.or_eq_true, Bool.not_eq_true', Bool.not_eq_false', Bool.false_eq_true, Bool.true_eq_false, true_iff, iff_true, false_iff, iff_false, true_and, and_true, false_and, and_false, not_false_eq_true, not_true_eq_false]; try omega)))
end Go.Proofs.YtbjepdfnmbdplaaGreat
end
section
namespace Go.Proofs.YtbjepdfnmbdplaaGreat
set_option linter.unusedSectionVars false
open Go.RowKit
set_option linter.unusedSimpArgs false
set_option linter.unusedVariables false
set_option maxRecDepth 100000
set_option maxHeartbeats 1000000
instance entrycheck_spec (e : Ent) : HasSpec Tryz.prog 110 [.agg e.cs] (PV.int (errI (entB e) 2)) := by
  refine ⟨?_⟩; refine Spec.ofR (h := fun F w0 => ?_)
  repeat' ((conv => whnf); first | refine Q.N ?_ | (refine Stk.both (fun hb => ?_) (fun hb => ?_) <;> (try simp only [lD] at hb) <;> (try (exfalso; omega)))); all_goals (conv => whnf)
  all_goals ((refine Q.r6 (h := ?_); repeat' (first | exact Q.r0 | refine Q.r1 ?_ ?_ | refine Q.r2 ?_ | exact Q.r7 | refine Q.r3 ?_ | refine Q.r4 ?_ | refine Q.r5 ?_)))
  all_goals (first | (rw [errI_f (entB_not (by rintro ⟨h1, h2, h3, h4, h5, h6, h7, h8, h9, h10⟩; first | omega | simp_all))]; done) | (rw [errI_t (entB_iff.2 ⟨by assumption, by omega, by omega, by omega, by omega, by omega, by assumption, by assumption, by assumption, by omega⟩)]; done))
theorem entof_spec (e : Ent) (k b : Int) (hl : e.acks.length ≤ 1000000) : HasSpec Tryz.prog 93 [.agg e.cs, PV.int k, PV.int b] (.sl 6 ((ofL e.acks k b).map Ack.cs)) := by
  refine ⟨?_⟩; refine Spec.ofR (h := fun F w0 => ?_)
  repeat' ((conv => whnf); first | refine Q.N ?_ | (refine Stk.both (fun hb => ?_) (fun hb => ?_) <;> (try simp only [lD] at hb) <;> (try (exfalso; omega)))); all_goals (conv => whnf)
  refine Stk.loop (ι := Nat × Nat) (fun i => [(1, PV.int k), (2, PV.int b), (11, .sl 6 (e.acks.map Ack.cs)), (12, PV.int (e.acks.length : Nat)), (13, PV.int (i.1 : Nat)), (7, .row 7 i.2)]) (fun i => [(7, .row 86 6 i.2 ((ofL (e.acks.take i.1) k b).map Ack.cs))]) (fun i => i.1 ≤ e.acks.length) (fun i => e.acks.length - i.1) (0, 0) (Nat.zero_le _) (Weak.trans (Weak.nilrow (t := 7) (id := 7) (rt := 86) (sz := 6) rfl rfl) (Weak.gc ⟨rfl, rfl, rfl, rfl, rfl, rfl, trivial⟩ ⟨rfl, trivial⟩ rfl rfl rfl)) (fun ⟨i, ver⟩ hi => ?_)
  have hll := ofL_len e.acks k b i
  simp only at hi
  dsimp only
  repeat' ((conv => whnf); first | refine Q.N ?_ | (refine Stk.both (fun hb => ?_) (fun hb => ?_) <;> (try simp only [lD] at hb) <;> (try (exfalso; omega)))); all_goals (conv => whnf)
  · (refine Stk.app rfl Q.app ?_)
    repeat' ((conv => whnf); first | refine Q.N ?_ | (refine Stk.both (fun hb => ?_) (fun hb => ?_) <;> (try simp only [lD] at hb) <;> (try (exfalso; omega)))); all_goals (conv => whnf)
    refine ⟨(i + 1, ver + 1), by simp; omega, by simp; omega, ?_⟩
    rw [ofL_succ _ _ _ _ (by omega), if_pos ⟨by assumption, by assumption⟩]
    exact Weak.gc ⟨rfl, rfl, rfl, rfl, rfl, rfl, trivial⟩ ⟨by rw [List.map_append]; rfl, trivial⟩ rfl (onlyH_row (fun _ => rfl) rfl) rfl
  all_goals first | (refine ⟨(i + 1, ver), by simp; omega, by simp; omega, ?_⟩; rw [ofL_succ _ _ _ _ (by omega), if_neg (by omega)]; exact Weak.gc ⟨rfl, rfl, rfl, rfl, rfl, rfl, trivial⟩ ⟨rfl, trivial⟩ rfl (onlyH_row (fun _ => rfl) rfl) rfl) | skip
  rw [show ofL e.acks k b = ofL (e.acks.take i) k b from by rw [List.take_of_length_le (by omega)]]
  (refine Q.r6 (h := ?_); repeat' (first | exact Q.r0 | refine Q.r1 ?_ ?_ | refine Q.r2 ?_ | exact Q.r7 | refine Q.r3 ?_ | refine Q.r4 ?_ | refine Q.r5 ?_))
end Go.Proofs.YtbjepdfnmbdplaaGreat
end
section
namespace Go.Proofs.YtbjepdfnmbdplaaGreat
set_option linter.unusedSectionVars false
open Go.RowKit
set_option linter.unusedSimpArgs false
set_option linter.unusedVariables false
set_option maxRecDepth 100000
set_option maxHeartbeats 1000000
theorem cloneack_spec (l : List Ack) (hl : l.length ≤ 1000000) : HasSpecO Tryz.prog 148 [.sl 6 (l.map Ack.cs)] 86 6 (l.map Ack.cs) := by
  refine ⟨?_⟩; refine Spec.ofR (h := fun F w0 => ?_)
  repeat' ((conv => whnf); first | refine Q.N ?_ | (refine Stk.both (fun hb => ?_) (fun hb => ?_) <;> (try simp only [lD] at hb) <;> (try (exfalso; omega)))); all_goals (conv => whnf)
  refine Stk.nilcmp (neg := false) rfl (by decide) rfl (fun b hb0 => ?_)
  repeat' ((conv => whnf); first | refine Q.N ?_ | (refine Stk.both (fun hb => ?_) (fun hb => ?_) <;> (try simp only [lD] at hb) <;> (try (exfalso; omega)))); all_goals (conv => whnf)
  · rw [hb0 ‹_›]
    exact FinK.nil
  · (refine Stk.app rfl Q.app ?_)
    repeat' ((conv => whnf); first | refine Q.N ?_ | (refine Stk.both (fun hb => ?_) (fun hb => ?_) <;> (try simp only [lD] at hb) <;> (try (exfalso; omega)))); all_goals (conv => whnf)
    exact FinK.own rfl rfl (closedL_flatten (all_map_closed (fun _ => rfl) l))
end Go.Proofs.YtbjepdfnmbdplaaGreat
end
section
namespace Go.Proofs.YtbjepdfnmbdplaaGreat
set_option linter.unusedSectionVars false
open Go.RowKit
set_option linter.unusedSimpArgs false
set_option linter.unusedVariables false
set_option maxRecDepth 100000
set_option maxHeartbeats 1000000
theorem ackR_no {e : Ent} {a : Ack} (h : ackB e a = false) : ackR e a = e := by unfold ackR; rw [if_neg (by rw [h]; simp)]
theorem ackR_yes {e : Ent} {a : Ack} (h : ackB e a = true) : ackR e a = e.ack a := by unfold ackR; rw [if_pos h]
theorem ackB_iff {e : Ent} {a : Ack} : ackB e a = true ↔ entB e = true ∧ e.phase < 5 ∧ ansB a = true ∧ e.acks.length < 27 ∧ hadB e.acks a = false := by
  unfold ackB
  simp only [Bool.and_eq_true, decide_eq_true_eq, Bool.not_eq_true']
  constructor
  · rintro ⟨⟨⟨⟨a, b⟩, c⟩, d⟩, e⟩; exact ⟨a, b, c, d, e⟩
  · rintro ⟨a, b, c, d, e⟩; exact ⟨⟨⟨⟨a, b⟩, c⟩, d⟩, e⟩
theorem Ent.ack_cs (e : Ent) (a : Ack) : (e.ack a).cs = [PV.int e.id, PV.int e.phase, PV.int e.quorum, PV.int e.t, PV.int e.bal, PV.int e.abal, PV.int e.seen, PV.int e.age, .v (.string e.payload), .sl 6 (e.acks.map Ack.cs ++ [a.cs])] := by
  unfold Ent.cs Ent.ack
  rw [List.map_append]
  rfl
instance entryack_spec (e : Ent) (a : Ack) : HasSpec Tryz.prog 72 [.agg e.cs, .agg a.cs] (.tup [.agg (ackR e a).cs, .v (.bool (ackB e a))]) := by
  cases hA : ackB e a with
  | false =>
    rw [ackR_no hA]
    refine ⟨?_⟩; refine Spec.ofR (h := fun F w0 => ?_)
    repeat' ((conv => whnf); first | refine Q.N ?_ | (refine Stk.both (fun hb => ?_) (fun hb => ?_) <;> (try simp only [lD] at hb) <;> (try (exfalso; omega)))); all_goals (conv => whnf)
    all_goals first | ((refine Q.r6 (h := ?_); repeat' (first | exact Q.r0 | refine Q.r1 ?_ ?_ | refine Q.r2 ?_ | exact Q.r7 | refine Q.r3 ?_ | refine Q.r4 ?_ | refine Q.r5 ?_)); all_goals rfl; done) | skip
    exfalso
    obtain ⟨_, _, hp, _⟩ := entB_iff.1 ‹entB e = true›
    have := (ackB_iff (e := e) (a := a)).2 ⟨‹_›, by omega, ‹_›, by omega, ‹e.acks.any (sameQ (a.kind, a.fr, a.bal)) = false›⟩
    rw [hA] at this; cases this
  | true =>
    obtain ⟨h1, h2, h3, h4, h5⟩ := ackB_iff.1 hA
    rw [ackR_yes hA]
    refine ⟨?_⟩; refine Spec.ofR (h := fun F w0 => ?_)
    repeat' ((conv => whnf); first | refine Q.N ?_ | (refine Stk.both (fun hb => ?_) (fun hb => ?_) <;> (try simp only [lD] at hb) <;> (try (exfalso; omega)))); all_goals (conv => whnf)
    · exact absurd h1 ‹_›
    · cases h3.symm.trans ‹ansB a = false›
    · cases h5.symm.trans ‹e.acks.any (sameQ (a.kind, a.fr, a.bal)) = true›
    refine Stk.byO (cloneack_spec e.acks (by omega)) (h := ?_)
    repeat' ((conv => whnf); first | refine Q.N ?_ | (refine Stk.both (fun hb => ?_) (fun hb => ?_) <;> (try simp only [lD] at hb) <;> (try (exfalso; omega)))); all_goals (conv => whnf)
    (refine Stk.appD (up_append rfl rfl rfl rfl (by decide) (by simp [maxLen, -Nat.not_le] <;> omega) (by simp <;> omega) rfl) rfl ?_)
    repeat' ((conv => whnf); first | refine Q.N ?_ | (refine Stk.both (fun hb => ?_) (fun hb => ?_) <;> (try simp only [lD] at hb) <;> (try (exfalso; omega)))); all_goals (conv => whnf)
    rw [Ent.ack_cs]
    (refine Q.r6 (h := ?_); repeat' (first | exact Q.r0 | refine Q.r1 ?_ ?_ | refine Q.r2 ?_ | exact Q.r7 | refine Q.r3 ?_ | refine Q.r4 ?_ | refine Q.r5 ?_))
theorem HasSpec.sub {P : Program} {g : FuncId} {qs ps : List PV} {r : PV} (h : SubL qs ps) (hs : HasSpec P g ps r) : HasSpec P g qs r := ⟨⟨hs.h.enters, fun F w vs hF hv => hs.h.run F w vs hF (SubL.rep h hv)⟩⟩
theorem ent_lit (e : Ent) (h : e.acks = []) : SubL [.agg [PV.int e.id, PV.int e.phase, PV.int e.quorum, PV.int e.t, PV.int e.bal, PV.int e.abal, PV.int e.seen, PV.int e.age, .v (.string e.payload), .v (.slice none 0 0)]] [.agg e.cs] := by
  refine .cons (.agg ?_) .nil
  unfold Ent.cs
  rw [h]
  exact .cons (.refl _) (.cons (.refl _) (.cons (.refl _) (.cons (.refl _) (.cons (.refl _) (.cons (.refl _) (.cons (.refl _) (.cons (.refl _) (.cons (.refl _) (.cons (.nil _) .nil)))))))))
instance entrynew_spec (id q : Int) (p : ByteArray) : HasSpec Tryz.prog 187 [PV.int id, PV.int q, .v (.string p)] (.tup [.agg (newR id q p).cs, PV.int (errI (entB (.new id q p)) 2)]) := by
  have hc := HasSpec.sub (ent_lit (.new id q p) rfl) (entrycheck_spec (.new id q p))
  cases hA : entB (.new id q p) with
  | false =>
    rw [hA] at hc
    rw [show newR id q p = .zero from if_neg (by rw [hA]; simp)]
    refine ⟨?_⟩; refine Spec.ofR (h := fun F w0 => ?_)
    repeat' ((conv => whnf); first | refine Q.N ?_ | (refine Stk.both (fun hb => ?_) (fun hb => ?_) <;> (try simp only [lD] at hb) <;> (try (exfalso; omega)))); all_goals (conv => whnf)
    refine Stk.by hc (h := ?_)
    repeat' ((conv => whnf); first | refine Q.N ?_ | (refine Stk.both (fun hb => ?_) (fun hb => ?_) <;> (try simp only [lD] at hb) <;> (try (exfalso; omega)))); all_goals (conv => whnf)
    all_goals (refine Q.r6 (h := ?_); repeat' (first | exact Q.r0 | refine Q.r1 ?_ ?_ | refine Q.r2 ?_ | exact Q.r7 | refine Q.r3 ?_ | refine Q.r4 ?_ | refine Q.r5 ?_))
    all_goals rfl
  | true =>
    rw [hA] at hc
    rw [show newR id q p = .new id q p from if_pos hA]
    refine ⟨?_⟩; refine Spec.ofR (h := fun F w0 => ?_)
    repeat' ((conv => whnf); first | refine Q.N ?_ | (refine Stk.both (fun hb => ?_) (fun hb => ?_) <;> (try simp only [lD] at hb) <;> (try (exfalso; omega)))); all_goals (conv => whnf)
    refine Stk.by hc (h := ?_)
    repeat' ((conv => whnf); first | refine Q.N ?_ | (refine Stk.both (fun hb => ?_) (fun hb => ?_) <;> (try simp only [lD] at hb) <;> (try (exfalso; omega)))); all_goals (conv => whnf)
    all_goals (refine Q.r6 (h := ?_); repeat' (first | exact Q.r0 | refine Q.r1 ?_ ?_ | refine Q.r2 ?_ | exact Q.r7 | refine Q.r3 ?_ | refine Q.r4 ?_ | refine Q.r5 ?_))
    all_goals rfl
end Go.Proofs.YtbjepdfnmbdplaaGreat
end
section
namespace Go.Proofs.YtbjepdfnmbdplaaGreat
set_option linter.unusedSectionVars false
open Go.RowKit
set_option linter.unusedSimpArgs false
set_option linter.unusedVariables false
set_option maxRecDepth 100000
set_option maxHeartbeats 1000000
theorem acksB_len {l : List Ack} (h : acksB l = true) : l.length ≤ 27 := by
  unfold acksB at h
  rw [Bool.and_eq_true, decide_eq_true_iff] at h
  exact h.2
end Go.Proofs.YtbjepdfnmbdplaaGreat
end
section
namespace Go.Proofs.YtbjepdfnmbdplaaGreat
set_option linter.unusedSectionVars false
open Go.RowKit
set_option linter.unusedSimpArgs false
set_option linter.unusedVariables false
set_option maxRecDepth 100000
set_option maxHeartbeats 1000000
end Go.Proofs.YtbjepdfnmbdplaaGreat
end
section
namespace Go.Proofs.YtbjepdfnmbdplaaGreat
set_option linter.unusedSectionVars false
open Go.RowKit
set_option linter.unusedSimpArgs false
set_option linter.unusedVariables false
set_option maxRecDepth 100000
set_option maxHeartbeats 1000000
abbrev pHi : ByteArray := ⟨#[104, 105]⟩
def h1 : Ent := ⟨11, 1, 7, 0, 0, 0, 0, 0, pHi, []⟩
def h2 : Ent := ⟨11, 1, 7, 0, 0, 0, 0, 0, pHi, [⟨2, 2, 4, 0, 0, 0⟩]⟩
def h3 : Ent := ⟨11, 1, 7, 0, 0, 0, 0, 0, pHi, [⟨2, 2, 4, 0, 0, 0⟩, ⟨2, 3, 5, 0, 0, 0⟩]⟩
end Go.Proofs.YtbjepdfnmbdplaaGreat
end
section
namespace Go.Proofs.YtbjepdfnmbdplaaGreat
set_option linter.unusedSectionVars false
open Go.RowKit
set_option linter.unusedSimpArgs false
set_option linter.unusedVariables false
set_option maxRecDepth 100000
set_option maxHeartbeats 1000000
theorem same_refl : ∀ x : Ent, (x.same x = true) = True := fun x => eq_true (Ent.same_iff.2 rfl)
theorem lE : (((∀ n t : Int, (within n t = true) = (0 ≤ n ∧ n ≤ t)) ∧ (∀ n t : Int, (within n t = false) = ¬ (0 ≤ n ∧ n ≤ t)) ∧ (∀ p : Int, (openB p = true) = (1 ≤ p ∧ p ≤ 4)) ∧ (∀ p : Int, (openB p = false) = ¬ (1 ≤ p ∧ p ≤ 4)) ∧ (∀ p : Int, (settB p = true) = (p = 5 ∨ p = 6)) ∧ (∀ p : Int, (settB p = false) = ¬ (p = 5 ∨ p = 6)) ∧ (∀ p : Int, (propB p = true) = (2 ≤ p ∧ p ≤ 4)) ∧ (∀ p : Int, (propB p = false) = ¬ (2 ≤ p ∧ p ≤ 4)) ∧ (∀ b : Bool, (errI b 31 = 0) = (b = true)) ∧ (∀ b : Bool, (errI b 33 = 0) = (b = true)) ∧ (∀ b : Bool, (0 = errI b 33) = (b = true)) ∧ (∀ b : Bool, (0 = errI b 31) = (b = true)) ∧ (∀ p : Int, (phB p = true) = (0 ≤ p ∧ p ≤ 6)) ∧ (∀ p : Int, (phB p = false) = ¬ (0 ≤ p ∧ p ≤ 6)) ∧ (∀ b : Bool, (true == b) = b) ∧ (∀ b : Bool, (b == true) = b) ∧ (∀ b : Bool, (false == b) = !b) ∧ (∀ b : Bool, (b == false) = !b) ∧ (∀ p q : Prop, (tst p == tst q) = tst (p ↔ q)) ∧ (∀ a b : Ack, ([a.kind, a.fr, a.bal, a.t, a.abal, a.phase] = [b.kind, b.fr, b.bal, b.t, b.abal, b.phase]) = (a = b)) ∧ (∀ q : Int, (((listS q 9).length : Int) = 0) = ¬ (1 ≤ q ∧ q ≤ 511))) ∧ (((∀ n : Int, (manyB n = true) = (3 ≤ n ∧ n ≤ 9)) ∧ (∀ n : Int, (mayB n = true) = (0 ≤ n ∧ n ≤ 511)) ∧ (∀ n : Int, (replB n = true) = (1 ≤ n ∧ n ≤ 9)) ∧ (∀ n f : Int, (sizeB n f = true) = (3 ≤ n ∧ n ≤ 9 ∧ 1 ≤ f ∧ 2 * f ≤ n - 1)) ∧ (∀ n f : Int, (sizeB n f = false) = ¬ (3 ≤ n ∧ n ≤ 9 ∧ 1 ≤ f ∧ 2 * f ≤ n - 1)) ∧ (∀ b : Bool, (errI b 2 = 0) = (b = true)) ∧ (∀ b : Bool, (0 = errI b 2) = (b = true))) ∧ ((∀ p : Prop, (tst p = true) = p) ∧ (∀ p : Prop, (tst p = false) = ¬ p) ∧ (∀ b : Bool, ((!b) = true) = (b = false)) ∧ (∀ b : Bool, ((!b) = false) = (b = true)) ∧ (∀ a b : Int, (¬ a < b) = (b ≤ a)) ∧ (∀ a b : Int, (¬ a ≤ b) = (b < a)) ∧ (∀ (α : Type) (f : α → List PV) (l : List α), (l.map f).length = l.length) ∧ ((!true) = false) ∧ ((!false) = true) ∧ ((true = false) = False) ∧ ((false = true) = False) ∧ ((¬ True) = False) ∧ ((¬ False) = True) ∧ (∀ p : Prop, (p ∧ True) = p) ∧ (∀ p : Prop, (True ∧ p) = p) ∧ (∀ p : Prop, (p ∧ False) = False) ∧ (∀ p : Prop, (False ∧ p) = False) ∧ (∀ b : Bool, (b == b) = true) ∧ (∀ h : Decidable True, @decide True h = true) ∧ (∀ h : Decidable False, @decide False h = false)))) ∧ (∀ x : Ent, (x.same x = true) = True) := ⟨lD, same_refl⟩
theorem Q.E {P : Program} {X : XF} {w0 : World} {T : TT} {K : Exit → St → Prop} [tb : TabT P T] {r r' : StepR} (h : GoR P X w0 T r' K) (e : Red P X w0 T r r' := by first | exact Qs.a | exact Qs.b | exact Qs.c | exact Qs.is (by first | assumption | ((try simp only [lE]); first | done | assumption | omega)) | exact Qs.isnt (by first | assumption | ((try simp only [lE]); first | done | assumption | omega)) | exact Qs.d | exact Qs.e | exact Qs.f | exact Qs.g | exact Qs.h | exact Qs.i | exact Qs.j | exact Qs.k | exact Qs.l | exact Qs.m | exact Qs.n | exact Qs.o | exact Qs.p | exact Qs.q | exact Qs.r | exact Qs.s | exact Qs.t | exact Qs.u | exact Qs.x | exact Qs.y | exact Qs.z | exact Qs.v | exact Qs.w) : Stk P X w0 T r K := e K h
end Go.Proofs.YtbjepdfnmbdplaaGreat
end
section
namespace Go.Proofs.YtbjepdfnmbdplaaGreat
open Go.RowKit
set_option linter.unusedSimpArgs false
set_option linter.unusedVariables false
abbrev PV.ents (l : List Ent) : PV := .sl 10 (l.map Ent.cs)
def risE (l : List Ent) (k : Nat) : Prop := ∀ i (h : i < l.length), i < k → entB l[i] = true ∧ (∀ h2 : 0 < i, (l[i - 1]'(by omega)).id < l[i].id)
theorem risE_zero (l : List Ent) : risE l 0 := fun i _ h => by omega
theorem risE_succ {l : List Ent} {k : Nat} (hk : k < l.length) (h : risE l k) (h1 : entB l[k] = true) (h2 : ∀ h0 : 0 < k, (l[k - 1]'(by omega)).id < l[k].id) : risE l (k + 1) := fun i hi hik => by
  by_cases e : i = k
  · subst e; exact ⟨h1, h2⟩
  · exact h i hi (by omega)
open Classical in
noncomputable def entsB (l : List Ent) : Bool := decide (l.length ≤ 40 ∧ risE l l.length)
theorem entsB_iff {l : List Ent} : entsB l = true ↔ l.length ≤ 40 ∧ risE l l.length := by
  unfold entsB
  exact @decide_eq_true_iff _ (_)
theorem entsB_no {l : List Ent} (h : ¬ (l.length ≤ 40 ∧ risE l l.length)) : entsB l = false := by
  cases e : entsB l with
  | false => rfl
  | true => exact absurd (entsB_iff.1 e) h
theorem rise_lt {l : List Ent} (h : risE l l.length) : ∀ (j : Nat) (hj : j < l.length) (i : Nat) (hi : i < j), (l[i]'(by omega)).id < l[j].id
  | 0, _, i, hi => by omega
  | j + 1, hj, i, hi => by
    have h1 := (h (j + 1) hj hj).2 (by omega)
    simp only [Nat.add_sub_cancel] at h1
    by_cases e : i = j
    · subst e; exact h1
    · exact Int.lt_trans (rise_lt h j (by omega) i (by omega)) h1
def isId (id : Int) (e : Ent) : Bool := decide (e.id = id)
def findB (l : List Ent) (id : Int) : Bool := l.any (isId id)
def findT (l : List Ent) (id : Int) : Ent := (l.find? (isId id)).getD Ent.zero
theorem find_at {l : List Ent} {id : Int} {k : Nat} (hk : k < l.length) (h0 : ∀ x ∈ l.take k, isId id x = false) (h1 : isId id l[k] = true) : findT l id = l[k] ∧ findB l id = true := by
  constructor
  · unfold findT
    have e : l = l.take k ++ l[k] :: l.drop (k + 1) := by rw [← List.drop_eq_getElem_cons hk, List.take_append_drop]
    have hf : l.find? (isId id) = some l[k] := by
      conv => lhs; rw [e]
      rw [List.find?_append, List.find?_eq_none.2 (fun x hx => by rw [h0 x hx]; simp), List.find?_cons_of_pos h1]
      rfl
    rw [hf]
    rfl
  · exact List.any_eq_true.2 ⟨l[k], List.getElem_mem hk, h1⟩
theorem find_no {l : List Ent} {id : Int} (h : ∀ x ∈ l, isId id x = false) : findT l id = Ent.zero ∧ findB l id = false := by
  constructor
  · unfold findT
    rw [List.find?_eq_none.2 (fun x hx => by rw [h x hx]; simp)]
    rfl
  · exact List.any_eq_false.2 fun x hx => by rw [h x hx]; simp
def posE (l : List Ent) (id : Int) : Nat := (l.takeWhile fun e => decide (e.id < id)).length
def putE (l : List Ent) (e : Ent) : List Ent := if findB l e.id = true then l.set (posE l e.id) e else l.take (posE l e.id) ++ [e] ++ l.drop (posE l e.id)
open Classical in
noncomputable def putX (l : List Ent) (e : Ent) : Int := if ¬ (entsB l = true ∧ entB e = true) then 2 else if findB l e.id = true then 0 else if l.length < 40 then 0 else 8
open Classical in
noncomputable def putL21 (l : List Ent) (e : Ent) : List Ent := if putX l e = 0 then putE l e else []
theorem takeWhile_le {α : Type} (p : α → Bool) : ∀ l : List α, (l.takeWhile p).length ≤ l.length
  | [] => Nat.le_refl _
  | a :: l => by
    rw [List.takeWhile_cons]
    split
    · simpa using takeWhile_le p l
    · simp
theorem takeWhile_at {α : Type} (p : α → Bool) : ∀ (l : List α) (k : Nat), (∀ i (h : i < l.length), i < k → p l[i] = true) → (∀ h : k < l.length, p l[k] = false) → k ≤ l.length → (l.takeWhile p).length = k
  | [], k, _, _, h => by simp at h; subst h; rfl
  | a :: l, 0, _, h2, _ => by
    have := h2 (by simp)
    simp only [List.getElem_cons_zero] at this
    rw [List.takeWhile_cons, this]
    rfl
  | a :: l, k + 1, h1, h2, h3 => by
    have ha := h1 0 (by simp) (by omega)
    simp only [List.getElem_cons_zero] at ha
    rw [List.takeWhile_cons, ha, if_pos rfl, List.length_cons]
    refine congrArg (· + 1) (takeWhile_at p l k (fun i hi hik => ?_) (fun hk => ?_) (by simpa using h3))
    · have := h1 (i + 1) (by simpa using hi) (by omega)
      simpa using this
    · have := h2 (by simpa using hk)
      simpa using this
theorem pos_le (l : List Ent) (id : Int) : posE l id ≤ l.length := takeWhile_le _ l
theorem pos_at {l : List Ent} {id : Int} {k : Nat} (hk : k ≤ l.length) (h1 : ∀ i (h : i < l.length), i < k → l[i].id < id) (h2 : ∀ i (h : i < l.length), k ≤ i → id ≤ l[i].id) : posE l id = k :=
  takeWhile_at _ l k (fun i hi hik => decide_eq_true (h1 i hi hik)) (fun h => decide_eq_false (by have := h2 k h (Nat.le_refl _); omega)) hk
theorem found_at {l : List Ent} (hr : risE l l.length) {id : Int} {k : Nat} (hk : k ≤ l.length) (h1 : ∀ i (h : i < l.length), i < k → l[i].id < id) (h2 : ∀ i (h : i < l.length), k ≤ i → id ≤ l[i].id) : findB l id = true ↔ ∃ h : k < l.length, l[k].id = id := by
  unfold findB
  rw [List.any_eq_true]
  constructor
  · rintro ⟨e, he, hq⟩
    obtain ⟨i, hi, rfl⟩ := List.getElem_of_mem he
    have hid : l[i].id = id := of_decide_eq_true hq
    have hki : k ≤ i := by
      rcases Nat.lt_or_ge i k with h | h
      · have := h1 i hi h; omega
      · exact h
    rcases Nat.lt_or_ge k i with h | h
    · have := rise_lt hr i hi k h
      have := h2 k (by omega) (Nat.le_refl _)
      omega
    · have : k = i := by omega
      subst this
      exact ⟨hi, hid⟩
  · rintro ⟨h, e⟩
    exact ⟨l[k], List.getElem_mem h, decide_eq_true e⟩
end Go.Proofs.YtbjepdfnmbdplaaGreat
end
section
namespace Go.Proofs.YtbjepdfnmbdplaaGreat
open Go.RowKit
set_option linter.unusedSimpArgs false
set_option linter.unusedVariables false
set_option maxRecDepth 100000
set_option maxHeartbeats 1000000
instance isnan_spec (x : Int) : HasSpec Tryz.prog 255 [PV.int x] (.v (.bool false)) := by
  refine ⟨?_⟩; refine Spec.ofR (h := fun F w0 => ?_)
  repeat' ((conv => whnf); first | refine Q.E ?_ | (refine Stk.both (fun hb => ?_) (fun hb => ?_) <;> (try simp only [lE] at hb))); all_goals (conv => whnf)
  (refine Q.r6 (h := ?_); repeat' (first | exact Q.r0 | refine Q.r1 ?_ ?_ | refine Q.r2 ?_ | exact Q.r7 | refine Q.r3 ?_ | refine Q.r4 ?_ | refine Q.r5 ?_))
  rw [tst_true.2 rfl]
  rfl
def cmpI (a b : Int) : Int := if a < b then -1 else if b < a then 1 else 0
instance compare_spec (a b : Int) : HasSpec Tryz.prog 207 [PV.int a, PV.int b] (PV.int (cmpI a b)) := by
  unfold cmpI
  by_cases h1 : a < b
  · rw [if_pos h1]
    refine ⟨?_⟩; refine Spec.ofR (h := fun F w0 => ?_)
    repeat' ((conv => whnf); first | refine Q.E ?_ | (refine Stk.both (fun hb => ?_) (fun hb => ?_) <;> (try simp only [lE] at hb))); all_goals (conv => whnf)
    (refine Q.r6 (h := ?_); repeat' (first | exact Q.r0 | refine Q.r1 ?_ ?_ | refine Q.r2 ?_ | exact Q.r7 | refine Q.r3 ?_ | refine Q.r4 ?_ | refine Q.r5 ?_))
  · rw [if_neg h1]
    by_cases h2 : b < a
    · rw [if_pos h2]
      refine ⟨?_⟩; refine Spec.ofR (h := fun F w0 => ?_)
      repeat' ((conv => whnf); first | refine Q.E ?_ | (refine Stk.both (fun hb => ?_) (fun hb => ?_) <;> (try simp only [lE] at hb))); all_goals (conv => whnf)
      (refine Q.r6 (h := ?_); repeat' (first | exact Q.r0 | refine Q.r1 ?_ ?_ | refine Q.r2 ?_ | exact Q.r7 | refine Q.r3 ?_ | refine Q.r4 ?_ | refine Q.r5 ?_))
    · rw [if_neg h2]
      refine ⟨?_⟩; refine Spec.ofR (h := fun F w0 => ?_)
      repeat' ((conv => whnf); first | refine Q.E ?_ | (refine Stk.both (fun hb => ?_) (fun hb => ?_) <;> (try simp only [lE] at hb))); all_goals (conv => whnf)
      (refine Q.r6 (h := ?_); repeat' (first | exact Q.r0 | refine Q.r1 ?_ ?_ | refine Q.r2 ?_ | exact Q.r7 | refine Q.r3 ?_ | refine Q.r4 ?_ | refine Q.r5 ?_))
theorem cmpI_lt {a b : Int} : cmpI a b < 0 ↔ a < b := by
  unfold cmpI
  split
  · simp; assumption
  · split <;> simp <;> omega
theorem cmpI_eq {a b : Int} : cmpI a b = 0 ↔ a = b := by
  unfold cmpI
  split
  · simp; omega
  · split <;> simp <;> omega
instance putcmp_spec (e : Ent) (id : Int) : HasSpec Tryz.prog 206 [.agg e.cs, PV.int id] (PV.int (cmpI e.id id)) := by
  refine ⟨?_⟩; refine Spec.ofR (h := fun F w0 => ?_)
  repeat' ((conv => whnf); first | refine Q.E ?_ | (refine Stk.both (fun hb => ?_) (fun hb => ?_) <;> (try simp only [lE] at hb))); all_goals (conv => whnf)
  (refine Q.r6 (h := ?_); repeat' (first | exact Q.r0 | refine Q.r1 ?_ ?_ | refine Q.r2 ?_ | exact Q.r7 | refine Q.r3 ?_ | refine Q.r4 ?_ | refine Q.r5 ?_))
theorem bsearch_spec (l : List Ent) (hl : l.length ≤ 40) (hr : risE l l.length) (id : Int) : HasSpec Tryz.prog 205 [PV.ents l, PV.int id, .fn (.func 206) [] []] (.tup [PV.int (posE l id : Nat), .v (.bool (findB l id))]) := by
  refine ⟨?_⟩; refine Spec.ofR (h := fun F w0 => ?_)
  repeat' ((conv => whnf); first | refine Q.E ?_ | (refine Stk.both (fun hb => ?_) (fun hb => ?_) <;> (try simp only [lE] at hb))); all_goals (conv => whnf)
  refine Stk.loop (ι := Nat × Nat) (fun i => [(0, PV.ents l), (1, PV.int id), (2, .fn (.func 206) [] []), (8, PV.int (l.length : Nat)), (9, PV.int (i.1 : Nat)), (10, PV.int (i.2 : Nat))]) (fun _ => []) (fun i => i.1 ≤ i.2 ∧ i.2 ≤ l.length ∧ (∀ k (h : k < l.length), k < i.1 → l[k].id < id) ∧ ∀ k (h : k < l.length), i.2 ≤ k → id ≤ l[k].id) (fun i => i.2 - i.1) (0, l.length) ⟨Nat.zero_le _, Nat.le_refl _, fun k h hk => by simp at hk, fun k h hk => by simp at hk; omega⟩ (Weak.gc ⟨rfl, rfl, rfl, rfl, rfl, rfl, trivial⟩ trivial rfl rfl rfl) (fun ⟨i, j⟩ hi => ?_)
  obtain ⟨hij, hjn, h1, h2⟩ := hi
  simp only at hij hjn h1 h2
  dsimp only
  by_cases hlt : i < j
  · repeat' ((conv => whnf); first | refine Q.a ?_ | refine Q.b ?_ | refine Q.c ?_ | refine Stk.is (by first | assumption | ((try simp only [lE]); first | done | assumption | omega)) ?_ | refine Stk.isnt (by first | assumption | ((try simp only [lE]); first | done | assumption | omega)) ?_ | (refine Stk.both (fun hb => ?_) (fun hb => ?_) <;> (try simp only [lE] at hb)) | refine Q.d ?_ | refine Q.e ?_ | refine Q.f ?_ | refine Q.g ?_ | refine Q.h ?_ | refine Q.i ?_ | refine Q.j ?_ | refine Q.k ?_ | refine Q.l ?_ | refine Q.m ?_ | refine Q.n ?_ | refine Q.o (h := ?_) | refine Q.p (h := ?_) | refine Q.q ?_ | refine Q.r ?_ | refine Q.s ?_ | refine Q.t ?_ | refine Q.u ?_ | refine Q.v ?_ | refine Q.w ?_ | refine Q.x ?_ | refine Q.y ?_); all_goals (conv => whnf)
    have em : ((i : Int) + (j : Int)).fdiv (2 ^ min (Int.toNat 1) IntKind.u64.bits) = (((i + j) / 2 : Nat) : Int) := by
      rw [show (2 : Int) ^ min (Int.toNat 1) IntKind.u64.bits = 2 from rfl, Int.fdiv_eq_ediv_of_nonneg _ (by omega)]
      omega
    rw [em]
    have hm : (i + j) / 2 < l.length := by omega
    have hm1 : i ≤ (i + j) / 2 := by omega
    have hm2 : (i + j) / 2 < j := by omega
    generalize (i + j) / 2 = m at hm hm1 hm2 ⊢
    by_cases hlt2 : l[m].id < id
    · have hc := cmpI_lt.2 hlt2
      repeat' ((conv => whnf); first | refine Q.E ?_ | (refine Stk.both (fun hb => ?_) (fun hb => ?_) <;> (try simp only [lE] at hb))); all_goals (conv => whnf)
      refine ⟨(m + 1, j), ⟨by dsimp only; omega, by dsimp only; omega, fun k hk hkm => ?_, h2⟩, by dsimp only; omega, Weak.gc ⟨rfl, rfl, rfl, rfl, rfl, rfl, trivial⟩ trivial rfl rfl rfl⟩
      dsimp only at hkm
      by_cases e : k = m
      · subst e; exact hlt2
      · exact Int.lt_trans (rise_lt hr m hm k (by omega)) hlt2
    · have hc : ¬ cmpI l[m].id id < 0 := fun h => hlt2 (cmpI_lt.1 h)
      repeat' ((conv => whnf); first | refine Q.E ?_ | (refine Stk.both (fun hb => ?_) (fun hb => ?_) <;> (try simp only [lE] at hb))); all_goals (conv => whnf)
      refine ⟨(i, m), ⟨by dsimp only; omega, by dsimp only; omega, h1, fun k hk hkm => ?_⟩, by dsimp only; omega, Weak.gc ⟨rfl, rfl, rfl, rfl, rfl, rfl, trivial⟩ trivial rfl rfl rfl⟩
      dsimp only at hkm
      by_cases e : k = m
      · subst e; omega
      · have := rise_lt hr k hk m (by omega); omega
  · obtain rfl : i = j := by omega
    have hp := pos_at hjn h1 h2
    have hf := found_at hr hjn h1 h2
    rw [hp]
    by_cases hi : i < l.length
    · by_cases hq : l[i].id = id
      · rw [hf.2 ⟨hi, hq⟩]
        have hc := cmpI_eq.2 hq
        repeat' ((conv => whnf); first | refine Q.E ?_ | (refine Stk.both (fun hb => ?_) (fun hb => ?_) <;> (try simp only [lE] at hb))); all_goals (conv => whnf)
        (refine Q.r6 (h := ?_); repeat' (first | exact Q.r0 | refine Q.r1 ?_ ?_ | refine Q.r2 ?_ | exact Q.r7 | refine Q.r3 ?_ | refine Q.r4 ?_ | refine Q.r5 ?_))
        all_goals exact tst_true.2 hc
      · rw [show findB l id = false from Bool.eq_false_iff.2 fun h => by obtain ⟨_, e⟩ := hf.1 h; exact hq e]
        have hc : ¬ cmpI l[i].id id = 0 := fun h => hq (cmpI_eq.1 h)
        repeat' ((conv => whnf); first | refine Q.E ?_ | (refine Stk.both (fun hb => ?_) (fun hb => ?_) <;> (try simp only [lE] at hb))); all_goals (conv => whnf)
        (refine Q.r6 (h := ?_); repeat' (first | exact Q.r0 | refine Q.r1 ?_ ?_ | refine Q.r2 ?_ | exact Q.r7 | refine Q.r3 ?_ | refine Q.r4 ?_ | refine Q.r5 ?_))
        all_goals exact tst_false.2 hc
    · rw [show findB l id = false from Bool.eq_false_iff.2 fun h => by obtain ⟨h0, _⟩ := hf.1 h; exact hi h0]
      repeat' ((conv => whnf); first | refine Q.E ?_ | (refine Stk.both (fun hb => ?_) (fun hb => ?_) <;> (try simp only [lE] at hb))); all_goals (conv => whnf)
      (refine Q.r6 (h := ?_); repeat' (first | exact Q.r0 | refine Q.r1 ?_ ?_ | refine Q.r2 ?_ | exact Q.r7 | refine Q.r3 ?_ | refine Q.r4 ?_ | refine Q.r5 ?_))
theorem cloneent_spec (l : List Ent) (hl : l.length ≤ 1000000) : HasSpecO Tryz.prog 208 [PV.ents l] 40 10 (l.map Ent.cs) := by
  refine ⟨?_⟩; refine Spec.ofR (h := fun F w0 => ?_)
  repeat' ((conv => whnf); first | refine Q.N ?_ | (refine Stk.both (fun hb => ?_) (fun hb => ?_) <;> (try simp only [lE] at hb) <;> (try (exfalso; omega)))); all_goals (conv => whnf)
  refine Stk.nilcmp (neg := false) rfl (by decide) rfl (fun b hb0 => ?_)
  repeat' ((conv => whnf); first | refine Q.N ?_ | (refine Stk.both (fun hb => ?_) (fun hb => ?_) <;> (try simp only [lE] at hb) <;> (try (exfalso; omega)))); all_goals (conv => whnf)
  · rw [hb0 ‹_›]
    exact FinK.nil
  · (refine Stk.app rfl Q.app ?_)
    repeat' ((conv => whnf); first | refine Q.N ?_ | (refine Stk.both (fun hb => ?_) (fun hb => ?_) <;> (try simp only [lE] at hb) <;> (try (exfalso; omega)))); all_goals (conv => whnf)
    exact FinK.own rfl rfl (closedL_flatten (all_map_closed (fun _ => rfl) l))
end Go.Proofs.YtbjepdfnmbdplaaGreat
end
section
namespace Go.Proofs.YtbjepdfnmbdplaaGreat
set_option linter.unusedSectionVars false
open Go.RowKit
set_option linter.unusedSimpArgs false
set_option linter.unusedVariables false
def Ent.up (e : Ent) (p t b ab : Int) (q : List Ack) : Ent := ⟨e.id, p, e.quorum, t, b, ab, e.seen, e.age, e.payload, q⟩
def timeB (t : Int) : Bool := decide (1 ≤ t ∧ t ≤ 1000000)
theorem timeB_iff {t : Int} : timeB t = true ↔ 1 ≤ t ∧ t ≤ 1000000 := by unfold timeB; exact decide_eq_true_iff
def needsB (e : Ent) : Bool := entB e && decide (e.phase = 1 ∧ e.bal = 0)
theorem needsB_iff {e : Ent} : needsB e = true ↔ entB e = true ∧ e.phase = 1 ∧ e.bal = 0 := by unfold needsB; rw [Bool.and_eq_true, decide_eq_true_iff]
def n3X (p : Int) : Int := if 0 ≤ p ∧ p ≤ 4 then 0 else if 0 ≤ p ∧ p ≤ 6 then 33 else 2
def n3P (p : Int) : Int := if 0 ≤ p ∧ p ≤ 4 then (if p = 2 ∨ p = 3 then 3 else 4) else 0
def commX (e : Ent) (t : Int) : Int := if entB e = true ∧ timeB t = true then (if e.phase < 5 then 0 else 33) else 2
def commE (e : Ent) (t : Int) : Ent := if commX e t = 0 then e.up 5 t e.bal e.abal [] else e
def accX (e : Ent) (t b : Int) : Int := if entB e = true ∧ timeB t = true ∧ timeB b = true then (if e.phase < 5 then (if e.bal ≤ b then 0 else 45) else 33) else 2
def accE (e : Ent) (t b : Int) : Ent := if accX e t b = 0 then e.up e.phase t b b [] else e
def promX (e : Ent) (b t : Int) : Int := if entB e = true ∧ timeB b = true ∧ (needsB e = true → timeB t = true) then (if e.phase < 5 then (if e.bal < b then 0 else 45) else 33) else 2
def promE (e : Ent) (b t : Int) : Ent := if promX e b t = 0 then e.up (if e.bal = 0 then n3P e.phase else e.phase) (if needsB e = true then t else e.t) b e.abal [] else e
structure Act3 where
  kind : Int
  t : Int
  bal : Int
theorem ent_facts {e : Ent} (h : entB e = true) : 1 ≤ e.phase ∧ e.phase ≤ 6 ∧ 0 ≤ e.t ∧ e.t ≤ 1000000 ∧ 0 ≤ e.bal ∧ e.bal ≤ 1000000 ∧ 0 ≤ e.abal ∧ e.abal ≤ e.bal ∧ ((2 ≤ e.phase ∧ e.phase ≤ 4 ∨ e.phase = 5 ∨ e.phase = 6 ∨ 0 < e.abal ↔ 0 < e.t) ∧ (0 < e.abal ∨ e.phase = 5 ∨ e.phase = 6 ∨ (0 < e.bal ↔ e.phase = 3 ∨ e.phase = 4))) ∧ (e.phase < 5 ∨ e.acks.length = 0) := by
  obtain ⟨_, h2, h3, _, _, _, h7, h8, _, h10⟩ := entB_iff.1 h
  have := numB_iff.1 h7
  exact ⟨h2, h3, this.1, this.2.1, this.2.2.1, this.2.2.2.1, this.2.2.2.2.1, this.2.2.2.2.2.1, toldB_iff.1 h8, h10⟩
theorem up_ent {e : Ent} {p t b ab : Int} {q : List Ack} (h : entB e = true) (h1 : 1 ≤ p ∧ p ≤ 6) (h2 : 0 ≤ t ∧ t ≤ 1000000 ∧ 0 ≤ b ∧ b ≤ 1000000 ∧ 0 ≤ ab ∧ ab ≤ b)
    (h3 : (2 ≤ p ∧ p ≤ 4 ∨ p = 5 ∨ p = 6 ∨ 0 < ab ↔ 0 < t) ∧ (0 < ab ∨ p = 5 ∨ p = 6 ∨ (0 < b ↔ p = 3 ∨ p = 4))) (h4 : acksB q = true) (h5 : p < 5 ∨ q.length = 0) : entB (e.up p t b ab q) = true := by
  obtain ⟨k1, _, _, k4, k5, k6, k7, _, _, _⟩ := entB_iff.1 h
  obtain ⟨_, _, _, _, _, _, n7, n8, n9, n10⟩ := numB_iff.1 k7
  exact entB_iff.2 ⟨k1, h1.1, h1.2, k4, k5, k6, numB_iff.2 ⟨h2.1, h2.2.1, h2.2.2.1, h2.2.2.2.1, h2.2.2.2.2.1, h2.2.2.2.2.2, n7, n8, n9, n10⟩, toldB_iff.2 h3, h4, h5⟩
theorem acks_of {e : Ent} (h : entB e = true) : acksB e.acks = true := (entB_iff.1 h).2.2.2.2.2.2.2.2.1
theorem acks_nil : acksB [] = true := by decide
theorem acc_ok {e : Ent} {t b : Int} (h : accX e t b = 0) : entB e = true ∧ (1 ≤ t ∧ t ≤ 1000000) ∧ (1 ≤ b ∧ b ≤ 1000000) ∧ e.phase < 5 ∧ e.bal ≤ b := by
  unfold accX at h
  split at h
  · split at h
    · split at h
      · rename_i h1 h2 h3
        exact ⟨h1.1, timeB_iff.1 h1.2.1, timeB_iff.1 h1.2.2, h2, h3⟩
      · cases h
    · cases h
  · cases h
theorem prom_ok {e : Ent} {b t : Int} (h : promX e b t = 0) : entB e = true ∧ (1 ≤ b ∧ b ≤ 1000000) ∧ (needsB e = true → 1 ≤ t ∧ t ≤ 1000000) ∧ e.phase < 5 ∧ e.bal < b := by
  unfold promX at h
  split at h
  · split at h
    · split at h
      · rename_i h1 h2 h3
        exact ⟨h1.1, timeB_iff.1 h1.2.1, fun hn => timeB_iff.1 (h1.2.2 hn), h2, h3⟩
      · cases h
    · cases h
  · cases h
theorem needs_of {e : Ent} (h : entB e = true) : needsB e = decide (e.phase = 1 ∧ e.bal = 0) := by unfold needsB; rw [h]; rfl
structure Kept (e x : Ent) : Prop where
  ent : entB x = true
  bal : e.bal ≤ x.bal
  abal : e.abal ≤ x.abal
  id : x.id = e.id
  payload : x.payload = e.payload
  quorum : x.quorum = e.quorum
  settled : 5 ≤ e.phase → x.t = e.t ∧ e.phase ≤ x.phase
theorem Kept.refl {e : Ent} (h : entB e = true) : Kept e e := ⟨h, Int.le_refl _, Int.le_refl _, rfl, rfl, rfl, fun _ => ⟨rfl, Int.le_refl _⟩⟩
theorem acc_kept {e : Ent} {t b : Int} (h : entB e = true) : Kept e (accE e t b) := by
  unfold accE
  split
  · rename_i hx
    obtain ⟨_, h2, h3, h4, h5⟩ := acc_ok hx
    have f := ent_facts h
    exact ⟨up_ent h (by omega) (by omega) (by omega) acks_nil (.inr rfl), h5, by show e.abal ≤ b; omega, rfl, rfl, rfl, fun hp => by omega⟩
  · exact Kept.refl h
theorem prom_kept {e : Ent} {b t : Int} (h : entB e = true) : Kept e (promE e b t) := by
  unfold promE
  split
  · rename_i hx
    obtain ⟨_, h2, h3, h4, h5⟩ := prom_ok hx
    have f := ent_facts h
    have hn := needsB_iff (e := e)
    have hp : 1 ≤ (if e.bal = 0 then n3P e.phase else e.phase) ∧ (if e.bal = 0 then n3P e.phase else e.phase) ≤ 4 ∧ (e.bal = 0 → (if e.bal = 0 then n3P e.phase else e.phase) = 3 ∨ (if e.bal = 0 then n3P e.phase else e.phase) = 4) ∧ (e.bal ≠ 0 → (if e.bal = 0 then n3P e.phase else e.phase) = e.phase) := by
      unfold n3P
      repeat' split
      all_goals omega
    have ht : (needsB e = true → (if needsB e = true then t else e.t) = t) ∧ (¬ needsB e = true → (if needsB e = true then t else e.t) = e.t) := ⟨fun h => if_pos h, fun h => if_neg h⟩
    generalize (if e.bal = 0 then n3P e.phase else e.phase) = p' at hp
    generalize (if needsB e = true then t else e.t) = t' at ht
    rw [h] at hn
    simp only [true_and] at hn
    by_cases hb : e.phase = 1 ∧ e.bal = 0
    · have h6 := h3 (hn.2 hb)
      have h7 := ht.1 (hn.2 hb)
      exact ⟨up_ent h (by omega) (by omega) (by omega) acks_nil (.inr rfl), by show e.bal ≤ b; omega, Int.le_refl _, rfl, rfl, rfl, fun hp => by omega⟩
    · have h7 := ht.2 (fun hx => hb (hn.1 hx))
      exact ⟨up_ent h (by omega) (by omega) (by omega) acks_nil (.inr rfl), by show e.bal ≤ b; omega, Int.le_refl _, rfl, rfl, rfl, fun hp => by omega⟩
  · exact Kept.refl h
end Go.Proofs.YtbjepdfnmbdplaaGreat
end
section
namespace Go.Proofs.YtbjepdfnmbdplaaGreat
set_option linter.unusedSectionVars false
open Go.RowKit
set_option linter.unusedSimpArgs false
set_option linter.unusedVariables false
set_option maxRecDepth 100000
set_option maxHeartbeats 1000000
instance next3_spec (p : Int) : HasSpec Tryz.prog 249 [PV.int p, PV.int 3] (.tup [PV.int (n3P p), PV.int (n3X p)]) := by
  refine ⟨?_⟩; refine Spec.ofR (h := fun F w0 => ?_)
  repeat' ((conv => whnf); first | refine Q.a ?_ | refine Q.b ?_ | refine Q.c ?_ | refine Stk.is (by first | assumption | ((try simp only [lE]); first | done | assumption | omega)) ?_ | refine Stk.isnt (by first | assumption | ((try simp only [lE]); first | done | assumption | omega)) ?_ | (refine Stk.both (fun hb => ?_) (fun hb => ?_) <;> (try simp only [lE] at hb)) | refine Q.d ?_ | refine Q.e ?_ | refine Q.f ?_ | refine Q.g ?_ | refine Q.h ?_ | refine Q.i ?_ | refine Q.j ?_ | refine Q.k ?_ | refine Q.l ?_ | refine Q.m ?_ | refine Q.n ?_ | refine Q.o (h := ?_) | refine Q.p (h := ?_) | refine Q.q ?_ | refine Q.r ?_ | refine Q.s ?_ | refine Q.t ?_ | refine Q.u ?_ | refine Q.v ?_ | refine Q.w ?_ | refine Q.x ?_ | refine Q.y ?_ | refine Q.z ?_ | refine Stk.inl (h := fun tm => ?_) | refine Stk.inl0 (h := fun tm => ?_) | refine DefG.go (h := fun vs us => ?_) | intro (tm : Array Value) | refine Stk.op (ok_buildA rfl rfl rfl rfl) ?_ | refine Stk.scope ?_); all_goals (conv => whnf)
  all_goals ((refine Q.r6 (h := ?_); repeat' (first | exact Q.r0 | refine Q.r1 ?_ ?_ | refine Q.r2 ?_ | exact Q.r7 | refine Q.r3 ?_ | refine Q.r4 ?_ | refine Q.r5 ?_)))
  all_goals (first | unfold n3P | unfold n3X)
  all_goals (repeat' split)
  all_goals omega
end Go.Proofs.YtbjepdfnmbdplaaGreat
end
section
namespace Go.Proofs.YtbjepdfnmbdplaaGreat
open Go.RowKit
set_option linter.unusedSimpArgs false
set_option linter.unusedVariables false
set_option maxRecDepth 100000
set_option maxHeartbeats 1000000
theorem chk_yes {e : Ent} (h : entB e = true) : HasSpec Tryz.prog 110 [.agg e.cs] (PV.int 0) := by have := entrycheck_spec e; rw [h] at this; exact this
theorem chk_no {e : Ent} (h : entB e = false) : HasSpec Tryz.prog 110 [.agg e.cs] (PV.int 2) := by have := entrycheck_spec e; rw [h] at this; exact this
instance needs_spec (e : Ent) : HasSpec Tryz.prog 111 [.agg e.cs] (.v (.bool (needsB e))) := by
  cases hE : entB e with
  | false =>
    have j0 := chk_no hE
    rw [show needsB e = false by unfold needsB; rw [hE]; rfl]
    refine ⟨?_⟩; refine Spec.ofR (h := fun F w0 => ?_)
    repeat' ((conv => whnf); first | refine Q.E ?_ | (refine Stk.both (fun hb => ?_) (fun hb => ?_) <;> (try simp only [lE] at hb))); all_goals (conv => whnf)
    all_goals (refine Q.r6 (h := ?_); repeat' (first | exact Q.r0 | refine Q.r1 ?_ ?_ | refine Q.r2 ?_ | exact Q.r7 | refine Q.r3 ?_ | refine Q.r4 ?_ | refine Q.r5 ?_))
  | true =>
    have j0 := chk_yes hE
    rw [needs_of hE]
    refine ⟨?_⟩; refine Spec.ofR (h := fun F w0 => ?_)
    repeat' ((conv => whnf); first | refine Q.E ?_ | (refine Stk.both (fun hb => ?_) (fun hb => ?_) <;> (try simp only [lE] at hb))); all_goals (conv => whnf)
    all_goals (refine Q.r6 (h := ?_); repeat' (first | exact Q.r0 | refine Q.r1 ?_ ?_ | refine Q.r2 ?_ | exact Q.r7 | refine Q.r3 ?_ | refine Q.r4 ?_ | refine Q.r5 ?_))
    all_goals ((first | rfl | (rw [Bool.eq_iff_iff]; simp only [tst_true, tst_false, lE, decide_eq_true_eq, decide_eq_false_iff_not, Bool.and_eq_true, Bool.or_eq_true, Bool.not_eq_true', Bool.not_eq_false', Bool.false_eq_true, Bool.true_eq_false, true_iff, iff_true, false_iff, iff_false, true_and, and_true, false_and, and_false, not_false_eq_true, not_true_eq_false]; try omega)))
instance time_spec (t : Int) : HasSpec Tryz.prog 127 [PV.int t] (.v (.bool (timeB t))) := by
  refine ⟨?_⟩; refine Spec.ofR (h := fun F w0 => ?_)
  repeat' ((conv => whnf); first | refine Q.E ?_ | (refine Stk.both (fun hb => ?_) (fun hb => ?_) <;> (try simp only [lE] at hb))); all_goals (conv => whnf)
  all_goals (refine Q.r6 (h := ?_); repeat' (first | exact Q.r0 | refine Q.r1 ?_ ?_ | refine Q.r2 ?_ | exact Q.r7 | refine Q.r3 ?_ | refine Q.r4 ?_ | refine Q.r5 ?_))
  all_goals unfold timeB
  all_goals ((first | rfl | (rw [Bool.eq_iff_iff]; simp only [tst_true, tst_false, lE, decide_eq_true_eq, decide_eq_false_iff_not, Bool.and_eq_true, Bool.or_eq_true, Bool.not_eq_true', Bool.not_eq_false', Bool.false_eq_true, Bool.true_eq_false, true_iff, iff_true, false_iff, iff_false, true_and, and_true, false_and, and_false, not_false_eq_true, not_true_eq_false]; try omega)))
instance voted_spec (t : Int) : HasSpec Tryz.prog 128 [PV.int t] (.v (.bool (timeB t))) := by
  refine ⟨?_⟩; refine Spec.ofR (h := fun F w0 => ?_)
  repeat' ((conv => whnf); first | refine Q.E ?_ | (refine Stk.both (fun hb => ?_) (fun hb => ?_) <;> (try simp only [lE] at hb))); all_goals (conv => whnf)
  all_goals (refine Q.r6 (h := ?_); repeat' (first | exact Q.r0 | refine Q.r1 ?_ ?_ | refine Q.r2 ?_ | exact Q.r7 | refine Q.r3 ?_ | refine Q.r4 ?_ | refine Q.r5 ?_))
  all_goals unfold timeB
  all_goals ((first | rfl | (rw [Bool.eq_iff_iff]; simp only [tst_true, tst_false, lE, decide_eq_true_eq, decide_eq_false_iff_not, Bool.and_eq_true, Bool.or_eq_true, Bool.not_eq_true', Bool.not_eq_false', Bool.false_eq_true, Bool.true_eq_false, true_iff, iff_true, false_iff, iff_false, true_and, and_true, false_and, and_false, not_false_eq_true, not_true_eq_false]; try omega)))
end Go.Proofs.YtbjepdfnmbdplaaGreat
end
section
namespace Go.Proofs.YtbjepdfnmbdplaaGreat
open Go.RowKit
set_option linter.unusedSimpArgs false
set_option linter.unusedVariables false
set_option maxRecDepth 100000
set_option maxHeartbeats 1000000
instance clear_lit (a b c d e f g h : Int) (p : ByteArray) (xs : List (List PV)) : HasSpec Tryz.prog 130 [.agg [PV.int a, PV.int b, PV.int c, PV.int d, PV.int e, PV.int f, PV.int g, PV.int h, .v (.string p), .sl 6 xs]] (.agg [PV.int a, PV.int b, PV.int c, PV.int d, PV.int e, PV.int f, PV.int g, PV.int h, .v (.string p), .v (.slice none 0 0)]) := by
  refine ⟨?_⟩; refine Spec.ofR (h := fun F w0 => ?_)
  repeat' ((conv => whnf); first | refine Q.E ?_ | (refine Stk.both (fun hb => ?_) (fun hb => ?_) <;> (try simp only [lE] at hb))); all_goals (conv => whnf)
  (refine Q.r6 (h := ?_); repeat' (first | exact Q.r0 | refine Q.r1 ?_ ?_ | refine Q.r2 ?_ | exact Q.r7 | refine Q.r3 ?_ | refine Q.r4 ?_ | refine Q.r5 ?_))
theorem sett_of {p : Int} (h : 5 ≤ p) (h2 : p ≤ 6) : settB p = true := settB_iff.2 (by omega)
theorem sett_no {p : Int} (h : p < 5) : settB p = false := by
  cases e : settB p with
  | false => rfl
  | true => have := settB_iff.1 e; omega
theorem accE_no {e : Ent} {t b : Int} (h : accX e t b ≠ 0) : accE e t b = e := if_neg h
theorem promE_no {e : Ent} {b t : Int} (h : promX e b t ≠ 0) : promE e b t = e := if_neg h
end Go.Proofs.YtbjepdfnmbdplaaGreat
end
section
namespace Go.Proofs.YtbjepdfnmbdplaaGreat
open Go.RowKit
set_option linter.unusedSimpArgs false
set_option linter.unusedVariables false
set_option maxRecDepth 100000
set_option maxHeartbeats 1000000
instance accept_spec (e : Ent) (t b : Int) : HasSpec Tryz.prog 53 [.agg e.cs, PV.int t, PV.int b] (.tup [.agg (accE e t b).cs, PV.int (accX e t b)]) := by
  cases hE : entB e with
  | false =>
    have j0 := chk_no hE
    have hx : accX e t b = 2 := if_neg (by rw [hE]; simp)
    rw [hx, accE_no (by rw [hx]; decide)]
    refine ⟨?_⟩; refine Spec.ofD 2 (h := fun F w0 => ?_)
    repeat' ((conv => whnf); first | refine Q.E ?_ | (refine Stk.both (fun hb => ?_) (fun hb => ?_) <;> (try simp only [lE] at hb))); all_goals (conv => whnf)
    refine Stk.weakC (Weak.trans (Weak.ren 7 1007 rfl rfl rfl) (Weak.gc (env' := [(9, .agg e.cs), (7, .lp 1007 0), (6, .lp 6 0), (3, .lp 3 0), (1, PV.int t), (2, PV.int b)]) (lh' := [(1007, .box [PV.int 0]), (6, .box [PV.int 0, PV.int 0, PV.int 0, PV.int 0, PV.int 0, PV.int 0, PV.int 0, PV.int 0, .v (.string ⟨#[]⟩), .v (.slice none 0 0)]), (3, .box e.cs)]) ⟨rfl, rfl, rfl, rfl, rfl, rfl, trivial⟩ ⟨rfl, rfl, rfl, trivial⟩ rfl rfl rfl)) ?_
    repeat' ((conv => whnf); first | refine Q.a ?_ | refine Q.b ?_ | refine Q.c ?_ | refine Stk.is (by first | assumption | ((try simp only [lE]); first | done | assumption | omega)) ?_ | refine Stk.isnt (by first | assumption | ((try simp only [lE]); first | done | assumption | omega)) ?_ | (refine Stk.both (fun hb => ?_) (fun hb => ?_) <;> (try simp only [lE] at hb)) | refine Q.d ?_ | refine Q.e ?_ | refine Q.f ?_ | refine Q.g ?_ | refine Q.h ?_ | refine Q.i ?_ | refine Q.j ?_ | refine Q.k ?_ | refine Q.l ?_ | refine Q.m ?_ | refine Q.n ?_ | refine Q.o (h := ?_) | refine Q.p (h := ?_) | refine Q.q ?_ | refine Q.r ?_ | refine Q.s ?_ | refine Q.t ?_ | refine Q.u ?_ | refine Q.v ?_ | refine Q.w ?_ | refine Q.x ?_ | refine Q.y ?_ | refine Q.z ?_ | refine Stk.inl (h := fun tm => ?_) | refine Stk.inl0 (h := fun tm => ?_) | refine DefG.go (h := fun vs us => ?_) | intro (tm : Array Value) | refine Stk.op (ok_buildA rfl rfl rfl rfl) ?_ | refine Stk.scope ?_); all_goals (conv => whnf)
    all_goals (refine Q.r6 (h := ?_); repeat' (first | exact Q.r0 | refine Q.r1 ?_ ?_ | refine Q.r2 ?_ | exact Q.r7 | refine Q.r3 ?_ | refine Q.r4 ?_ | refine Q.r5 ?_))
  | true =>
    have j0 := chk_yes hE
    have f := ent_facts hE
    cases ht : timeB t with
    | false =>
      have hx : accX e t b = 2 := if_neg (by rw [ht]; simp)
      rw [hx, accE_no (by rw [hx]; decide)]
      refine ⟨?_⟩; refine Spec.ofD 2 (h := fun F w0 => ?_)
      repeat' ((conv => whnf); first | refine Q.E ?_ | (refine Stk.both (fun hb => ?_) (fun hb => ?_) <;> (try simp only [lE] at hb))); all_goals (conv => whnf)
      refine Stk.weakC (Weak.trans (Weak.ren 7 1007 rfl rfl rfl) (Weak.gc (env' := [(9, .agg e.cs), (7, .lp 1007 0), (6, .lp 6 0), (3, .lp 3 0), (1, PV.int t), (2, PV.int b)]) (lh' := [(1007, .box [PV.int 0]), (6, .box [PV.int 0, PV.int 0, PV.int 0, PV.int 0, PV.int 0, PV.int 0, PV.int 0, PV.int 0, .v (.string ⟨#[]⟩), .v (.slice none 0 0)]), (3, .box e.cs)]) ⟨rfl, rfl, rfl, rfl, rfl, rfl, trivial⟩ ⟨rfl, rfl, rfl, trivial⟩ rfl rfl rfl)) ?_
      repeat' ((conv => whnf); first | refine Q.a ?_ | refine Q.b ?_ | refine Q.c ?_ | refine Stk.is (by first | assumption | ((try simp only [lE]); first | done | assumption | omega)) ?_ | refine Stk.isnt (by first | assumption | ((try simp only [lE]); first | done | assumption | omega)) ?_ | (refine Stk.both (fun hb => ?_) (fun hb => ?_) <;> (try simp only [lE] at hb)) | refine Q.d ?_ | refine Q.e ?_ | refine Q.f ?_ | refine Q.g ?_ | refine Q.h ?_ | refine Q.i ?_ | refine Q.j ?_ | refine Q.k ?_ | refine Q.l ?_ | refine Q.m ?_ | refine Q.n ?_ | refine Q.o (h := ?_) | refine Q.p (h := ?_) | refine Q.q ?_ | refine Q.r ?_ | refine Q.s ?_ | refine Q.t ?_ | refine Q.u ?_ | refine Q.v ?_ | refine Q.w ?_ | refine Q.x ?_ | refine Q.y ?_ | refine Q.z ?_ | refine Stk.inl (h := fun tm => ?_) | refine Stk.inl0 (h := fun tm => ?_) | refine DefG.go (h := fun vs us => ?_) | intro (tm : Array Value) | refine Stk.op (ok_buildA rfl rfl rfl rfl) ?_ | refine Stk.scope ?_); all_goals (conv => whnf)
      all_goals (refine Q.r6 (h := ?_); repeat' (first | exact Q.r0 | refine Q.r1 ?_ ?_ | refine Q.r2 ?_ | exact Q.r7 | refine Q.r3 ?_ | refine Q.r4 ?_ | refine Q.r5 ?_))
    | true =>
      cases hb : timeB b with
      | false =>
        have hx : accX e t b = 2 := if_neg (by rw [hb]; simp)
        rw [hx, accE_no (by rw [hx]; decide)]
        refine ⟨?_⟩; refine Spec.ofD 2 (h := fun F w0 => ?_)
        repeat' ((conv => whnf); first | refine Q.E ?_ | (refine Stk.both (fun hb => ?_) (fun hb => ?_) <;> (try simp only [lE] at hb))); all_goals (conv => whnf)
        refine Stk.weakC (Weak.trans (Weak.ren 7 1007 rfl rfl rfl) (Weak.gc (env' := [(9, .agg e.cs), (7, .lp 1007 0), (6, .lp 6 0), (3, .lp 3 0), (1, PV.int t), (2, PV.int b)]) (lh' := [(1007, .box [PV.int 0]), (6, .box [PV.int 0, PV.int 0, PV.int 0, PV.int 0, PV.int 0, PV.int 0, PV.int 0, PV.int 0, .v (.string ⟨#[]⟩), .v (.slice none 0 0)]), (3, .box e.cs)]) ⟨rfl, rfl, rfl, rfl, rfl, rfl, trivial⟩ ⟨rfl, rfl, rfl, trivial⟩ rfl rfl rfl)) ?_
        repeat' ((conv => whnf); first | refine Q.a ?_ | refine Q.b ?_ | refine Q.c ?_ | refine Stk.is (by first | assumption | ((try simp only [lE]); first | done | assumption | omega)) ?_ | refine Stk.isnt (by first | assumption | ((try simp only [lE]); first | done | assumption | omega)) ?_ | (refine Stk.both (fun hb => ?_) (fun hb => ?_) <;> (try simp only [lE] at hb)) | refine Q.d ?_ | refine Q.e ?_ | refine Q.f ?_ | refine Q.g ?_ | refine Q.h ?_ | refine Q.i ?_ | refine Q.j ?_ | refine Q.k ?_ | refine Q.l ?_ | refine Q.m ?_ | refine Q.n ?_ | refine Q.o (h := ?_) | refine Q.p (h := ?_) | refine Q.q ?_ | refine Q.r ?_ | refine Q.s ?_ | refine Q.t ?_ | refine Q.u ?_ | refine Q.v ?_ | refine Q.w ?_ | refine Q.x ?_ | refine Q.y ?_ | refine Q.z ?_ | refine Stk.inl (h := fun tm => ?_) | refine Stk.inl0 (h := fun tm => ?_) | refine DefG.go (h := fun vs us => ?_) | intro (tm : Array Value) | refine Stk.op (ok_buildA rfl rfl rfl rfl) ?_ | refine Stk.scope ?_); all_goals (conv => whnf)
        all_goals (refine Q.r6 (h := ?_); repeat' (first | exact Q.r0 | refine Q.r1 ?_ ?_ | refine Q.r2 ?_ | exact Q.r7 | refine Q.r3 ?_ | refine Q.r4 ?_ | refine Q.r5 ?_))
      | true =>
        have hc : accX e t b = if e.phase < 5 then (if e.bal ≤ b then 0 else 45) else 33 := if_pos ⟨hE, ht, hb⟩
        by_cases hp : e.phase < 5
        · have hs := sett_no hp
          by_cases hl : e.bal ≤ b
          · have hx : accX e t b = 0 := by rw [hc, if_pos hp, if_pos hl]
            rw [show accE e t b = e.up e.phase t b b [] from if_pos hx, hx]
            refine ⟨?_⟩; refine Spec.ofD 2 (h := fun F w0 => ?_)
            repeat' ((conv => whnf); first | refine Q.E ?_ | (refine Stk.both (fun hb => ?_) (fun hb => ?_) <;> (try simp only [lE] at hb))); all_goals (conv => whnf)
            refine Stk.weakC (Weak.trans (Weak.ren 7 1007 rfl rfl rfl) (Weak.gc (env' := [(9, .agg e.cs), (7, .lp 1007 0), (6, .lp 6 0), (3, .lp 3 0), (1, PV.int t), (2, PV.int b)]) (lh' := [(1007, .box [PV.int 0]), (6, .box [PV.int 0, PV.int 0, PV.int 0, PV.int 0, PV.int 0, PV.int 0, PV.int 0, PV.int 0, .v (.string ⟨#[]⟩), .v (.slice none 0 0)]), (3, .box e.cs)]) ⟨rfl, rfl, rfl, rfl, rfl, rfl, trivial⟩ ⟨rfl, rfl, rfl, trivial⟩ rfl rfl rfl)) ?_
            repeat' ((conv => whnf); first | refine Q.a ?_ | refine Q.b ?_ | refine Q.c ?_ | refine Stk.is (by first | assumption | ((try simp only [lE]); first | done | assumption | omega)) ?_ | refine Stk.isnt (by first | assumption | ((try simp only [lE]); first | done | assumption | omega)) ?_ | (refine Stk.both (fun hb => ?_) (fun hb => ?_) <;> (try simp only [lE] at hb)) | refine Q.d ?_ | refine Q.e ?_ | refine Q.f ?_ | refine Q.g ?_ | refine Q.h ?_ | refine Q.i ?_ | refine Q.j ?_ | refine Q.k ?_ | refine Q.l ?_ | refine Q.m ?_ | refine Q.n ?_ | refine Q.o (h := ?_) | refine Q.p (h := ?_) | refine Q.q ?_ | refine Q.r ?_ | refine Q.s ?_ | refine Q.t ?_ | refine Q.u ?_ | refine Q.v ?_ | refine Q.w ?_ | refine Q.x ?_ | refine Q.y ?_ | refine Q.z ?_ | refine Stk.inl (h := fun tm => ?_) | refine Stk.inl0 (h := fun tm => ?_) | refine DefG.go (h := fun vs us => ?_) | intro (tm : Array Value) | refine Stk.op (ok_buildA rfl rfl rfl rfl) ?_ | refine Stk.scope ?_); all_goals (conv => whnf)
            all_goals (refine Q.r6 (h := ?_); repeat' (first | exact Q.r0 | refine Q.r1 ?_ ?_ | refine Q.r2 ?_ | exact Q.r7 | refine Q.r3 ?_ | refine Q.r4 ?_ | refine Q.r5 ?_))
          · have hl' : b < e.bal := by omega
            have hx : accX e t b = 45 := by rw [hc, if_pos hp, if_neg hl]
            rw [hx, accE_no (by rw [hx]; decide)]
            refine ⟨?_⟩; refine Spec.ofD 2 (h := fun F w0 => ?_)
            repeat' ((conv => whnf); first | refine Q.E ?_ | (refine Stk.both (fun hb => ?_) (fun hb => ?_) <;> (try simp only [lE] at hb))); all_goals (conv => whnf)
            refine Stk.weakC (Weak.trans (Weak.ren 7 1007 rfl rfl rfl) (Weak.gc (env' := [(9, .agg e.cs), (7, .lp 1007 0), (6, .lp 6 0), (3, .lp 3 0), (1, PV.int t), (2, PV.int b)]) (lh' := [(1007, .box [PV.int 0]), (6, .box [PV.int 0, PV.int 0, PV.int 0, PV.int 0, PV.int 0, PV.int 0, PV.int 0, PV.int 0, .v (.string ⟨#[]⟩), .v (.slice none 0 0)]), (3, .box e.cs)]) ⟨rfl, rfl, rfl, rfl, rfl, rfl, trivial⟩ ⟨rfl, rfl, rfl, trivial⟩ rfl rfl rfl)) ?_
            repeat' ((conv => whnf); first | refine Q.a ?_ | refine Q.b ?_ | refine Q.c ?_ | refine Stk.is (by first | assumption | ((try simp only [lE]); first | done | assumption | omega)) ?_ | refine Stk.isnt (by first | assumption | ((try simp only [lE]); first | done | assumption | omega)) ?_ | (refine Stk.both (fun hb => ?_) (fun hb => ?_) <;> (try simp only [lE] at hb)) | refine Q.d ?_ | refine Q.e ?_ | refine Q.f ?_ | refine Q.g ?_ | refine Q.h ?_ | refine Q.i ?_ | refine Q.j ?_ | refine Q.k ?_ | refine Q.l ?_ | refine Q.m ?_ | refine Q.n ?_ | refine Q.o (h := ?_) | refine Q.p (h := ?_) | refine Q.q ?_ | refine Q.r ?_ | refine Q.s ?_ | refine Q.t ?_ | refine Q.u ?_ | refine Q.v ?_ | refine Q.w ?_ | refine Q.x ?_ | refine Q.y ?_ | refine Q.z ?_ | refine Stk.inl (h := fun tm => ?_) | refine Stk.inl0 (h := fun tm => ?_) | refine DefG.go (h := fun vs us => ?_) | intro (tm : Array Value) | refine Stk.op (ok_buildA rfl rfl rfl rfl) ?_ | refine Stk.scope ?_); all_goals (conv => whnf)
            all_goals (refine Q.r6 (h := ?_); repeat' (first | exact Q.r0 | refine Q.r1 ?_ ?_ | refine Q.r2 ?_ | exact Q.r7 | refine Q.r3 ?_ | refine Q.r4 ?_ | refine Q.r5 ?_))
        · have hs := sett_of (p := e.phase) (by omega) (by omega)
          have hx : accX e t b = 33 := by rw [hc, if_neg hp]
          rw [hx, accE_no (by rw [hx]; decide)]
          refine ⟨?_⟩; refine Spec.ofD 2 (h := fun F w0 => ?_)
          repeat' ((conv => whnf); first | refine Q.E ?_ | (refine Stk.both (fun hb => ?_) (fun hb => ?_) <;> (try simp only [lE] at hb))); all_goals (conv => whnf)
          refine Stk.weakC (Weak.trans (Weak.ren 7 1007 rfl rfl rfl) (Weak.gc (env' := [(9, .agg e.cs), (7, .lp 1007 0), (6, .lp 6 0), (3, .lp 3 0), (1, PV.int t), (2, PV.int b)]) (lh' := [(1007, .box [PV.int 0]), (6, .box [PV.int 0, PV.int 0, PV.int 0, PV.int 0, PV.int 0, PV.int 0, PV.int 0, PV.int 0, .v (.string ⟨#[]⟩), .v (.slice none 0 0)]), (3, .box e.cs)]) ⟨rfl, rfl, rfl, rfl, rfl, rfl, trivial⟩ ⟨rfl, rfl, rfl, trivial⟩ rfl rfl rfl)) ?_
          repeat' ((conv => whnf); first | refine Q.a ?_ | refine Q.b ?_ | refine Q.c ?_ | refine Stk.is (by first | assumption | ((try simp only [lE]); first | done | assumption | omega)) ?_ | refine Stk.isnt (by first | assumption | ((try simp only [lE]); first | done | assumption | omega)) ?_ | (refine Stk.both (fun hb => ?_) (fun hb => ?_) <;> (try simp only [lE] at hb)) | refine Q.d ?_ | refine Q.e ?_ | refine Q.f ?_ | refine Q.g ?_ | refine Q.h ?_ | refine Q.i ?_ | refine Q.j ?_ | refine Q.k ?_ | refine Q.l ?_ | refine Q.m ?_ | refine Q.n ?_ | refine Q.o (h := ?_) | refine Q.p (h := ?_) | refine Q.q ?_ | refine Q.r ?_ | refine Q.s ?_ | refine Q.t ?_ | refine Q.u ?_ | refine Q.v ?_ | refine Q.w ?_ | refine Q.x ?_ | refine Q.y ?_ | refine Q.z ?_ | refine Stk.inl (h := fun tm => ?_) | refine Stk.inl0 (h := fun tm => ?_) | refine DefG.go (h := fun vs us => ?_) | intro (tm : Array Value) | refine Stk.op (ok_buildA rfl rfl rfl rfl) ?_ | refine Stk.scope ?_); all_goals (conv => whnf)
          all_goals (refine Q.r6 (h := ?_); repeat' (first | exact Q.r0 | refine Q.r1 ?_ ?_ | refine Q.r2 ?_ | exact Q.r7 | refine Q.r3 ?_ | refine Q.r4 ?_ | refine Q.r5 ?_))
end Go.Proofs.YtbjepdfnmbdplaaGreat
end
section
namespace Go.Proofs.YtbjepdfnmbdplaaGreat
open Go.RowKit
set_option linter.unusedSimpArgs false
set_option linter.unusedVariables false
set_option maxRecDepth 100000
set_option maxHeartbeats 1000000
theorem promise_no (e : Ent) (b t : Int) (hE : entB e = false) : HasSpec Tryz.prog 113 [.agg e.cs, PV.int b, PV.int t] (.tup [.agg (promE e b t).cs, PV.int (promX e b t)]) := by
  have j0 := chk_no hE
  have j1 := next3_spec e.phase
  have hn : needsB e = false := by unfold needsB; rw [hE]; rfl
  have hx : promX e b t = 2 := if_neg (by rw [hE]; simp)
  rw [hx, promE_no (by rw [hx]; decide)]
  refine ⟨?_⟩; refine Spec.ofD 2 (h := fun F w0 => ?_)
  repeat' ((conv => whnf); first | refine Q.E ?_ | (refine Stk.both (fun hb => ?_) (fun hb => ?_) <;> (try simp only [lE] at hb))); all_goals (conv => whnf)
  refine Stk.weakC (Weak.trans (Weak.ren 7 1007 rfl rfl rfl) (Weak.gc (env' := [(10, .agg e.cs), (7, .lp 1007 0), (6, .lp 6 0), (3, .lp 3 0), (1, PV.int b), (2, PV.int t)]) (lh' := [(1007, .box [PV.int 0]), (6, .box [PV.int 0, PV.int 0, PV.int 0, PV.int 0, PV.int 0, PV.int 0, PV.int 0, PV.int 0, .v (.string ⟨#[]⟩), .v (.slice none 0 0)]), (3, .box e.cs)]) ⟨rfl, rfl, rfl, rfl, rfl, rfl, trivial⟩ ⟨rfl, rfl, rfl, trivial⟩ rfl rfl rfl)) ?_
  repeat' ((conv => whnf); first | refine Q.a ?_ | refine Q.b ?_ | refine Q.c ?_ | refine Stk.is (by first | assumption | ((try simp only [lE]); first | done | assumption | omega)) ?_ | refine Stk.isnt (by first | assumption | ((try simp only [lE]); first | done | assumption | omega)) ?_ | (refine Stk.both (fun hb => ?_) (fun hb => ?_) <;> (try simp only [lE] at hb)) | refine Q.d ?_ | refine Q.e ?_ | refine Q.f ?_ | refine Q.g ?_ | refine Q.h ?_ | refine Q.i ?_ | refine Q.j ?_ | refine Q.k ?_ | refine Q.l ?_ | refine Q.m ?_ | refine Q.n ?_ | refine Q.o (h := ?_) | refine Q.p (h := ?_) | refine Q.q ?_ | refine Q.r ?_ | refine Q.s ?_ | refine Q.t ?_ | refine Q.u ?_ | refine Q.v ?_ | refine Q.w ?_ | refine Q.x ?_ | refine Q.y ?_ | refine Q.z ?_ | refine Stk.inl (h := fun tm => ?_) | refine Stk.inl0 (h := fun tm => ?_) | refine DefG.go (h := fun vs us => ?_) | intro (tm : Array Value) | refine Stk.op (ok_buildA rfl rfl rfl rfl) ?_ | refine Stk.scope ?_); all_goals (conv => whnf)
  all_goals (refine Q.r6 (h := ?_); repeat' (first | exact Q.r0 | refine Q.r1 ?_ ?_ | refine Q.r2 ?_ | exact Q.r7 | refine Q.r3 ?_ | refine Q.r4 ?_ | refine Q.r5 ?_))
theorem promise_b (e : Ent) (b t : Int) (hE : entB e = true) (hb : timeB b = false) : HasSpec Tryz.prog 113 [.agg e.cs, PV.int b, PV.int t] (.tup [.agg (promE e b t).cs, PV.int (promX e b t)]) := by
  have j0 := chk_yes hE
  have j1 := next3_spec e.phase
  have hx : promX e b t = 2 := if_neg (by rw [hb]; simp)
  rw [hx, promE_no (by rw [hx]; decide)]
  refine ⟨?_⟩; refine Spec.ofD 2 (h := fun F w0 => ?_)
  repeat' ((conv => whnf); first | refine Q.E ?_ | (refine Stk.both (fun hb => ?_) (fun hb => ?_) <;> (try simp only [lE] at hb))); all_goals (conv => whnf)
  refine Stk.weakC (Weak.trans (Weak.ren 7 1007 rfl rfl rfl) (Weak.gc (env' := [(10, .agg e.cs), (7, .lp 1007 0), (6, .lp 6 0), (3, .lp 3 0), (1, PV.int b), (2, PV.int t)]) (lh' := [(1007, .box [PV.int 0]), (6, .box [PV.int 0, PV.int 0, PV.int 0, PV.int 0, PV.int 0, PV.int 0, PV.int 0, PV.int 0, .v (.string ⟨#[]⟩), .v (.slice none 0 0)]), (3, .box e.cs)]) ⟨rfl, rfl, rfl, rfl, rfl, rfl, trivial⟩ ⟨rfl, rfl, rfl, trivial⟩ rfl rfl rfl)) ?_
  repeat' ((conv => whnf); first | refine Q.a ?_ | refine Q.b ?_ | refine Q.c ?_ | refine Stk.is (by first | assumption | ((try simp only [lE]); first | done | assumption | omega)) ?_ | refine Stk.isnt (by first | assumption | ((try simp only [lE]); first | done | assumption | omega)) ?_ | (refine Stk.both (fun hb => ?_) (fun hb => ?_) <;> (try simp only [lE] at hb)) | refine Q.d ?_ | refine Q.e ?_ | refine Q.f ?_ | refine Q.g ?_ | refine Q.h ?_ | refine Q.i ?_ | refine Q.j ?_ | refine Q.k ?_ | refine Q.l ?_ | refine Q.m ?_ | refine Q.n ?_ | refine Q.o (h := ?_) | refine Q.p (h := ?_) | refine Q.q ?_ | refine Q.r ?_ | refine Q.s ?_ | refine Q.t ?_ | refine Q.u ?_ | refine Q.v ?_ | refine Q.w ?_ | refine Q.x ?_ | refine Q.y ?_ | refine Q.z ?_ | refine Stk.inl (h := fun tm => ?_) | refine Stk.inl0 (h := fun tm => ?_) | refine DefG.go (h := fun vs us => ?_) | intro (tm : Array Value) | refine Stk.op (ok_buildA rfl rfl rfl rfl) ?_ | refine Stk.scope ?_); all_goals (conv => whnf)
  all_goals (refine Q.r6 (h := ?_); repeat' (first | exact Q.r0 | refine Q.r1 ?_ ?_ | refine Q.r2 ?_ | exact Q.r7 | refine Q.r3 ?_ | refine Q.r4 ?_ | refine Q.r5 ?_))
theorem promise_t (e : Ent) (b t : Int) (hE : entB e = true) (hb : timeB b = true) (hn : needsB e = true) (ht : timeB t = false) : HasSpec Tryz.prog 113 [.agg e.cs, PV.int b, PV.int t] (.tup [.agg (promE e b t).cs, PV.int (promX e b t)]) := by
  have j0 := chk_yes hE
  have j1 := next3_spec e.phase
  have hx : promX e b t = 2 := if_neg (by rw [ht, hn]; simp)
  rw [hx, promE_no (by rw [hx]; decide)]
  refine ⟨?_⟩; refine Spec.ofD 2 (h := fun F w0 => ?_)
  repeat' ((conv => whnf); first | refine Q.E ?_ | (refine Stk.both (fun hb => ?_) (fun hb => ?_) <;> (try simp only [lE] at hb))); all_goals (conv => whnf)
  refine Stk.weakC (Weak.trans (Weak.ren 7 1007 rfl rfl rfl) (Weak.gc (env' := [(10, .agg e.cs), (7, .lp 1007 0), (6, .lp 6 0), (3, .lp 3 0), (1, PV.int b), (2, PV.int t)]) (lh' := [(1007, .box [PV.int 0]), (6, .box [PV.int 0, PV.int 0, PV.int 0, PV.int 0, PV.int 0, PV.int 0, PV.int 0, PV.int 0, .v (.string ⟨#[]⟩), .v (.slice none 0 0)]), (3, .box e.cs)]) ⟨rfl, rfl, rfl, rfl, rfl, rfl, trivial⟩ ⟨rfl, rfl, rfl, trivial⟩ rfl rfl rfl)) ?_
  repeat' ((conv => whnf); first | refine Q.a ?_ | refine Q.b ?_ | refine Q.c ?_ | refine Stk.is (by first | assumption | ((try simp only [lE]); first | done | assumption | omega)) ?_ | refine Stk.isnt (by first | assumption | ((try simp only [lE]); first | done | assumption | omega)) ?_ | (refine Stk.both (fun hb => ?_) (fun hb => ?_) <;> (try simp only [lE] at hb)) | refine Q.d ?_ | refine Q.e ?_ | refine Q.f ?_ | refine Q.g ?_ | refine Q.h ?_ | refine Q.i ?_ | refine Q.j ?_ | refine Q.k ?_ | refine Q.l ?_ | refine Q.m ?_ | refine Q.n ?_ | refine Q.o (h := ?_) | refine Q.p (h := ?_) | refine Q.q ?_ | refine Q.r ?_ | refine Q.s ?_ | refine Q.t ?_ | refine Q.u ?_ | refine Q.v ?_ | refine Q.w ?_ | refine Q.x ?_ | refine Q.y ?_ | refine Q.z ?_ | refine Stk.inl (h := fun tm => ?_) | refine Stk.inl0 (h := fun tm => ?_) | refine DefG.go (h := fun vs us => ?_) | intro (tm : Array Value) | refine Stk.op (ok_buildA rfl rfl rfl rfl) ?_ | refine Stk.scope ?_); all_goals (conv => whnf)
  all_goals (refine Q.r6 (h := ?_); repeat' (first | exact Q.r0 | refine Q.r1 ?_ ?_ | refine Q.r2 ?_ | exact Q.r7 | refine Q.r3 ?_ | refine Q.r4 ?_ | refine Q.r5 ?_))
theorem promise_p (e : Ent) (b t : Int) (hE : entB e = true) (hb : timeB b = true) (hn : needsB e = true) (ht : timeB t = true) : HasSpec Tryz.prog 113 [.agg e.cs, PV.int b, PV.int t] (.tup [.agg (promE e b t).cs, PV.int (promX e b t)]) := by
  have j0 := chk_yes hE
  have j1 := next3_spec e.phase
  have f := ent_facts hE
  have g := needsB_iff.1 hn
  have hb' := timeB_iff.1 hb
  have hs := sett_no (p := e.phase) (by omega)
  have h2 : n3X e.phase = 0 := if_pos (by omega)
  rw [h2] at j1
  have hx : promX e b t = 0 := by unfold promX; rw [if_pos ⟨hE, hb, fun _ => ht⟩, if_pos (by omega), if_pos (by omega)]
  rw [show promE e b t = e.up (n3P e.phase) t b e.abal [] by unfold promE; rw [if_pos hx, if_pos g.2.2, if_pos hn], hx]
  refine ⟨?_⟩; refine Spec.ofD 2 (h := fun F w0 => ?_)
  repeat' ((conv => whnf); first | refine Q.E ?_ | (refine Stk.both (fun hb => ?_) (fun hb => ?_) <;> (try simp only [lE] at hb))); all_goals (conv => whnf)
  refine Stk.weakC (Weak.trans (Weak.ren 7 1007 rfl rfl rfl) (Weak.gc (env' := [(10, .agg e.cs), (7, .lp 1007 0), (6, .lp 6 0), (3, .lp 3 0), (1, PV.int b), (2, PV.int t)]) (lh' := [(1007, .box [PV.int 0]), (6, .box [PV.int 0, PV.int 0, PV.int 0, PV.int 0, PV.int 0, PV.int 0, PV.int 0, PV.int 0, .v (.string ⟨#[]⟩), .v (.slice none 0 0)]), (3, .box e.cs)]) ⟨rfl, rfl, rfl, rfl, rfl, rfl, trivial⟩ ⟨rfl, rfl, rfl, trivial⟩ rfl rfl rfl)) ?_
  repeat' ((conv => whnf); first | refine Q.a ?_ | refine Q.b ?_ | refine Q.c ?_ | refine Stk.is (by first | assumption | ((try simp only [lE]); first | done | assumption | omega)) ?_ | refine Stk.isnt (by first | assumption | ((try simp only [lE]); first | done | assumption | omega)) ?_ | (refine Stk.both (fun hb => ?_) (fun hb => ?_) <;> (try simp only [lE] at hb)) | refine Q.d ?_ | refine Q.e ?_ | refine Q.f ?_ | refine Q.g ?_ | refine Q.h ?_ | refine Q.i ?_ | refine Q.j ?_ | refine Q.k ?_ | refine Q.l ?_ | refine Q.m ?_ | refine Q.n ?_ | refine Q.o (h := ?_) | refine Q.p (h := ?_) | refine Q.q ?_ | refine Q.r ?_ | refine Q.s ?_ | refine Q.t ?_ | refine Q.u ?_ | refine Q.v ?_ | refine Q.w ?_ | refine Q.x ?_ | refine Q.y ?_ | refine Q.z ?_ | refine Stk.inl (h := fun tm => ?_) | refine Stk.inl0 (h := fun tm => ?_) | refine DefG.go (h := fun vs us => ?_) | intro (tm : Array Value) | refine Stk.op (ok_buildA rfl rfl rfl rfl) ?_ | refine Stk.scope ?_); all_goals (conv => whnf)
  all_goals (refine Q.r6 (h := ?_); repeat' (first | exact Q.r0 | refine Q.r1 ?_ ?_ | refine Q.r2 ?_ | exact Q.r7 | refine Q.r3 ?_ | refine Q.r4 ?_ | refine Q.r5 ?_))
theorem promise_q (e : Ent) (b t : Int) (hE : entB e = true) (hb : timeB b = true) (hn : needsB e = false) : HasSpec Tryz.prog 113 [.agg e.cs, PV.int b, PV.int t] (.tup [.agg (promE e b t).cs, PV.int (promX e b t)]) := by
  have j0 := chk_yes hE
  have j1 := next3_spec e.phase
  have f := ent_facts hE
  have hc : promX e b t = if e.phase < 5 then (if e.bal < b then 0 else 45) else 33 := if_pos ⟨hE, hb, fun h => by rw [hn] at h; cases h⟩
  have hn' : ¬ needsB e = true := by rw [hn]; simp
  by_cases hp : e.phase < 5
  · have hs := sett_no hp
    by_cases hl : e.bal < b
    · have hx : promX e b t = 0 := by rw [hc, if_pos hp, if_pos hl]
      by_cases h0 : e.bal = 0
      · have h2 : n3X e.phase = 0 := if_pos (by omega)
        rw [h2] at j1
        rw [show promE e b t = e.up (n3P e.phase) e.t b e.abal [] by unfold promE; rw [if_pos hx, if_pos h0, if_neg hn'], hx]
        refine ⟨?_⟩; refine Spec.ofD 2 (h := fun F w0 => ?_)
        repeat' ((conv => whnf); first | refine Q.E ?_ | (refine Stk.both (fun hb => ?_) (fun hb => ?_) <;> (try simp only [lE] at hb))); all_goals (conv => whnf)
        refine Stk.weakC (Weak.trans (Weak.ren 7 1007 rfl rfl rfl) (Weak.gc (env' := [(10, .agg e.cs), (7, .lp 1007 0), (6, .lp 6 0), (3, .lp 3 0), (1, PV.int b), (2, PV.int t)]) (lh' := [(1007, .box [PV.int 0]), (6, .box [PV.int 0, PV.int 0, PV.int 0, PV.int 0, PV.int 0, PV.int 0, PV.int 0, PV.int 0, .v (.string ⟨#[]⟩), .v (.slice none 0 0)]), (3, .box e.cs)]) ⟨rfl, rfl, rfl, rfl, rfl, rfl, trivial⟩ ⟨rfl, rfl, rfl, trivial⟩ rfl rfl rfl)) ?_
        repeat' ((conv => whnf); first | refine Q.a ?_ | refine Q.b ?_ | refine Q.c ?_ | refine Stk.is (by first | assumption | ((try simp only [lE]); first | done | assumption | omega)) ?_ | refine Stk.isnt (by first | assumption | ((try simp only [lE]); first | done | assumption | omega)) ?_ | (refine Stk.both (fun hb => ?_) (fun hb => ?_) <;> (try simp only [lE] at hb)) | refine Q.d ?_ | refine Q.e ?_ | refine Q.f ?_ | refine Q.g ?_ | refine Q.h ?_ | refine Q.i ?_ | refine Q.j ?_ | refine Q.k ?_ | refine Q.l ?_ | refine Q.m ?_ | refine Q.n ?_ | refine Q.o (h := ?_) | refine Q.p (h := ?_) | refine Q.q ?_ | refine Q.r ?_ | refine Q.s ?_ | refine Q.t ?_ | refine Q.u ?_ | refine Q.v ?_ | refine Q.w ?_ | refine Q.x ?_ | refine Q.y ?_ | refine Q.z ?_ | refine Stk.inl (h := fun tm => ?_) | refine Stk.inl0 (h := fun tm => ?_) | refine DefG.go (h := fun vs us => ?_) | intro (tm : Array Value) | refine Stk.op (ok_buildA rfl rfl rfl rfl) ?_ | refine Stk.scope ?_); all_goals (conv => whnf)
        all_goals (refine Q.r6 (h := ?_); repeat' (first | exact Q.r0 | refine Q.r1 ?_ ?_ | refine Q.r2 ?_ | exact Q.r7 | refine Q.r3 ?_ | refine Q.r4 ?_ | refine Q.r5 ?_))
      · rw [show promE e b t = e.up e.phase e.t b e.abal [] by unfold promE; rw [if_pos hx, if_neg h0, if_neg hn'], hx]
        refine ⟨?_⟩; refine Spec.ofD 2 (h := fun F w0 => ?_)
        repeat' ((conv => whnf); first | refine Q.E ?_ | (refine Stk.both (fun hb => ?_) (fun hb => ?_) <;> (try simp only [lE] at hb))); all_goals (conv => whnf)
        refine Stk.weakC (Weak.trans (Weak.ren 7 1007 rfl rfl rfl) (Weak.gc (env' := [(10, .agg e.cs), (7, .lp 1007 0), (6, .lp 6 0), (3, .lp 3 0), (1, PV.int b), (2, PV.int t)]) (lh' := [(1007, .box [PV.int 0]), (6, .box [PV.int 0, PV.int 0, PV.int 0, PV.int 0, PV.int 0, PV.int 0, PV.int 0, PV.int 0, .v (.string ⟨#[]⟩), .v (.slice none 0 0)]), (3, .box e.cs)]) ⟨rfl, rfl, rfl, rfl, rfl, rfl, trivial⟩ ⟨rfl, rfl, rfl, trivial⟩ rfl rfl rfl)) ?_
        repeat' ((conv => whnf); first | refine Q.a ?_ | refine Q.b ?_ | refine Q.c ?_ | refine Stk.is (by first | assumption | ((try simp only [lE]); first | done | assumption | omega)) ?_ | refine Stk.isnt (by first | assumption | ((try simp only [lE]); first | done | assumption | omega)) ?_ | (refine Stk.both (fun hb => ?_) (fun hb => ?_) <;> (try simp only [lE] at hb)) | refine Q.d ?_ | refine Q.e ?_ | refine Q.f ?_ | refine Q.g ?_ | refine Q.h ?_ | refine Q.i ?_ | refine Q.j ?_ | refine Q.k ?_ | refine Q.l ?_ | refine Q.m ?_ | refine Q.n ?_ | refine Q.o (h := ?_) | refine Q.p (h := ?_) | refine Q.q ?_ | refine Q.r ?_ | refine Q.s ?_ | refine Q.t ?_ | refine Q.u ?_ | refine Q.v ?_ | refine Q.w ?_ | refine Q.x ?_ | refine Q.y ?_ | refine Q.z ?_ | refine Stk.inl (h := fun tm => ?_) | refine Stk.inl0 (h := fun tm => ?_) | refine DefG.go (h := fun vs us => ?_) | intro (tm : Array Value) | refine Stk.op (ok_buildA rfl rfl rfl rfl) ?_ | refine Stk.scope ?_); all_goals (conv => whnf)
        all_goals (refine Q.r6 (h := ?_); repeat' (first | exact Q.r0 | refine Q.r1 ?_ ?_ | refine Q.r2 ?_ | exact Q.r7 | refine Q.r3 ?_ | refine Q.r4 ?_ | refine Q.r5 ?_))
    · have hl' : b ≤ e.bal := by omega
      have hx : promX e b t = 45 := by rw [hc, if_pos hp, if_neg hl]
      rw [hx, promE_no (by rw [hx]; decide)]
      refine ⟨?_⟩; refine Spec.ofD 2 (h := fun F w0 => ?_)
      repeat' ((conv => whnf); first | refine Q.E ?_ | (refine Stk.both (fun hb => ?_) (fun hb => ?_) <;> (try simp only [lE] at hb))); all_goals (conv => whnf)
      refine Stk.weakC (Weak.trans (Weak.ren 7 1007 rfl rfl rfl) (Weak.gc (env' := [(10, .agg e.cs), (7, .lp 1007 0), (6, .lp 6 0), (3, .lp 3 0), (1, PV.int b), (2, PV.int t)]) (lh' := [(1007, .box [PV.int 0]), (6, .box [PV.int 0, PV.int 0, PV.int 0, PV.int 0, PV.int 0, PV.int 0, PV.int 0, PV.int 0, .v (.string ⟨#[]⟩), .v (.slice none 0 0)]), (3, .box e.cs)]) ⟨rfl, rfl, rfl, rfl, rfl, rfl, trivial⟩ ⟨rfl, rfl, rfl, trivial⟩ rfl rfl rfl)) ?_
      repeat' ((conv => whnf); first | refine Q.a ?_ | refine Q.b ?_ | refine Q.c ?_ | refine Stk.is (by first | assumption | ((try simp only [lE]); first | done | assumption | omega)) ?_ | refine Stk.isnt (by first | assumption | ((try simp only [lE]); first | done | assumption | omega)) ?_ | (refine Stk.both (fun hb => ?_) (fun hb => ?_) <;> (try simp only [lE] at hb)) | refine Q.d ?_ | refine Q.e ?_ | refine Q.f ?_ | refine Q.g ?_ | refine Q.h ?_ | refine Q.i ?_ | refine Q.j ?_ | refine Q.k ?_ | refine Q.l ?_ | refine Q.m ?_ | refine Q.n ?_ | refine Q.o (h := ?_) | refine Q.p (h := ?_) | refine Q.q ?_ | refine Q.r ?_ | refine Q.s ?_ | refine Q.t ?_ | refine Q.u ?_ | refine Q.v ?_ | refine Q.w ?_ | refine Q.x ?_ | refine Q.y ?_ | refine Q.z ?_ | refine Stk.inl (h := fun tm => ?_) | refine Stk.inl0 (h := fun tm => ?_) | refine DefG.go (h := fun vs us => ?_) | intro (tm : Array Value) | refine Stk.op (ok_buildA rfl rfl rfl rfl) ?_ | refine Stk.scope ?_); all_goals (conv => whnf)
      all_goals (refine Q.r6 (h := ?_); repeat' (first | exact Q.r0 | refine Q.r1 ?_ ?_ | refine Q.r2 ?_ | exact Q.r7 | refine Q.r3 ?_ | refine Q.r4 ?_ | refine Q.r5 ?_))
  · have hs := sett_of (p := e.phase) (by omega) (by omega)
    have hx : promX e b t = 33 := by rw [hc, if_neg hp]
    rw [hx, promE_no (by rw [hx]; decide)]
    refine ⟨?_⟩; refine Spec.ofD 2 (h := fun F w0 => ?_)
    repeat' ((conv => whnf); first | refine Q.E ?_ | (refine Stk.both (fun hb => ?_) (fun hb => ?_) <;> (try simp only [lE] at hb))); all_goals (conv => whnf)
    refine Stk.weakC (Weak.trans (Weak.ren 7 1007 rfl rfl rfl) (Weak.gc (env' := [(10, .agg e.cs), (7, .lp 1007 0), (6, .lp 6 0), (3, .lp 3 0), (1, PV.int b), (2, PV.int t)]) (lh' := [(1007, .box [PV.int 0]), (6, .box [PV.int 0, PV.int 0, PV.int 0, PV.int 0, PV.int 0, PV.int 0, PV.int 0, PV.int 0, .v (.string ⟨#[]⟩), .v (.slice none 0 0)]), (3, .box e.cs)]) ⟨rfl, rfl, rfl, rfl, rfl, rfl, trivial⟩ ⟨rfl, rfl, rfl, trivial⟩ rfl rfl rfl)) ?_
    repeat' ((conv => whnf); first | refine Q.a ?_ | refine Q.b ?_ | refine Q.c ?_ | refine Stk.is (by first | assumption | ((try simp only [lE]); first | done | assumption | omega)) ?_ | refine Stk.isnt (by first | assumption | ((try simp only [lE]); first | done | assumption | omega)) ?_ | (refine Stk.both (fun hb => ?_) (fun hb => ?_) <;> (try simp only [lE] at hb)) | refine Q.d ?_ | refine Q.e ?_ | refine Q.f ?_ | refine Q.g ?_ | refine Q.h ?_ | refine Q.i ?_ | refine Q.j ?_ | refine Q.k ?_ | refine Q.l ?_ | refine Q.m ?_ | refine Q.n ?_ | refine Q.o (h := ?_) | refine Q.p (h := ?_) | refine Q.q ?_ | refine Q.r ?_ | refine Q.s ?_ | refine Q.t ?_ | refine Q.u ?_ | refine Q.v ?_ | refine Q.w ?_ | refine Q.x ?_ | refine Q.y ?_ | refine Q.z ?_ | refine Stk.inl (h := fun tm => ?_) | refine Stk.inl0 (h := fun tm => ?_) | refine DefG.go (h := fun vs us => ?_) | intro (tm : Array Value) | refine Stk.op (ok_buildA rfl rfl rfl rfl) ?_ | refine Stk.scope ?_); all_goals (conv => whnf)
    all_goals (refine Q.r6 (h := ?_); repeat' (first | exact Q.r0 | refine Q.r1 ?_ ?_ | refine Q.r2 ?_ | exact Q.r7 | refine Q.r3 ?_ | refine Q.r4 ?_ | refine Q.r5 ?_))
instance promise_spec (e : Ent) (b t : Int) : HasSpec Tryz.prog 113 [.agg e.cs, PV.int b, PV.int t] (.tup [.agg (promE e b t).cs, PV.int (promX e b t)]) := by
  cases hE : entB e with
  | false => exact promise_no e b t hE
  | true =>
    cases hb : timeB b with
    | false => exact promise_b e b t hE hb
    | true =>
      cases hn : needsB e with
      | false => exact promise_q e b t hE hb hn
      | true =>
        cases ht : timeB t with
        | false => exact promise_t e b t hE hb hn ht
        | true => exact promise_p e b t hE hb hn ht
end Go.Proofs.YtbjepdfnmbdplaaGreat
end
section
namespace Go.Proofs.YtbjepdfnmbdplaaGreat
open Go.RowKit
set_option linter.unusedSimpArgs false
set_option linter.unusedVariables false
set_option maxRecDepth 100000
set_option maxHeartbeats 1000000
def wonB (e : Ent) (b f : Int) : Bool := entB e && decide (1 ≤ b ∧ e.bal = b ∧ e.abal = b ∧ 1 ≤ f ∧ f ≤ 4 ∧ f < ((listS (whoN e 2 b : Nat) 9).length : Int))
def hearE (e : Ent) (b : Int) : Ent := if entB e = true ∧ timeB b = true then { e with seen := max e.seen b } else e
end Go.Proofs.YtbjepdfnmbdplaaGreat
end
section
namespace Go.Proofs.YtbjepdfnmbdplaaGreat
set_option linter.unusedSimpArgs false
set_option linter.unusedVariables false
set_option linter.unusedSectionVars false
open Go.RowKit Go.Lib
theorem run_copy_sz {P : Program} (w : World) (dT sT ty elem : TypeId) (size b o dLen dCap m : Nat) (a : Addr) (sLen sCap : Nat) (cs : List Value)
    (hu : P.underlying dT = some (.slice elem)) (hs : (P.info? elem).map (·.size) = some size) (hm : Nat.min sLen dLen = m) (hn : cs.length = m * size)
    (hsrc : ∀ j v, cs[j]? = some v → w.cell? (a.add j) = some v) (hc : ∀ j, j < cs.length → (w.cell? ⟨b, o + j, none⟩).isSome = true) (hf : ∀ j, j < cs.length → w.frozen? ⟨b, o + j, none⟩ = false) (h1 : ∀ v ∈ cs, v.oneCell' = true) :
    (Builtin.copy_ #[dT, sT] ty #[.slice (some ⟨b, o, none⟩) dLen dCap, .slice (some a) sLen sCap]).run P w = .ok (goInt m) (w.setCells b o cs) := by
  have hl := run_loadCells_list (P := P) w a cs hsrc
  have hst := run_storeCells_cells (P := P) b o cs 0 w (by simpa using hc) (by simpa using hf) h1
  rw [hn] at hl
  rw [Nat.add_zero] at hst
  cases hq : P.info? elem with
  | none => simp [hq] at hs
  | some i =>
    have hi : i.size = size := by simpa [hq] using hs
    simp [Builtin.copy_, run_underlying hu, Builtin.lenOf, Builtin.firstCells, sizeOf, typeInfo, hq, hi, hm, hl, hst]
set_option maxHeartbeats 4000000 in
set_option maxRecDepth 100000 in
theorem insert_shift (w : World) (g n c i vg vc : Nat) (cs vs : List Value) (hi : i < n) (hn : n ≤ 1000) (hroom : n + 1 ≤ c) (hc63 : c ≤ 9223372036854775807) (hvb : vg ≠ g)
    (hcl : cs.length = n * 10) (hvl : vs.length = 10)
    (hcs : ∀ j v, cs[j]? = some v → w.cell? ⟨g, j, none⟩ = some v) (hsp : ∀ j, j < (n + 1) * 10 → (w.cell? ⟨g, j, none⟩).isSome = true) (hfz : ∀ j, j < (n + 1) * 10 → w.frozen? ⟨g, j, none⟩ = false)
    (hvs : ∀ j v, vs[j]? = some v → w.cell? ⟨vg, j, none⟩ = some v) (h1c : ∀ v ∈ cs, v.oneCell' = true) (h1v : ∀ v ∈ vs, v.oneCell' = true)
    (tA tB : TypeId) (kA kB : Nat) (hsa : w.shape? vg = some (tA, kA)) (hsb : w.shape? g = some (tB, kB)) (hkB : kB ≠ 0) (hfa : w.frozen? ⟨vg, 0, none⟩ = false) (hfe : w.frozen? ⟨vg, kA, none⟩ = false) :
    Calls Tryz.prog 209 #[.slice (some ⟨g, 0, none⟩) n c, .int .i64 (i : Nat), .slice (some ⟨vg, 0, none⟩) 1 vc] w fun e w' =>
      e = .returned (.slice (some ⟨g, 0, none⟩) (n + 1) c) ∧ w' = (w.drew.setCells g ((i + 1) * 10) (cs.drop (i * 10))).setCells g (i * 10) vs := by
  have t22 := Tryz.underlying22
  have mixed : Tryz.prog.follows .mixedOrders = true := by kernel_rfl
  have hz2 : ¬ ((i : Int) = (n : Int)) := by omega
  have hsz : (Tryz.prog.info? 40).map (·.size) = some 10 := by kernel_rfl
  have hzz : ∀ w, (Go.sizeOf 40).run Tryz.prog w = .ok 10 w := fun w => by
    cases hq : Tryz.prog.info? 40 with
    | none => rw [hq] at hsz; cases hsz
    | some x =>
      rw [hq] at hsz
      have : x.size = 10 := by simpa using hsz
      simp [sizeOf, typeInfo, hq, this]
  have hov : ∀ lb cb, (callFunc 256 #[.slice (some ⟨vg, 0, none⟩) 1 vc, .slice (some ⟨g, (i + 1) * 10, none⟩) lb cb]).run Tryz.prog w = .ok (.value (.bool false)) w := fun lb cb => by
    rw [run_callFunc_extern Tryz.func256 (by kernel_rfl) (by kernel_rfl) (by kernel_rfl) (e := Extern.SlicesOverlaps.overlaps #[22, 22] #[4]) (by kernel_rfl),
      Lib.run_overlaps_apart w 22 4 40 t22 10 hzz ⟨vg, 0, none⟩ ⟨g, (i + 1) * 10, none⟩ 1 vc lb cb hvb tA tB kA kB hsa hsb hkB hfa hfe]
    rfl
  have hdl : (cs.drop (i * 10)).length = (n - i) * 10 := by rw [List.length_drop, hcl]; omega
  have hw1 : IntKind.i64.wrap ((i : Int) + 1) = (i : Int) + 1 := by rw [IntKind.wrap_i64]; omega
  have hwn : IntKind.i64.wrap ((n : Int) + 1) = (n : Int) + 1 := by rw [IntKind.wrap_i64]; omega
  have hcp1 : ∀ ty dc sc, (Builtin.copy_ #[22, 22] ty #[.slice (some ⟨g, (i + 1) * 10, none⟩) (n + 1 - (i + 1)) dc, .slice (some ⟨g, i * 10, none⟩) (n + 1 - i) sc]).run Tryz.prog w.drew = .ok (goInt (n - i : Nat)) (w.drew.setCells g ((i + 1) * 10) (cs.drop (i * 10))) := fun ty dc sc =>
    run_copy_sz w.drew _ _ ty 40 10 g ((i + 1) * 10) (n + 1 - (i + 1)) dc (n - i) ⟨g, i * 10, none⟩ (n + 1 - i) sc (cs.drop (i * 10)) t22 hsz (by simp only [Nat.min_def]; split <;> omega) hdl
      (fun j v hj => by rw [Addr.add_lit]; exact hcs (i * 10 + j) v (by rwa [List.getElem?_drop] at hj))
      (fun j hj => hsp _ (by omega)) (fun j hj => hfz _ (by omega)) (fun v hv => h1c v (List.mem_of_mem_drop hv))
  obtain ⟨W1, hW1⟩ : ∃ W1, W1 = w.drew.setCells g ((i + 1) * 10) (cs.drop (i * 10)) := ⟨_, rfl⟩
  have hsp1 : ∀ k, k < (n + 1) * 10 → (W1.cell? ⟨g, k, none⟩).isSome = true := fun k hk => by
    rw [hW1]
    exact isSome_setCells g (cs.drop (i * 10)) ((i + 1) * 10) w.drew (fun j hj => hsp ((i + 1) * 10 + j) (by rw [hdl] at hj; omega)) k (hsp k hk)
  have hcp2 : ∀ (W : World), (∀ x, W.cell? x = W1.cell? x) → (∀ x, W.frozen? x = W1.frozen? x) → ∀ ty dc, (Builtin.copy_ #[22, 22] ty #[.slice (some ⟨g, i * 10, none⟩) (n + 1 - i) dc, .slice (some ⟨vg, 0, none⟩) 1 vc]).run Tryz.prog W = .ok (goInt 1) (W.setCells g (i * 10) vs) := fun W hWc hWf ty dc =>
    run_copy_sz W _ _ ty 40 10 g (i * 10) (n + 1 - i) dc 1 ⟨vg, 0, none⟩ 1 vc vs t22 hsz (by simp only [Nat.min_def]; split <;> omega) (by omega)
      (fun j v hj => by
        rw [Addr.add_lit, hWc, hW1, World.cell?_setCells_out g _ _ _ _ (fun h _ => absurd h hvb)]
        rw [Nat.zero_add]
        exact hvs j v hj)
      (fun j hj => by rw [hWc]; exact hsp1 _ (by omega)) (fun j hj => by rw [hWf, hW1, World.frozen?_setCells]; exact hfz _ (by omega)) h1v
  rw [← hW1] at hcp1
  have hb1 : (0 : Int) ≤ (i : Int) + 1 := by omega
  have hb0 : (0 : Int) ≤ (i : Int) := by omega
  have hin : i ≤ n := by omega
  have hin' : (i : Int) ≤ (n : Int) := by omega
  have htn : ((i : Int) + 1).toNat = i + 1 := by omega
  have hb2 : ¬ (c = i + 1) := by omega
  have hb3 : (i : Int) ≤ (n : Int) + 1 := by omega
  have hb4 : ¬ (c = i) := by omega
  have hb5 : (i : Int) + 1 ≤ (n : Int) + 1 := by omega
  have hb6 : (n : Int) + 1 ≤ (c : Int) := by omega
  have hb7 : ((n : Int) + 1).toNat = n + 1 := by omega
  have hb8 : (0 : Int) ≤ (n : Int) + 1 := by omega
  have hb9 : ¬ ((c : Int) < (n : Int) + 1) := by omega
  go_enter Tryz.func209, Tryz.ntmps209
  go_wp2_with (simp only [hov])
  go_region_law_o (refine step_copy_runI rfl _ _ 22 22 rfl (.slice (some ⟨g, (i + 1) * 10, none⟩) (n + 1 - (i + 1)) (c - (i + 1))) (.slice (some ⟨g, i * 10, none⟩) (n + 1 - i) (c - i)) (by simp [Act.eval, Act.put]) (by simp [Act.eval, Act.put]) (hcp1 _ _ _) ?_)
  go_wp2_with (at_builtin; refine wpList_copy_runI _ rfl _ _ 22 22 rfl _ _ rfl rfl (hcp2 _ (fun _ => rfl) (fun _ => rfl) _ _) ?_)
  go_ret
  first | exact ⟨rfl, rfl⟩ | exact ⟨rfl, by rw [hW1]⟩
end Go.Proofs.YtbjepdfnmbdplaaGreat
end
section
namespace Go.Proofs.YtbjepdfnmbdplaaGreat
set_option linter.unusedSimpArgs false
set_option linter.unusedVariables false
set_option linter.unusedSectionVars false
open Go.RowKit Go.Lib
set_option maxHeartbeats 4000000 in
set_option maxRecDepth 100000 in
theorem insert_grow (w : World) (z : Value) (bytes : Nat) (hE : (Tryz.prog.info? 40).map (fun i => (i.zero, i.size, i.bytes)) = some (some z, 10, bytes)) (hzc : z.cells.size = 10) (hbb : bytes ≤ 1000)
    (g n c i vg vc : Nat) (cs vs : List Value) (hi : i < n) (hn : n ≤ 1000) (hnc : n ≤ c) (hroom : c < n + 1)
    (hcl : cs.length = n * 10) (hvl : vs.length = 10) (hgw : g < w.heap.size) (hvw : vg < w.heap.size)
    (hcs : ∀ j v, cs[j]? = some v → w.cell? ⟨g, j, none⟩ = some v)
    (hvs : ∀ j v, vs[j]? = some v → w.cell? ⟨vg, j, none⟩ = some v) (h1c : ∀ v ∈ cs, v.oneCell' = true) (h1v : ∀ v ∈ vs, v.oneCell' = true) :
    Calls Tryz.prog 209 #[.slice (some ⟨g, 0, none⟩) n c, .int .i64 (i : Nat), .slice (some ⟨vg, 0, none⟩) 1 vc] w fun e w' =>
      ∃ G, n + 1 ≤ G ∧ G ≤ maxLen ∧ e = .returned (.slice (some ⟨w.heap.size, 0, none⟩) (n + 1) G) ∧
      w' = (((w.alloc (.cells ((cs.take (i * 10)).toArray ++ Builtin.zeroCells z.cells (n + 1 - i) ++ Builtin.zeroCells z.cells (G - (n + 1))) 40)).drew.setCells w.heap.size (i * 10) vs).drew).setCells w.heap.size ((i + 1) * 10) (cs.drop (i * 10)) := by
  obtain ⟨i0, hi0, hz0, hzs, hzb⟩ := info_parts hE
  have t22 := Tryz.underlying22
  have t3 := Tryz.underlying3
  have mixed : Tryz.prog.follows .mixedOrders = true := by kernel_rfl
  have hz2 : ¬ ((i : Int) = (n : Int)) := by omega
  have hsz : (Tryz.prog.info? 40).map (·.size) = some 10 := by rw [hi0]; simp [hzs]
  have hkk : (n : Int) + 1 - (i : Int) = ((n + 1 - i : Nat) : Int) := by omega
  have hik : i + (n + 1 - i) = n + 1 := by omega
  have hold : (Builtin.firstCells i0.size i (.slice (some ⟨g, 0, none⟩) i c)).run Tryz.prog w.drew = .ok (cs.take (i * 10)).toArray w.drew := by
    rw [hzs]
    exact run_firstCells_some w.drew 10 i ⟨g, 0, none⟩ i c (cs.take (i * 10)) (by rw [List.length_take]; omega) (fun j v hj => by
      rw [Addr.add_lit, Nat.zero_add]
      rw [List.getElem?_take] at hj
      split at hj
      · exact hcs j v hj
      · cases hj)
  have hrz : ∀ ty, (Builtin.append_ #[22, 3] ty #[.slice (some ⟨g, 0, none⟩) i c, .int .i64 ((n : Int) + 1 - (i : Int))]).run Tryz.prog w =
      .ok (.slice (some ⟨w.heap.size, 0, none⟩) (n + 1) (grownCap w (n + 1) c 40)) (w.drew.alloc (.cells ((cs.take (i * 10)).toArray ++ Builtin.zeroCells z.cells (n + 1 - i) ++ Builtin.zeroCells z.cells (grownCap w (n + 1) c 40 - (n + 1))) 40)) := fun ty => by
    have h := Lib.run_append_grow_zeros w 22 3 ty 40 i0 _ .i64 .i64 t22 t3 hi0 hz0 (some ⟨g, 0, none⟩) i c (cs.take (i * 10)) hold (n + 1 - i) (by omega) (by omega) (by omega) (by omega) (by
      rw [hzb]
      have : (n + 1 - i) * bytes ≤ 1001 * 1000 := Nat.mul_le_mul (by omega) hbb
      omega) (by
      rw [hzb, hik]
      exact growslice_fits hroom (by
        have : (n + 1) * bytes ≤ 1001 * 1000 := Nat.mul_le_mul (by omega) hbb
        omega))
    rw [hik] at h
    rw [hkk]
    exact h
  obtain ⟨G, hG⟩ : ∃ G, G = grownCap w (n + 1) c 40 := ⟨_, rfl⟩
  obtain ⟨ROW, hROW⟩ : ∃ ROW : Array Value, ROW = (cs.take (i * 10)).toArray ++ Builtin.zeroCells z.cells (n + 1 - i) ++ Builtin.zeroCells z.cells (G - (n + 1)) := ⟨_, rfl⟩
  have hGn : n + 1 ≤ G := by rw [hG]; exact grownCap_ge w _ _ _
  have hGm : G ≤ maxLen := by rw [hG]; exact grownCap_le_maxLen w (n + 1) c 40 (by unfold maxLen; omega)
  have hG63 : G ≤ 9223372036854775807 := hGm
  refine Calls.mono (R := fun e w' => e = .returned (.slice (some ⟨w.heap.size, 0, none⟩) (n + 1) G) ∧ w' = (((w.alloc (.cells ROW 40)).drew.setCells w.heap.size (i * 10) vs).drew).setCells w.heap.size ((i + 1) * 10) (cs.drop (i * 10))) ?_ (fun e w' h => ⟨G, hGn, hGm, h.1, by rw [← hROW]; exact h.2⟩)
  rw [← hG] at hrz
  rw [← hROW] at hrz
  have hRs : ROW.size = G * 10 := by
    rw [hROW, Array.size_append, Array.size_append, size_zeroCells, size_zeroCells, hzc, List.size_toArray, List.length_take]
    omega
  obtain ⟨W1, hW1⟩ : ∃ W1, W1 = w.drew.alloc (.cells ROW 40) := ⟨_, rfl⟩
  rw [← hW1] at hrz
  have hN : ∀ j, j < (n + 1) * 10 → (W1.cell? ⟨w.heap.size, j, none⟩).isSome = true := fun j hj => by
    rw [hW1, World.cell?_alloc_at (w := w.drew) ROW _ w.heap.size j rfl, Array.getElem?_eq_getElem (by omega)]; rfl
  have hNf : ∀ j, W1.frozen? ⟨w.heap.size, j, none⟩ = false := fun j => by rw [hW1]; exact World.frozen?_alloc_at (w := w.drew) ROW _ w.heap.size j rfl
  have hOb : ∀ j v, w.cell? ⟨g, j, none⟩ = some v → W1.cell? ⟨g, j, none⟩ = some v := fun j v h => by rw [hW1, World.cell?_alloc_past (w := w.drew) _ g j hgw]; exact h
  have hOv : ∀ j v, w.cell? ⟨vg, j, none⟩ = some v → W1.cell? ⟨vg, j, none⟩ = some v := fun j v h => by rw [hW1, World.cell?_alloc_past (w := w.drew) _ vg j hvw]; exact h
  have hcpA : ∀ (W : World), (∀ x, W.cell? x = W1.cell? x) → (∀ x, W.frozen? x = W1.frozen? x) → ∀ ty dc, (Builtin.copy_ #[22, 22] ty #[.slice (some ⟨w.heap.size, i * 10, none⟩) (n + 1 - i) dc, .slice (some ⟨vg, 0, none⟩) 1 vc]).run Tryz.prog W = .ok (goInt 1) (W.setCells w.heap.size (i * 10) vs) := fun W hWc hWf ty dc =>
    run_copy_sz W _ _ ty 40 10 w.heap.size (i * 10) (n + 1 - i) dc 1 ⟨vg, 0, none⟩ 1 vc vs t22 hsz (by simp only [Nat.min_def]; split <;> omega) (by omega)
      (fun j v hj => by rw [Addr.add_lit, Nat.zero_add, hWc]; exact hOv _ v (hvs j v hj))
      (fun j hj => by rw [hWc]; exact hN _ (by omega)) (fun j hj => by rw [hWf]; exact hNf _) h1v
  have hGi : ¬ (G = i) := by omega
  have hGim : ¬ (G = i + 1) := by omega
  have hci : ¬ (c = i) := by omega
  have hbN : g ≠ w.heap.size := by omega
  have hdl : (cs.drop (i * 10)).length = (n - i) * 10 := by rw [List.length_drop, hcl]; omega
  have hcpB : ∀ (W : World), (∀ x, W.cell? x = (W1.setCells w.heap.size (i * 10) vs).cell? x) → (∀ x, W.frozen? x = (W1.setCells w.heap.size (i * 10) vs).frozen? x) → ∀ ty dc sc, (Builtin.copy_ #[22, 22] ty #[.slice (some ⟨w.heap.size, (i + 1) * 10, none⟩) (n + 1 - (i + 1)) dc, .slice (some ⟨g, i * 10, none⟩) (n - i) sc]).run Tryz.prog W = .ok (goInt (n - i : Nat)) (W.setCells w.heap.size ((i + 1) * 10) (cs.drop (i * 10))) := fun W hWc hWf ty dc sc =>
    run_copy_sz W _ _ ty 40 10 w.heap.size ((i + 1) * 10) (n + 1 - (i + 1)) dc (n - i) ⟨g, i * 10, none⟩ (n - i) sc (cs.drop (i * 10)) t22 hsz (by simp only [Nat.min_def]; split <;> omega) hdl
      (fun j v hj => by
        rw [Addr.add_lit, hWc, World.cell?_setCells_out _ _ _ _ _ (fun h _ => absurd h hbN)]
        exact hOb _ v (hcs (i * 10 + j) v (by rwa [List.getElem?_drop] at hj)))
      (fun j hj => by rw [hWc]; exact isSome_setCells w.heap.size vs (i * 10) W1 (fun t ht => hN _ (by omega)) _ (hN _ (by rw [hdl] at hj; omega)))
      (fun j hj => by rw [hWf, World.frozen?_setCells]; exact hNf _) (fun v hv => h1c v (List.mem_of_mem_drop hv))
  subst hW1
  have hE1 : ∀ x, ((w.alloc (.cells ROW 40)).drew).cell? x = (w.drew.alloc (.cells ROW 40)).cell? x := fun x => rfl
  have hE2 : ∀ x, ((w.alloc (.cells ROW 40)).drew).frozen? x = (w.drew.alloc (.cells ROW 40)).frozen? x := fun x => rfl
  have hF1 : ∀ x, (((w.alloc (.cells ROW 40)).drew.setCells w.heap.size (i * 10) vs).drew).cell? x = ((w.drew.alloc (.cells ROW 40)).setCells w.heap.size (i * 10) vs).cell? x := fun x => rfl
  have hF2 : ∀ x, (((w.alloc (.cells ROW 40)).drew.setCells w.heap.size (i * 10) vs).drew).frozen? x = ((w.drew.alloc (.cells ROW 40)).setCells w.heap.size (i * 10) vs).frozen? x := fun x => rfl
  have hw1 : IntKind.i64.wrap ((i : Int) + 1) = (i : Int) + 1 := by rw [IntKind.wrap_i64]; omega
  have hwn : IntKind.i64.wrap ((n : Int) + 1) = (n : Int) + 1 := by rw [IntKind.wrap_i64]; omega
  have hwd : IntKind.i64.wrap ((n : Int) + 1 - (i : Int)) = (n : Int) + 1 - (i : Int) := by rw [IntKind.wrap_i64]; omega
  have hb0 : (0 : Int) ≤ (i : Int) := by omega
  have hb1 : (0 : Int) ≤ (i : Int) + 1 := by omega
  have hin : i ≤ n := by omega
  have hin' : (i : Int) ≤ (n : Int) := by omega
  have htn : ((i : Int) + 1).toNat = i + 1 := by omega
  have hz3 : (c : Int) < (n : Int) + 1 := by omega
  have hb2 : (i : Int) ≤ (c : Int) := by omega
  have hb3 : (i : Int) ≤ (n : Int) + 1 := by omega
  have hb5 : (i : Int) + 1 ≤ (n : Int) + 1 := by omega
  clear hkk hik hold hROW hG hRs
  go_enter Tryz.func209, Tryz.ntmps209
  go_wp2_with (first
    | (at_builtin; refine Lib.wpList_append_run _ rfl _ _ _ _ rfl _ _ rfl rfl _ _ (hrz _) ?_)
    | (at_builtin; refine wpList_copy_runI _ rfl _ _ 22 22 rfl _ _ rfl rfl (hcpA _ hE1 hE2 _ _) ?_)
    | (at_builtin; refine wpList_copy_runI _ rfl _ _ 22 22 rfl _ _ rfl rfl (hcpB _ (fun _ => rfl) (fun _ => rfl) _ _ _) ?_))
  go_region_law_o (refine step_copy_runI rfl _ _ 22 22 rfl (.slice (some ⟨w.heap.size, (i + 1) * 10, none⟩) (n + 1 - (i + 1)) (G - (i + 1))) (.slice (some ⟨g, i * 10, none⟩) (n - i) (c - i)) (by simp [Act.eval, Act.put]) (by simp [Act.eval, Act.put]) (hcpB _ hF1 hF2 3 (G - (i + 1)) (c - i)) ?_)
  go_wp2
  go_ret
  exact ⟨rfl, rfl⟩
end Go.Proofs.YtbjepdfnmbdplaaGreat
end
section
namespace Go.Proofs.YtbjepdfnmbdplaaGreat
set_option linter.unusedSimpArgs false
set_option linter.unusedVariables false
set_option linter.unusedSectionVars false
open Go.RowKit Go.Lib
theorem putL_split {α : Type} : ∀ (us l : List α) (k : Nat), k + us.length ≤ l.length → putL l k us = l.take k ++ us ++ l.drop (k + us.length)
  | [], l, k, h => by simp [putL]
  | u :: us, l, k, h => by
    rw [List.length_cons] at h
    rw [putL, putL_split us (l.set k u) (k + 1) (by rw [List.length_set]; omega), take_set_at l k u (by omega), drop_set_lt l k (k + 1 + us.length) u (by omega), List.length_cons, show k + 1 + us.length = k + (us.length + 1) by omega]
    simp only [List.append_assoc, List.singleton_append]
theorem put_shift {α : Type} (A X V D : List α) (a d : Nat) (hX : A.take a = X) (hXl : X.length = a) (hV : V.length = 10) (hD : D.length = d) (hA : a + 10 + d ≤ A.length) :
    (putL (putL A (a + 10) D) a V).take (a + 10 + d) = X ++ V ++ D ∧ (putL (putL A a V) (a + 10) D).take (a + 10 + d) = X ++ V ++ D := by
  have l1 : (putL A (a + 10) D).length = A.length := putL_length ..
  have l2 : (putL A a V).length = A.length := putL_length ..
  constructor
  · rw [putL_split V _ a (by omega), putL_split D A (a + 10) (by omega), hV, hD]
    have e1 : (A.take (a + 10) ++ D ++ A.drop (a + 10 + d)).take a = X := by
      rw [List.append_assoc, List.take_append_of_le_length (by rw [List.length_take]; omega), List.take_take, Nat.min_eq_left (by omega), hX]
    have e2 : (A.take (a + 10) ++ D ++ A.drop (a + 10 + d)).drop (a + 10) = D ++ A.drop (a + 10 + d) := by
      rw [List.append_assoc]
      exact List.drop_left' (by rw [List.length_take]; omega)
    rw [e1, e2, ← List.append_assoc]
    exact List.take_left' (by simp only [List.length_append]; omega)
  · rw [putL_split D _ (a + 10) (by omega), putL_split V A a (by omega), hV, hD, hX]
    have e1 : (X ++ V ++ A.drop (a + 10)).take (a + 10) = X ++ V := List.take_left' (by simp only [List.length_append]; omega)
    rw [e1]
    exact List.take_left' (by simp only [List.length_append]; omega)
theorem grown_drew {w w' : World} {r : Option Nat} (h : w.grownBy w' r) : w.grownBy w'.drew r := ⟨h.os, h.tape, h.output, h.size, h.block⟩
theorem grown_setCells {w w' : World} {r : Option Nat} {g : Nat} (h : w.grownBy w' r) (hg : r = some g ∨ w.heap.size ≤ g) : ∀ (us : List Value) (k : Nat), w.grownBy (w'.setCells g k us) r := fun us k => by
  induction us generalizing k w' with
  | nil => exact h
  | cons u us ih =>
    show w.grownBy ((w'.setCells g k [u]).setCells g (k + 1) us) r
    refine ih (w' := w'.setCells g k [u]) ⟨h.os, h.tape, h.output, ?_, fun j hj hne => ?_⟩ (k + 1)
    · rw [heap_setCells_size g [u] k w']
      exact h.size
    · rw [heap_setCells_other g [u] k w' j (fun e => by
        subst e
        rcases hg with hg | hg
        · exact hne hg.symm
        · omega)]
      exact h.block j hj hne
set_option maxHeartbeats 4000000 in
set_option maxRecDepth 100000 in
theorem insert_end (w : World) (z : Value) (bytes : Nat) (hE : (Tryz.prog.info? 40).map (fun i => (i.zero, i.size, i.bytes)) = some (some z, 10, bytes)) (hzc : z.cells.size = 10) (hbb : bytes ≤ 1000)
    (base : Nat) (y : Value) (n vg vc : Nat) (xs vs : List Value) (hn : n ≤ 1000) (hvl : vs.length = 10) (hown : w.ownsRow base 40 10 y n xs)
    (hvs : ∀ j v, vs[j]? = some v → w.cell? ⟨vg, j, none⟩ = some v) (h1v : ∀ v ∈ vs, v.oneCell' = true) (hbase : base ≤ w.heap.size) :
    Calls Tryz.prog 209 #[y, .int .i64 (n : Nat), .slice (some ⟨vg, 0, none⟩) 1 vc] w fun e w' =>
      ∃ y', e = .returned y' ∧ w'.ownsRow base 40 10 y' (n + 1) (xs ++ vs) ∧ w.grownBy w' y.ownBlock ∧ (y'.ownBlock = y.ownBlock ∨ y'.ownBlock = some w.heap.size) := by
  obtain ⟨i0, hi0, hz0, hzs, hzb⟩ := info_parts hE
  have t22 := Tryz.underlying22
  have mixed : Tryz.prog.follows .mixedOrders = true := by kernel_rfl
  have hrow : Row w (some ⟨vg, 0, none⟩) vs := fun j u hj => ⟨_, rfl, by rw [add_lit, Nat.zero_add]; exact hvs j u hj⟩
  have h63 : n + 1 ≤ maxLen := by unfold maxLen; omega
  have hby : (n + 1) * bytes ≤ 140737488355328 := by
    have : (n + 1) * bytes ≤ 1001 * 1000 := Nat.mul_le_mul (by omega) hbb
    omega
  have hb0 : (0 : Int) ≤ (n : Int) := by omega
  rcases hown.2 with ⟨rfl, rfl⟩ | ⟨g, cap, cur, rfl, hbg, hg, hnc, hcm, hcs, htk⟩
  · go_enter Tryz.func209, Tryz.ntmps209
    go_wp2_with (at_builtin; refine wpList_append_row _ rfl _ _ 22 rfl base 40 i0 z 10 bytes t22 hi0 hz0 hzs hzb hzc (by decide) _ 0 xs rfl hown (some ⟨vg, 0, none⟩) 1 vc vs rfl (by omega) hrow h1v h63 hby hbase ?_; intro v' w' hown' hgrow hat)
    go_ret
    exact ⟨v', rfl, hown', hgrow, hat⟩
  · have hcn : (n : Int) ≤ (cap : Int) := by omega
    go_enter Tryz.func209, Tryz.ntmps209
    go_wp2_with (at_builtin; refine wpList_append_row _ rfl _ _ 22 rfl base 40 i0 z 10 bytes t22 hi0 hz0 hzs hzb hzc (by decide) _ n xs rfl hown (some ⟨vg, 0, none⟩) 1 vc vs rfl (by omega) hrow h1v h63 hby hbase ?_; intro v' w' hown' hgrow hat)
    all_goals go_ret
    all_goals exact ⟨v', rfl, hown', hgrow, hat⟩
end Go.Proofs.YtbjepdfnmbdplaaGreat
end
section
namespace Go.Proofs.YtbjepdfnmbdplaaGreat
set_option linter.unusedSimpArgs false
set_option linter.unusedVariables false
set_option linter.unusedSectionVars false
open Go.RowKit Go.Lib
theorem own_setC {w : World} {g : Nat} {cur : Array Value} {t : TypeId} (h : w.heap[g]? = some (.cells cur t (0, 0))) (a b : Nat) (D V : List Value) : ∃ cur', ((w.setCells g a D).setCells g b V).heap[g]? = some (.cells cur' t (0, 0)) ∧ cur'.toList = putL (putL cur.toList a D) b V := by
  obtain ⟨c1, h1, e1⟩ := heap_setCells_same g D a w cur t h
  obtain ⟨c2, h2, e2⟩ := heap_setCells_same g V b _ c1 t h1
  exact ⟨c2, h2, by rw [e2, e1]⟩
theorem own_setD {w : World} {g : Nat} {cur : Array Value} {t : TypeId} (h : w.heap[g]? = some (.cells cur t (0, 0))) (a b : Nat) (D V : List Value) : ∃ cur', ((w.setCells g a D).drew.setCells g b V).heap[g]? = some (.cells cur' t (0, 0)) ∧ cur'.toList = putL (putL cur.toList a D) b V := by
  obtain ⟨c1, h1, e1⟩ := heap_setCells_same g D a w cur t h
  obtain ⟨c2, h2, e2⟩ := heap_setCells_same g V b (w.setCells g a D).drew c1 t h1
  exact ⟨c2, h2, by rw [e2, e1]⟩
set_option maxRecDepth 100000 in
theorem insert_own (w : World) (z : Value) (bytes : Nat) (hE : (Tryz.prog.info? 40).map (fun i => (i.zero, i.size, i.bytes)) = some (some z, 10, bytes)) (hzc : z.cells.size = 10) (hbb : bytes ≤ 1000)
    (base : Nat) (y : Value) (n i vg vc : Nat) (xs vs : List Value) (hi : i ≤ n) (hn : n ≤ 1000) (hown : w.ownsRow base 40 10 y n xs) (hv : w.ownsRow base 40 10 (.slice (some ⟨vg, 0, none⟩) 1 vc) 1 vs) (hne : y.ownBlock ≠ some vg)
    (h1c : ∀ u ∈ xs, u.oneCell' = true) (h1v : ∀ u ∈ vs, u.oneCell' = true) (hbase : base ≤ w.heap.size) :
    Calls Tryz.prog 209 #[y, .int .i64 (i : Nat), .slice (some ⟨vg, 0, none⟩) 1 vc] w fun e w' =>
      ∃ y', e = .returned y' ∧ w'.ownsRow base 40 10 y' (n + 1) (xs.take (i * 10) ++ vs ++ xs.drop (i * 10)) ∧ w.grownBy w' y.ownBlock ∧ (y'.ownBlock = y.ownBlock ∨ y'.ownBlock = some w.heap.size) := by
  have hvs := hv.cells (g := vg) rfl
  have hvs' : ∀ j v, vs[j]? = some v → w.cell? ⟨vg, j, none⟩ = some v := fun j v hj => by
    have h := hvs j v hj
    rwa [add_lit, Nat.zero_add] at h
  have hvl : vs.length = 10 := by rw [hv.1]
  have hxl := hown.1
  by_cases hin : i = n
  · subst hin
    rw [List.take_of_length_le (by omega), List.drop_eq_nil_of_le (by omega), List.append_nil]
    exact insert_end w z bytes hE hzc hbb base y i vg vc xs vs hn hvl hown hvs' h1v hbase
  · have hlt : i < n := by omega
    rcases hown.2 with ⟨_, h0⟩ | ⟨g, cap, cur, rfl, hbg, hg, hnc, hcm, hcsz, htk⟩
    · omega
    have hcs' : ∀ j v, xs[j]? = some v → w.cell? ⟨g, j, none⟩ = some v := fun j v hj => by
      have h := hown.cells (g := g) rfl j v hj
      rwa [add_lit, Nat.zero_add] at h
    have hgl : g < w.heap.size := (Array.getElem?_eq_some_iff.1 hg).1
    have hdl : (xs.drop (i * 10)).length = (n - i) * 10 := by rw [List.length_drop, hxl]; omega
    have htl : (xs.take (i * 10)).length = i * 10 := by rw [List.length_take, hxl]; omega
    have hca : cur.toList.take (i * 10) = xs.take (i * 10) := by rw [← htk, List.take_take, Nat.min_eq_left (by omega)]
    obtain ⟨_, hvx⟩ := hv
    rcases hvx with ⟨hvn, _⟩ | ⟨g2, cap2, cv, hve, hbv, hgv, hncv, hcmv, hcvz, htv⟩
    · cases hvn
    injection hve with hve1 hve2 hve3
    injection hve1 with hve1
    injection hve1 with hve1
    subst hve1
    have hvg : vg ≠ g := fun e => hne (by rw [e]; rfl)
    have hvl2 : vg < w.heap.size := (Array.getElem?_eq_some_iff.1 hgv).1
    by_cases hroom : n + 1 ≤ cap
    · refine (insert_shift w g n cap i vg vc xs vs hlt hn hroom hcm hvg hxl hvl hcs' (fun j hj => ?_) (fun j hj => ?_) hvs' h1c h1v 40 40 cv.size cur.size (by simp [World.shape?, hgv]) (by simp [World.shape?, hg]) (by omega) (by simp [World.frozen?, hgv]) (by simp [World.frozen?, hgv])).mono ?_
      · have : j < cur.size := by omega
        simp [World.cell?, hg, this]
      · simp [World.frozen?, hg]
      · rintro e w' ⟨rfl, rfl⟩
        obtain ⟨cur', hc1, hc2⟩ := own_setC (w := w.drew) hg ((i + 1) * 10) (i * 10) (xs.drop (i * 10)) vs
        have hps := (put_shift cur.toList (xs.take (i * 10)) vs (xs.drop (i * 10)) (i * 10) ((n - i) * 10) hca htl hvl hdl (by rw [Array.length_toList]; omega)).1
        have hsz' : cur'.size = cur.size := by rw [← Array.length_toList, hc2, putL_length, putL_length, Array.length_toList]
        refine ⟨_, rfl, ⟨by simp only [List.length_append]; omega, .inr ⟨g, cap, cur', rfl, hbg, hc1, hroom, hcm, by rw [hsz', hcsz], ?_⟩⟩, ?_, .inl rfl⟩
        · rw [hc2, show (i + 1) * 10 = i * 10 + 10 by omega, show (n + 1) * 10 = i * 10 + 10 + (n - i) * 10 by omega]
          exact hps
        · exact grown_setCells (grown_setCells (grown_drew ⟨rfl, rfl, rfl, Nat.le_refl _, fun _ _ _ => rfl⟩) (.inl rfl) _ _) (.inl rfl) _ _
    · refine (insert_grow w z bytes hE hzc hbb g n cap i vg vc xs vs hlt hn hnc (by omega) hxl hvl hgl hvl2 hcs' hvs' h1c h1v).mono ?_
      rintro e w' ⟨G, hG1, hG2, rfl, rfl⟩
      generalize hROW : (xs.take (i * 10)).toArray ++ Builtin.zeroCells z.cells (n + 1 - i) ++ Builtin.zeroCells z.cells (G - (n + 1)) = ROW
      have hRs : ROW.size = G * 10 := by
        rw [← hROW, Array.size_append, Array.size_append, size_zeroCells, size_zeroCells, hzc, List.size_toArray, htl]
        omega
      have hRt : ROW.toList.take (i * 10) = xs.take (i * 10) := by
        rw [← hROW, Array.toList_append, Array.toList_append, List.append_assoc]
        exact List.take_left' htl
      have ha : (w.alloc (.cells ROW 40)).drew.heap[w.heap.size]? = some (.cells ROW 40 (0, 0)) := heap_alloc_new w _
      obtain ⟨cur', hc1, hc2⟩ := own_setD (w := (w.alloc (.cells ROW 40)).drew) ha (i * 10) ((i + 1) * 10) vs (xs.drop (i * 10))
      have hps := (put_shift ROW.toList (xs.take (i * 10)) vs (xs.drop (i * 10)) (i * 10) ((n - i) * 10) hRt htl hvl hdl (by rw [Array.length_toList]; omega)).2
      have hsz' : cur'.size = ROW.size := by rw [← Array.length_toList, hc2, putL_length, putL_length, Array.length_toList]
      refine ⟨_, rfl, ⟨by simp only [List.length_append]; omega, .inr ⟨w.heap.size, G, cur', rfl, hbase, hc1, hG1, hG2, by rw [hsz', hRs], ?_⟩⟩, ?_, .inr rfl⟩
      · rw [hc2, show (i + 1) * 10 = i * 10 + 10 by omega, show (n + 1) * 10 = i * 10 + 10 + (n - i) * 10 by omega]
        exact hps
      · exact grown_setCells (grown_drew (grown_setCells (grown_drew (World.grownBy_alloc w _ _)) (.inr (Nat.le_refl _)) _ _)) (.inr (Nat.le_refl _)) _ _
section
variable {P : Program} {g : FuncId} {te : TypeId}
def Inserts (P : Program) (g : FuncId) (te : TypeId) : Prop := ∀ (w : World) (base : Nat) (y : Value) (n i vg vc : Nat) (xs vs : List Value), i ≤ n → n ≤ 1000 → w.ownsRow base te 10 y n xs → w.ownsRow base te 10 (.slice (some ⟨vg, 0, none⟩) 1 vc) 1 vs → y.ownBlock ≠ some vg → (∀ u ∈ xs, u.oneCell' = true) → (∀ u ∈ vs, u.oneCell' = true) → base ≤ w.heap.size →
    Calls P g #[y, .int .i64 (i : Nat), .slice (some ⟨vg, 0, none⟩) 1 vc] w fun e w' => ∃ y', e = .returned y' ∧ w'.ownsRow base te 10 y' (n + 1) (xs.take (i * 10) ++ vs ++ xs.drop (i * 10)) ∧ w.grownBy w' y.ownBlock ∧ (y'.ownBlock = y.ownBlock ∨ y'.ownBlock = some w.heap.size)
theorem eff_insG (hC : Inserts P g te) (hent : Enters P g) {σ : St} {ty : TypeId} {pos : String} {after : Array Edge} {guard : Option (Nat × Bool)} {d id ver id2 ver2 i : Nat} {ats : Array TypeId} {s x v : Operand} {xs : List (List PV)} {e : List PV} (hs : σ.ev s = some (.row id ver)) (hb : σ.blk id = some (.row te 10 ver xs)) (hx : σ.ev x = some (.v (.int .i64 (i : Nat)))) (hv : σ.ev v = some (.row id2 ver2)) (hb2 : σ.blk id2 = some (.row te 10 ver2 [e])) (hid : id ≠ id2) (hi : i ≤ xs.length) (hn : xs.length ≤ 1000) (hd : inB σ (some d) = true) :
    OpEff P ⟨some d, .call { callee := .value (.func g), args := #[s, x, v], argTypes := ats }, ty, pos, after, guard⟩ σ ((σ.setB id (.row te 10 (ver + 1) (xs.take i ++ [e] ++ xs.drop i))).put (some d) (.row id (ver + 1))) := by
  refine ⟨fun X w0 ac w μ K Q sm hK => ?_⟩
  have h1 := eval_tmp sm hs
  have h2 := eval_tmp sm hv
  have h3 := eval_v sm hx
  obtain ⟨vs, hm, hown, r, hl, h1c⟩ := (row_parts sm hb (p := .row id ver) (y := ac.eval s)).1 rfl h1
  obtain ⟨us, hm2, hown2, r2, hl2, h1v⟩ := (row_parts sm hb2 (p := .row id2 ver2) (y := ac.eval v)).1 rfl h2
  obtain ⟨vg, vc, e2⟩ : ∃ g c, ac.eval v = .slice (some ⟨g, 0, none⟩) 1 c := by
    rcases hown2.2 with ⟨_, h0⟩ | ⟨g, cap, cur, hv, _⟩
    · simp at h0
    · exact ⟨g, cap, hv⟩
  have hne : (ac.eval s).ownBlock ≠ some vg := fun h => hid (sm.apart id id2 _ _ vg hm hm2 h (by rw [e2]; rfl))
  rw [e2] at hown2
  have hc := hC w w0.heap.size (ac.eval s) xs.length i vg vc vs us hi hn hown hown2 hne h1c h1v sm.keep.size
  have hrun : (execOp ac.eval ⟨some d, .call { callee := .value (.func g), args := #[s, x, v], argTypes := ats }, ty, pos, after, guard⟩).run P w = .ok (.enter g #[ac.eval s, .int .i64 (i : Nat), .slice (some ⟨vg, 0, none⟩) 1 vc]) w := by
    have h := hent #[ac.eval s, ac.eval x, ac.eval v] w
    have hf : ac.eval (.func g) = .func (.func g) #[] #[] := rfl
    simp only [execOp, resolve, Sem.run_bind, hf, Deferred.ofValue, Sem.run_pure, Result.andThen_ok, invoke]
    rw [h3, e2] at h
    simp only [List.map_toArray, List.map_cons, List.map_nil, h3, e2]
    simpa using h
  unfold Oper.wp
  rw [hrun]
  refine hc.mono ?_
  rintro e' w' ⟨y', rfl, hown', hgrow, hat⟩
  have hlen : (xs.take i ++ [e] ++ xs.drop i).length = xs.length + 1 := by
    simp only [List.length_append, List.length_take, List.length_drop, List.length_singleton]
    omega
  have hfl : (xs.take i ++ [e] ++ xs.drop i).flatten = xs.flatten.take (i * 10) ++ e ++ xs.flatten.drop (i * 10) := by
    rw [List.flatten_append, List.flatten_append, take_flatten i hl hi, drop_flatten i hl hi, List.flatten_cons, List.flatten_nil, List.append_nil]
  rw [← hlen] at hown'
  rw [List.flatten_cons, List.flatten_nil, List.append_nil] at r2
  obtain ⟨hlat, sm'⟩ := sm.regrow hm hb hgrow hat hown' (fun hlat => by
    rw [hfl]
    exact ((RepL.later hlat _ _ (r.take _)).append (RepL.later hlat _ _ r2)).append (RepL.later hlat _ _ (r.drop _))) (fun q hq => by
      rcases List.mem_append.1 hq with h | h
      · rcases List.mem_append.1 h with h | h
        · exact hl q (List.mem_of_mem_take h)
        · exact hl2 q h
      · exact hl q (List.mem_of_mem_drop h)) (fun u hu => by
      rcases List.mem_append.1 hu with h | h
      · rcases List.mem_append.1 h with h | h
        · exact h1c u (List.mem_of_mem_take h)
        · exact h1v u h
      · exact h1c u (List.mem_of_mem_drop h))
  refine hK _ _ _ (sm'.put (d := some d) hd ?_)
  simp only [Rep]
  refine ⟨y', ver + 1, LMap.set_eq _ _ _, Nat.le_refl _, ?_, fun _ => rfl⟩
  rcases hown'.2 with ⟨hv, _⟩ | ⟨_, _, _, hv, _⟩ <;> rw [hv] <;> rfl
end
theorem insEnt : Inserts Tryz.prog 209 40 := fun w base y n i vg vc xs vs hi hn hown hv hne h1c h1v hbase =>
  insert_own w _ _ (inferInstance : ElemT Tryz.prog 40 _ 10 _).h (by decide) (by decide) base y n i vg vc xs vs hi hn hown hv hne h1c h1v hbase
end Go.Proofs.YtbjepdfnmbdplaaGreat
end
section
namespace Go.Proofs.YtbjepdfnmbdplaaGreat
open Go.RowKit
set_option linter.unusedSimpArgs false
set_option linter.unusedVariables false
set_option maxRecDepth 100000
set_option maxHeartbeats 1000000
theorem entsB_bad {l : List Ent} {i : Nat} (hi : i < l.length) (h : entB l[i] = false) : entsB l = false := entsB_no fun hh => by
  have := (hh.2 i hi hi).1
  rw [h] at this
  cases this
theorem entsB_bad2 {l : List Ent} {i : Nat} (hi : i < l.length) (h0 : 0 < i) (h : ¬ (l[i - 1]'(by omega)).id < l[i].id) : entsB l = false := entsB_no fun hh => h ((hh.2 i hi hi).2 h0)
instance tablecheck_spec (l : List Ent) : HasSpec Tryz.prog 168 [PV.ents l] (PV.int (errI (entsB l) 2)) := by
  by_cases hn : l.length ≤ 40
  · refine ⟨Spec.bound 0 rfl fun hl => ?_⟩; rw [List.length_map] at hl; refine Spec.ofR (h := fun F w0 => ?_)
    repeat' ((conv => whnf); first | refine Q.E ?_ | (refine Stk.both (fun hb => ?_) (fun hb => ?_) <;> (try simp only [lE] at hb))); all_goals (conv => whnf)
    refine Stk.loop (ι := Nat) (fun i => [(0, PV.ents l), (8, PV.ents l), (9, PV.int (l.length : Nat)), (10, PV.int (i : Nat))]) (fun _ => []) (fun i => i ≤ l.length ∧ risE l i) (fun i => l.length - i) 0 ⟨Nat.zero_le _, risE_zero l⟩ (Weak.gc ⟨rfl, rfl, rfl, rfl, trivial⟩ trivial rfl rfl rfl) (fun i hi => ?_)
    obtain ⟨hi, hr⟩ := hi
    by_cases hlt : i < l.length
    · cases he : entB l[i] with
      | false =>
        rw [entsB_bad hlt he]
        have je := chk_no he
        repeat' ((conv => whnf); first | refine Q.E ?_ | (refine Stk.both (fun hb => ?_) (fun hb => ?_) <;> (try simp only [lE] at hb))); all_goals (conv => whnf)
        (refine Q.r6 (h := ?_); repeat' (first | exact Q.r0 | refine Q.r1 ?_ ?_ | refine Q.r2 ?_ | exact Q.r7 | refine Q.r3 ?_ | refine Q.r4 ?_ | refine Q.r5 ?_))
      | true =>
        have je := chk_yes he
        by_cases h0 : 0 < i
        · have hp : ((i : Int) - 1).toNat < l.length := by omega
          have ep : ((i : Int) - 1).toNat = i - 1 := by omega
          by_cases hc : (l[((i : Int) - 1).toNat]'hp).id < l[i].id
          · repeat' ((conv => whnf); first | refine Q.E ?_ | (refine Stk.both (fun hb => ?_) (fun hb => ?_) <;> (try simp only [lE] at hb))); all_goals (conv => whnf)
            exact ⟨i + 1, ⟨by omega, risE_succ hlt hr he fun _ => by simp only [ep] at hc; exact hc⟩, by omega, Weak.gc ⟨rfl, rfl, rfl, rfl, trivial⟩ trivial rfl rfl rfl⟩
          · rw [entsB_bad2 hlt h0 (by simp only [ep] at hc; exact hc)]
            have hc2 : l[i].id ≤ (l[((i : Int) - 1).toNat]'hp).id := by omega
            repeat' ((conv => whnf); first | refine Q.E ?_ | (refine Stk.both (fun hb => ?_) (fun hb => ?_) <;> (try simp only [lE] at hb))); all_goals (conv => whnf)
            (refine Q.r6 (h := ?_); repeat' (first | exact Q.r0 | refine Q.r1 ?_ ?_ | refine Q.r2 ?_ | exact Q.r7 | refine Q.r3 ?_ | refine Q.r4 ?_ | refine Q.r5 ?_))
        · repeat' ((conv => whnf); first | refine Q.E ?_ | (refine Stk.both (fun hb => ?_) (fun hb => ?_) <;> (try simp only [lE] at hb))); all_goals (conv => whnf)
          exact ⟨i + 1, ⟨by omega, risE_succ hlt hr he fun h => absurd h h0⟩, by omega, Weak.gc ⟨rfl, rfl, rfl, rfl, trivial⟩ trivial rfl rfl rfl⟩
    · rw [entsB_iff.2 ⟨hn, by rwa [show l.length = i by omega]⟩]
      repeat' ((conv => whnf); first | refine Q.E ?_ | (refine Stk.both (fun hb => ?_) (fun hb => ?_) <;> (try simp only [lE] at hb))); all_goals (conv => whnf)
      (refine Q.r6 (h := ?_); repeat' (first | exact Q.r0 | refine Q.r1 ?_ ?_ | refine Q.r2 ?_ | exact Q.r7 | refine Q.r3 ?_ | refine Q.r4 ?_ | refine Q.r5 ?_))
  · rw [entsB_no fun h => hn h.1]
    refine ⟨Spec.bound 0 rfl fun hl => ?_⟩; rw [List.length_map] at hl; refine Spec.ofR (h := fun F w0 => ?_)
    repeat' ((conv => whnf); first | refine Q.E ?_ | (refine Stk.both (fun hb => ?_) (fun hb => ?_) <;> (try simp only [lE] at hb))); all_goals (conv => whnf)
    (refine Q.r6 (h := ?_); repeat' (first | exact Q.r0 | refine Q.r1 ?_ ?_ | refine Q.r2 ?_ | exact Q.r7 | refine Q.r3 ?_ | refine Q.r4 ?_ | refine Q.r5 ?_))
end Go.Proofs.YtbjepdfnmbdplaaGreat
end
section
namespace Go.Proofs.YtbjepdfnmbdplaaGreat
open Go.RowKit
set_option linter.unusedSimpArgs false
set_option linter.unusedVariables false
set_option maxRecDepth 100000
set_option maxHeartbeats 1000000
theorem isId_first {l : List Ent} {id : Int} (h : findB l id = true) : ∃ k, ∃ h : k < l.length, (∀ x ∈ l.take k, isId id x = false) ∧ isId id l[k] = true := by
  obtain ⟨x, hx, hq⟩ := List.any_eq_true.1 h
  have hk : l.findIdx (isId id) < l.length := List.findIdx_lt_length_of_exists ⟨x, hx, hq⟩
  refine ⟨l.findIdx (isId id), hk, fun y hy => ?_, List.findIdx_getElem (w := hk)⟩
  obtain ⟨j, hj, rfl⟩ := List.getElem_of_mem hy
  rw [List.length_take] at hj
  rw [List.getElem_take]
  simpa using List.not_of_lt_findIdx (p := isId id) (xs := l) (i := j) (by omega)
def nilE : List PV := [PV.int 0, PV.int 0, PV.int 0, PV.int 0, PV.int 0, PV.int 0, PV.int 0, PV.int 0, .v (.string ⟨#[]⟩), .v (.slice none 0 0)]
instance tablefind_spec (l : List Ent) (id : Int) : HasSpec Tryz.prog 29 [PV.ents l, PV.int id] (.tup [.agg (findT l id).cs, .v (.bool (findB l id))]) := by
  refine ⟨Spec.bound 0 rfl fun hl => ?_⟩; rw [List.length_map] at hl; refine Spec.ofR (h := fun F w0 => ?_)
  conv => whnf
  refine Stk.inl (h := fun tm => ?_)
  repeat' ((conv => whnf); first | refine Q.E ?_ | (refine Stk.both (fun hb => ?_) (fun hb => ?_) <;> (try simp only [lE] at hb))); all_goals (conv => whnf)
  refine Stk.loop (ι := Nat) (fun i => [(0, PV.ents l), (1, .fn (.func 92) [] [.lp 3 0]), (7, PV.int (l.length : Nat)), (8, PV.int (i : Nat))]) (fun i => [(3, .box [PV.int id]), (4, .box nilE)]) (fun i => i ≤ l.length ∧ ∀ x ∈ l.take i, isId id x = false) (fun i => l.length - i) 0 ⟨Nat.zero_le _, by simp⟩ (Weak.gc ⟨rfl, rfl, rfl, rfl, trivial⟩ ⟨rfl, rfl, trivial⟩ rfl rfl rfl) (fun i hi => ?_)
  obtain ⟨hi, hno⟩ := hi
  by_cases hlt : i < l.length
  · by_cases hq : l[i].id = id
    · obtain ⟨e1, e2⟩ := find_at hlt hno (by unfold isId; exact decide_eq_true hq)
      rw [e1, e2]
      repeat' ((conv => whnf); first | refine Q.E ?_ | (refine Stk.both (fun hb => ?_) (fun hb => ?_) <;> (try simp only [lE] at hb))); all_goals (conv => whnf)
      refine Stk.inl (h := fun tm => ?_)
      repeat' ((conv => whnf); first | refine Q.E ?_ | (refine Stk.both (fun hb => ?_) (fun hb => ?_) <;> (try simp only [lE] at hb))); all_goals (conv => whnf)
      (refine Q.r6 (h := ?_); repeat' (first | exact Q.r0 | refine Q.r1 ?_ ?_ | refine Q.r2 ?_ | exact Q.r7 | refine Q.r3 ?_ | refine Q.r4 ?_ | refine Q.r5 ?_))
    · repeat' ((conv => whnf); first | refine Q.E ?_ | (refine Stk.both (fun hb => ?_) (fun hb => ?_) <;> (try simp only [lE] at hb))); all_goals (conv => whnf)
      refine Stk.inl (h := fun tm => ?_)
      repeat' ((conv => whnf); first | refine Q.E ?_ | (refine Stk.both (fun hb => ?_) (fun hb => ?_) <;> (try simp only [lE] at hb))); all_goals (conv => whnf)
      exact ⟨i + 1, ⟨by omega, take_no hlt hno (by unfold isId; exact decide_eq_false hq)⟩, by omega, Weak.gc ⟨rfl, rfl, rfl, rfl, trivial⟩ ⟨rfl, rfl, trivial⟩ rfl rfl rfl⟩
  · obtain ⟨e1, e2⟩ := find_no (take_all (by omega) hno)
    rw [e1, e2]
    repeat' ((conv => whnf); first | refine Q.E ?_ | (refine Stk.both (fun hb => ?_) (fun hb => ?_) <;> (try simp only [lE] at hb))); all_goals (conv => whnf)
    (refine Q.r6 (h := ?_); repeat' (first | exact Q.r0 | refine Q.r1 ?_ ?_ | refine Q.r2 ?_ | exact Q.r7 | refine Q.r3 ?_ | refine Q.r4 ?_ | refine Q.r5 ?_))
end Go.Proofs.YtbjepdfnmbdplaaGreat
end
section
namespace Go.Proofs.YtbjepdfnmbdplaaGreat
open Go.RowKit
set_option linter.unusedSimpArgs false
set_option linter.unusedVariables false
set_option maxRecDepth 100000
set_option maxHeartbeats 1000000
def noneB (t : Int) : Bool := decide (t < 0 ∨ 1000000 < t)
instance none_spec (t : Int) : HasSpec Tryz.prog 228 [PV.int t] (.v (.bool (noneB t))) := by
  refine ⟨?_⟩; refine Spec.ofR (h := fun F w0 => ?_)
  repeat' ((conv => whnf); first | refine Q.E ?_ | (refine Stk.both (fun hb => ?_) (fun hb => ?_) <;> (try simp only [lE] at hb))); all_goals (conv => whnf)
  all_goals (refine Q.r6 (h := ?_); repeat' (first | exact Q.r0 | refine Q.r1 ?_ ?_ | refine Q.r2 ?_ | exact Q.r7 | refine Q.r3 ?_ | refine Q.r4 ?_ | refine Q.r5 ?_))
  all_goals unfold noneB
  all_goals ((first | rfl | (rw [Bool.eq_iff_iff]; simp only [tst_true, tst_false, lE, decide_eq_true_eq, decide_eq_false_iff_not, Bool.and_eq_true, Bool.or_eq_true, Bool.not_eq_true', Bool.not_eq_false', Bool.false_eq_true, Bool.true_eq_false, true_iff, iff_true, false_iff, iff_false, true_and, and_true, false_and, and_false, not_false_eq_true, not_true_eq_false]; try omega)))
theorem idxnone_spec (l : List Int) : HasSpec Tryz.prog 260 [PV.ints l, .fn (.func 228) [] []] (PV.int (idxF noneB l)) := by
  refine ⟨Spec.bound 0 rfl fun hl => ?_⟩; rw [List.length_map] at hl; refine Spec.ofR (h := fun F w0 => ?_)
  repeat' ((conv => whnf); first | refine Q.E ?_ | (refine Stk.both (fun hb => ?_) (fun hb => ?_) <;> (try simp only [lE] at hb))); all_goals (conv => whnf)
  refine Stk.loop (ι := Nat) (fun i => [(0, PV.ints l), (1, .fn (.func 228) [] []), (7, PV.int (l.length : Nat)), (8, PV.int (i : Nat))]) (fun _ => []) (fun i => i ≤ l.length ∧ ∀ x ∈ l.take i, noneB x = false) (fun i => l.length - i) 0 ⟨Nat.zero_le _, by simp⟩ (Weak.gc ⟨rfl, rfl, rfl, rfl, trivial⟩ trivial rfl rfl rfl) (fun i hi => ?_)
  obtain ⟨hi, hno⟩ := hi
  by_cases hlt : i < l.length
  · cases hq : noneB l[i] with
    | true =>
      repeat' ((conv => whnf); first | refine Q.E ?_ | (refine Stk.both (fun hb => ?_) (fun hb => ?_) <;> (try simp only [lE] at hb))); all_goals (conv => whnf)
      rw [idxF_at (k := i) hlt hno hq]
      (refine Q.r6 (h := ?_); repeat' (first | exact Q.r0 | refine Q.r1 ?_ ?_ | refine Q.r2 ?_ | exact Q.r7 | refine Q.r3 ?_ | refine Q.r4 ?_ | refine Q.r5 ?_))
    | false =>
      repeat' ((conv => whnf); first | refine Q.E ?_ | (refine Stk.both (fun hb => ?_) (fun hb => ?_) <;> (try simp only [lE] at hb))); all_goals (conv => whnf)
      exact ⟨i + 1, ⟨by omega, take_no hlt hno hq⟩, by omega, Weak.gc ⟨rfl, rfl, rfl, rfl, trivial⟩ trivial rfl rfl rfl⟩
  · repeat' ((conv => whnf); first | refine Q.E ?_ | (refine Stk.both (fun hb => ?_) (fun hb => ?_) <;> (try simp only [lE] at hb))); all_goals (conv => whnf)
    rw [idxF_no (take_all (by omega) hno)]
    (refine Q.r6 (h := ?_); repeat' (first | exact Q.r0 | refine Q.r1 ?_ ?_ | refine Q.r2 ?_ | exact Q.r7 | refine Q.r3 ?_ | refine Q.r4 ?_ | refine Q.r5 ?_))
theorem hasnone_spec (l : List Int) : HasSpec Tryz.prog 229 [PV.ints l, .fn (.func 228) [] []] (.v (.bool (l.any noneB))) := by
  have jx := idxnone_spec l
  rw [← idxF_ge]
  refine ⟨?_⟩; refine Spec.ofR (h := fun F w0 => ?_)
  repeat' ((conv => whnf); first | refine Q.E ?_ | (refine Stk.both (fun hb => ?_) (fun hb => ?_) <;> (try simp only [lE] at hb))); all_goals (conv => whnf)
  (refine Q.r6 (h := ?_); repeat' (first | exact Q.r0 | refine Q.r1 ?_ ?_ | refine Q.r2 ?_ | exact Q.r7 | refine Q.r3 ?_ | refine Q.r4 ?_ | refine Q.r5 ?_))
def marksB (l : List Int) (n : Int) : Bool := manyB n && (decide ((l.length : Int) = n) && !l.any noneB)
instance stablecheck_spec (l : List Int) (n : Int) : HasSpec Tryz.prog 174 [PV.ints l, PV.int n] (PV.int (errI (marksB l n) 2)) := by
  have jx := hasnone_spec l
  have jo := most_spec n
  unfold marksB
  cases hm : manyB n with
  | false =>
    rw [hm, if_neg (by simp)] at jo
    refine ⟨?_⟩; refine Spec.ofR (h := fun F w0 => ?_)
    repeat' ((conv => whnf); first | refine Q.a ?_ | refine Q.b ?_ | refine Q.c ?_ | refine Stk.is (by first | assumption | ((try simp only [lE]); first | done | assumption | omega)) ?_ | refine Stk.isnt (by first | assumption | ((try simp only [lE]); first | done | assumption | omega)) ?_ | (refine Stk.both (fun hb => ?_) (fun hb => ?_) <;> (try simp only [lE] at hb)) | refine Q.d ?_ | refine Q.e ?_ | refine Q.f ?_ | refine Q.g ?_ | refine Q.h ?_ | refine Q.i ?_ | refine Q.j ?_ | refine Q.k ?_ | refine Q.l ?_ | refine Q.m ?_ | refine Q.n ?_ | refine Q.o (h := ?_) | refine Q.p (h := ?_) | refine Q.q ?_ | refine Q.r ?_ | refine Q.s ?_ | refine Q.t ?_ | refine Q.u ?_ | refine Q.v ?_ | refine Q.w ?_ | refine Q.x ?_ | refine Q.y ?_ | refine Q.z ?_ | refine Stk.inl (h := fun tm => ?_) | refine Stk.inl0 (h := fun tm => ?_) | refine DefG.go (h := fun vs us => ?_) | intro (tm : Array Value) | refine Stk.op (ok_buildA rfl rfl rfl rfl) ?_ | refine Stk.scope ?_); all_goals (conv => whnf)
    (refine Q.r6 (h := ?_); repeat' (first | exact Q.r0 | refine Q.r1 ?_ ?_ | refine Q.r2 ?_ | exact Q.r7 | refine Q.r3 ?_ | refine Q.r4 ?_ | refine Q.r5 ?_))
  | true =>
    have hn : 3 ≤ n ∧ n ≤ 9 := by simpa [manyB] using hm
    rw [hm, if_pos rfl] at jo
    by_cases hl : (l.length : Int) = n
    · rw [decide_eq_true hl]
      cases ha : l.any noneB with
      | true =>
        rw [ha] at jx
        refine ⟨Spec.bound 0 rfl fun hl => ?_⟩; rw [List.length_map] at hl; refine Spec.ofR (h := fun F w0 => ?_)
        repeat' ((conv => whnf); first | refine Q.a ?_ | refine Q.b ?_ | refine Q.c ?_ | refine Stk.is (by first | assumption | ((try simp only [lE]); first | done | assumption | omega)) ?_ | refine Stk.isnt (by first | assumption | ((try simp only [lE]); first | done | assumption | omega)) ?_ | (refine Stk.both (fun hb => ?_) (fun hb => ?_) <;> (try simp only [lE] at hb)) | refine Q.d ?_ | refine Q.e ?_ | refine Q.f ?_ | refine Q.g ?_ | refine Q.h ?_ | refine Q.i ?_ | refine Q.j ?_ | refine Q.k ?_ | refine Q.l ?_ | refine Q.m ?_ | refine Q.n ?_ | refine Q.o (h := ?_) | refine Q.p (h := ?_) | refine Q.q ?_ | refine Q.r ?_ | refine Q.s ?_ | refine Q.t ?_ | refine Q.u ?_ | refine Q.v ?_ | refine Q.w ?_ | refine Q.x ?_ | refine Q.y ?_ | refine Q.z ?_ | refine Stk.inl (h := fun tm => ?_) | refine Stk.inl0 (h := fun tm => ?_) | refine DefG.go (h := fun vs us => ?_) | intro (tm : Array Value) | refine Stk.op (ok_buildA rfl rfl rfl rfl) ?_ | refine Stk.scope ?_); all_goals (conv => whnf)
        (refine Q.r6 (h := ?_); repeat' (first | exact Q.r0 | refine Q.r1 ?_ ?_ | refine Q.r2 ?_ | exact Q.r7 | refine Q.r3 ?_ | refine Q.r4 ?_ | refine Q.r5 ?_))
      | false =>
        rw [ha] at jx
        refine ⟨Spec.bound 0 rfl fun hl => ?_⟩; rw [List.length_map] at hl; refine Spec.ofR (h := fun F w0 => ?_)
        repeat' ((conv => whnf); first | refine Q.a ?_ | refine Q.b ?_ | refine Q.c ?_ | refine Stk.is (by first | assumption | ((try simp only [lE]); first | done | assumption | omega)) ?_ | refine Stk.isnt (by first | assumption | ((try simp only [lE]); first | done | assumption | omega)) ?_ | (refine Stk.both (fun hb => ?_) (fun hb => ?_) <;> (try simp only [lE] at hb)) | refine Q.d ?_ | refine Q.e ?_ | refine Q.f ?_ | refine Q.g ?_ | refine Q.h ?_ | refine Q.i ?_ | refine Q.j ?_ | refine Q.k ?_ | refine Q.l ?_ | refine Q.m ?_ | refine Q.n ?_ | refine Q.o (h := ?_) | refine Q.p (h := ?_) | refine Q.q ?_ | refine Q.r ?_ | refine Q.s ?_ | refine Q.t ?_ | refine Q.u ?_ | refine Q.v ?_ | refine Q.w ?_ | refine Q.x ?_ | refine Q.y ?_ | refine Q.z ?_ | refine Stk.inl (h := fun tm => ?_) | refine Stk.inl0 (h := fun tm => ?_) | refine DefG.go (h := fun vs us => ?_) | intro (tm : Array Value) | refine Stk.op (ok_buildA rfl rfl rfl rfl) ?_ | refine Stk.scope ?_); all_goals (conv => whnf)
        (refine Q.r6 (h := ?_); repeat' (first | exact Q.r0 | refine Q.r1 ?_ ?_ | refine Q.r2 ?_ | exact Q.r7 | refine Q.r3 ?_ | refine Q.r4 ?_ | refine Q.r5 ?_))
    · rw [decide_eq_false hl]
      refine ⟨Spec.bound 0 rfl fun hl => ?_⟩; rw [List.length_map] at hl; refine Spec.ofR (h := fun F w0 => ?_)
      repeat' ((conv => whnf); first | refine Q.a ?_ | refine Q.b ?_ | refine Q.c ?_ | refine Stk.is (by first | assumption | ((try simp only [lE]); first | done | assumption | omega)) ?_ | refine Stk.isnt (by first | assumption | ((try simp only [lE]); first | done | assumption | omega)) ?_ | (refine Stk.both (fun hb => ?_) (fun hb => ?_) <;> (try simp only [lE] at hb)) | refine Q.d ?_ | refine Q.e ?_ | refine Q.f ?_ | refine Q.g ?_ | refine Q.h ?_ | refine Q.i ?_ | refine Q.j ?_ | refine Q.k ?_ | refine Q.l ?_ | refine Q.m ?_ | refine Q.n ?_ | refine Q.o (h := ?_) | refine Q.p (h := ?_) | refine Q.q ?_ | refine Q.r ?_ | refine Q.s ?_ | refine Q.t ?_ | refine Q.u ?_ | refine Q.v ?_ | refine Q.w ?_ | refine Q.x ?_ | refine Q.y ?_ | refine Q.z ?_ | refine Stk.inl (h := fun tm => ?_) | refine Stk.inl0 (h := fun tm => ?_) | refine DefG.go (h := fun vs us => ?_) | intro (tm : Array Value) | refine Stk.op (ok_buildA rfl rfl rfl rfl) ?_ | refine Stk.scope ?_); all_goals (conv => whnf)
      (refine Q.r6 (h := ?_); repeat' (first | exact Q.r0 | refine Q.r1 ?_ ?_ | refine Q.r2 ?_ | exact Q.r7 | refine Q.r3 ?_ | refine Q.r4 ?_ | refine Q.r5 ?_))
end Go.Proofs.YtbjepdfnmbdplaaGreat
end
section
namespace Go.Proofs.YtbjepdfnmbdplaaGreat
open Go.RowKit
set_option linter.unusedSimpArgs false
set_option linter.unusedVariables false
set_option maxRecDepth 100000
set_option maxHeartbeats 1000000
end Go.Proofs.YtbjepdfnmbdplaaGreat
end
section
namespace Go.Proofs.YtbjepdfnmbdplaaGreat
open Go.RowKit
set_option linter.unusedSimpArgs false
set_option linter.unusedVariables false
set_option maxRecDepth 100000
set_option maxHeartbeats 1000000
def rcs (r : List Int) : List PV := [PV.ints r]
abbrev PV.tab (m : List (List Int)) : PV := .sl 1 (m.map rcs)
def tableB (m : List (List Int)) (n : Int) : Bool := manyB n && (decide ((m.length : Int) = n) && m.all fun r => marksB r n)
theorem table_bad {m : List (List Int)} {n : Int} {i : Nat} (hi : i < m.length) (h : marksB m[i] n = false) : tableB m n = false := by
  unfold tableB
  rw [show (m.all fun r => marksB r n) = false from List.all_eq_false.2 ⟨m[i], List.getElem_mem hi, by rw [h]; simp⟩, Bool.and_false, Bool.and_false]
theorem table_good {m : List (List Int)} {n : Int} (h1 : manyB n = true) (h2 : (m.length : Int) = n) (h : ∀ r ∈ m, (!marksB r n) = false) : tableB m n = true := by
  unfold tableB
  rw [h1, decide_eq_true h2, show (m.all fun r => marksB r n) = true from List.all_eq_true.2 fun r hr => by simpa using h r hr]
  rfl
instance tabcheck_spec (m : List (List Int)) (n : Int) : HasSpec Tryz.prog 173 [PV.tab m, PV.int n] (PV.int (errI (tableB m n) 2)) := by
  have jo := most_spec n
  cases hm : manyB n with
  | false =>
    rw [hm, if_neg (by simp)] at jo
    rw [show tableB m n = false by unfold tableB; rw [hm]; rfl]
    refine ⟨Spec.bound 0 rfl fun hl => ?_⟩; rw [List.length_map] at hl; refine Spec.ofR (h := fun F w0 => ?_)
    repeat' ((conv => whnf); first | refine Q.E ?_ | (refine Stk.both (fun hb => ?_) (fun hb => ?_) <;> (try simp only [lE] at hb))); all_goals (conv => whnf)
    (refine Q.r6 (h := ?_); repeat' (first | exact Q.r0 | refine Q.r1 ?_ ?_ | refine Q.r2 ?_ | exact Q.r7 | refine Q.r3 ?_ | refine Q.r4 ?_ | refine Q.r5 ?_))
  | true =>
    have hn : 3 ≤ n ∧ n ≤ 9 := by simpa [manyB] using hm
    rw [hm, if_pos rfl] at jo
    by_cases hl2 : (m.length : Int) = n
    · refine ⟨Spec.bound 0 rfl fun hl => ?_⟩; rw [List.length_map] at hl; refine Spec.ofR (h := fun F w0 => ?_)
      repeat' ((conv => whnf); first | refine Q.E ?_ | (refine Stk.both (fun hb => ?_) (fun hb => ?_) <;> (try simp only [lE] at hb))); all_goals (conv => whnf)
      refine Stk.loop (ι := Nat) (fun i => [(1, PV.int n), (17, PV.tab m), (18, PV.int (m.length : Nat)), (19, PV.int (i : Nat))]) (fun _ => []) (fun i => i ≤ m.length ∧ ∀ r ∈ m.take i, (!marksB r n) = false) (fun i => m.length - i) 0 ⟨Nat.zero_le _, by simp⟩ (Weak.gc ⟨rfl, rfl, rfl, rfl, trivial⟩ trivial rfl rfl rfl) (fun i hi => ?_)
      obtain ⟨hi, hno⟩ := hi
      by_cases hlt : i < m.length
      · have jc := stablecheck_spec m[i] n
        cases hr : marksB m[i] n with
        | true =>
          rw [hr] at jc
          repeat' ((conv => whnf); first | refine Q.E ?_ | (refine Stk.both (fun hb => ?_) (fun hb => ?_) <;> (try simp only [lE] at hb))); all_goals (conv => whnf)
          exact ⟨i + 1, ⟨by omega, take_no hlt hno (by rw [hr]; rfl)⟩, by omega, Weak.gc ⟨rfl, rfl, rfl, rfl, trivial⟩ trivial rfl rfl rfl⟩
        | false =>
          rw [hr] at jc
          rw [table_bad hlt hr]
          repeat' ((conv => whnf); first | refine Q.E ?_ | (refine Stk.both (fun hb => ?_) (fun hb => ?_) <;> (try simp only [lE] at hb))); all_goals (conv => whnf)
          (refine Q.r6 (h := ?_); repeat' (first | exact Q.r0 | refine Q.r1 ?_ ?_ | refine Q.r2 ?_ | exact Q.r7 | refine Q.r3 ?_ | refine Q.r4 ?_ | refine Q.r5 ?_))
      · rw [table_good hm hl2 (take_all (by omega) hno)]
        repeat' ((conv => whnf); first | refine Q.E ?_ | (refine Stk.both (fun hb => ?_) (fun hb => ?_) <;> (try simp only [lE] at hb))); all_goals (conv => whnf)
        (refine Q.r6 (h := ?_); repeat' (first | exact Q.r0 | refine Q.r1 ?_ ?_ | refine Q.r2 ?_ | exact Q.r7 | refine Q.r3 ?_ | refine Q.r4 ?_ | refine Q.r5 ?_))
    · rw [show tableB m n = false by unfold tableB; rw [decide_eq_false hl2, Bool.false_and, Bool.and_false]]
      refine ⟨Spec.bound 0 rfl fun hl => ?_⟩; rw [List.length_map] at hl; refine Spec.ofR (h := fun F w0 => ?_)
      repeat' ((conv => whnf); first | refine Q.E ?_ | (refine Stk.both (fun hb => ?_) (fun hb => ?_) <;> (try simp only [lE] at hb))); all_goals (conv => whnf)
      (refine Q.r6 (h := ?_); repeat' (first | exact Q.r0 | refine Q.r1 ?_ ?_ | refine Q.r2 ?_ | exact Q.r7 | refine Q.r3 ?_ | refine Q.r4 ?_ | refine Q.r5 ?_))
end Go.Proofs.YtbjepdfnmbdplaaGreat
end
section
namespace Go.Proofs.YtbjepdfnmbdplaaGreat
open Go.RowKit
set_option linter.unusedSimpArgs false
set_option linter.unusedVariables false
structure Att where
  t : Int
  id : Int
deriving DecidableEq
def Att.cs (a : Att) : List PV := [PV.int a.t, PV.int a.id]
structure Rng where
  lo : Int
  hi : Int
deriving DecidableEq
def Rng.cs (a : Rng) : List PV := [PV.int a.lo, PV.int a.hi]
structure Kno where
  base : Int
  rs : List Rng
  atts : List Att
deriving DecidableEq
def Kno.cs (k : Kno) : List PV := [PV.int k.base, .sl 2 (k.rs.map Rng.cs), .sl 2 (k.atts.map Att.cs)]
structure Itm where
  id : Int
  free : Int
  held : Int
  gone : Int
def Itm.cs (a : Itm) : List PV := [PV.int a.id, PV.int a.free, PV.int a.held, PV.int a.gone]
structure Ses where
  client : Int
  seq : Int
  reply : ByteArray
def Ses.cs (a : Ses) : List PV := [PV.int a.client, PV.int a.seq, .v (.string a.reply)]
abbrev PV.rngs (l : List Rng) : PV := .sl 2 (l.map Rng.cs)
abbrev PV.atts (l : List Att) : PV := .sl 2 (l.map Att.cs)
abbrev PV.knos (l : List Kno) : PV := .sl 3 (l.map Kno.cs)
def dcs (l : List Rng) : List PV := [PV.rngs l]
abbrev PV.dons (l : List (List Rng)) : PV := .sl 1 (l.map dcs)
structure Rpl where
  n : Int
  f : Int
  self : Int
  clock : Int
  seq : Int
  floor : Int
  ticks : Int
  entries : List Ent
  own : List Att
  known : List Kno
  marks : List (List Int)
  fronts : List Int
  done : List (List Rng)
  last : Att
  count : Int
  items : List Itm
  sess : List Ses
def Rpl.cs (r : Rpl) : List PV := [PV.int r.n, PV.int r.f, PV.int r.self, PV.int r.clock, PV.int r.seq, PV.int r.floor, PV.int r.ticks, PV.ents r.entries, PV.atts r.own, PV.knos r.known, PV.tab r.marks, PV.ints r.fronts, PV.dons r.done, PV.int r.last.t, PV.int r.last.id, PV.int r.count, .sl 4 (r.items.map Itm.cs), .sl 3 (r.sess.map Ses.cs)]
structure Msg where
  kind : Int
  fr : Int
  id : Int
  t : Int
  bal : Int
  abal : Int
  phase : Int
  quorum : Int
  payload : ByteArray
  lo : Int
  hi : Int
  atts : List Att
  marks : List Int
  done : Int
def Msg.cs (m : Msg) : List PV := [PV.int m.kind, PV.int m.fr, PV.int m.id, PV.int m.t, PV.int m.bal, PV.int m.abal, PV.int m.phase, PV.int m.quorum, .v (.string m.payload), PV.int m.lo, PV.int m.hi, PV.atts m.atts, PV.ints m.marks, PV.int m.done]
structure Out where
  dest : Int
  m : Msg
def Out.cs (o : Out) : List PV := PV.int o.dest :: o.m.cs
abbrev PV.outs (l : List Out) : PV := .sl 15 (l.map Out.cs)
def prefTo {α : Type} (p : List α → α → Bool) (l : List α) (n : Nat) : Bool := (List.range n).all fun i => match l[i]? with
  | some a => p (l.take i) a
  | none => true
def pref {α : Type} (p : List α → α → Bool) (l : List α) : Bool := prefTo p l l.length
section
variable {α : Type} {p : List α → α → Bool} {l : List α}
theorem prefTo_succ {i : Nat} (h : i < l.length) : prefTo p l (i + 1) = (prefTo p l i && p (l.take i) l[i]) := by
  unfold prefTo
  rw [List.range_succ, List.all_append]
  simp [List.getElem?_eq_getElem h]
theorem prefTo_next {i : Nat} (h : i < l.length) (h0 : prefTo p l i = true) (h1 : p (l.take i) l[i] = true) : prefTo p l (i + 1) = true := by
  rw [prefTo_succ h, h0, h1]
  rfl
theorem pref_bad {i : Nat} (h : i < l.length) (h1 : p (l.take i) l[i] = false) : pref p l = false := by
  unfold pref prefTo
  rw [List.all_eq_false]
  refine ⟨i, List.mem_range.2 h, ?_⟩
  rw [List.getElem?_eq_getElem h]
  simp [h1]
theorem pref_end {i : Nat} (hi : l.length ≤ i) (h1 : i ≤ l.length) (h : prefTo p l i = true) : pref p l = true := by
  have : i = l.length := by omega
  subst this
  exact h
theorem prefTo_at {n i : Nat} (h : prefTo p l n = true) (hi : i < n) (hl : i < l.length) : p (l.take i) l[i] = true := by
  unfold prefTo at h
  have := List.all_eq_true.1 h i (List.mem_range.2 hi)
  rw [List.getElem?_eq_getElem hl] at this
  exact this
theorem pref_at {i : Nat} (h : pref p l = true) (hl : i < l.length) : p (l.take i) l[i] = true := prefTo_at h hl hl
theorem pref_iff : pref p l = true ↔ ∀ i (h : i < l.length), p (l.take i) l[i] = true := by
  refine ⟨fun h i hi => pref_at h hi, fun h => ?_⟩
  unfold pref prefTo
  rw [List.all_eq_true]
  intro i hi
  have hi := List.mem_range.1 hi
  rw [List.getElem?_eq_getElem hi]
  exact h i hi
def lastI (f : α → Int) (d : Int) (l : List α) : Int := match l.getLast? with
  | some a => f a
  | none => d
theorem lastI_zero (f : α → Int) (d : Int) : lastI f d (l.take 0) = d := rfl
theorem lastI_succ (f : α → Int) (d : Int) {i : Nat} (h : i < l.length) : lastI f d (l.take (i + 1)) = f l[i] := by
  unfold lastI
  rw [take_snoc' l i h, List.getLast?_append]
  rfl
theorem lastI_pos (f : α → Int) (d : Int) {i : Nat} (h : i ≤ l.length) (h0 : 0 < i) : lastI f d (l.take i) = f (l[i - 1]'(by omega)) := by
  obtain ⟨j, rfl⟩ : ∃ j, i = j + 1 := ⟨i - 1, by omega⟩
  rw [lastI_succ f d (by omega)]
  rfl
end
def rngP (pre : List Rng) (r : Rng) : Bool := decide (1 ≤ r.lo ∧ r.lo ≤ r.hi ∧ r.hi ≤ 1000000 ∧ lastI Rng.hi (-1) pre + 1 < r.lo)
def rngB (l : List Rng) : Bool := decide (l.length ≤ 1000) && pref rngP l
def inR (n : Int) (r : Rng) : Bool := decide (r.lo ≤ n ∧ n ≤ r.hi)
def rhasB (l : List Rng) (n : Int) : Bool := rngB l && l.any (inR n)
theorem rngP_iff {pre : List Rng} {r : Rng} : rngP pre r = true ↔ 1 ≤ r.lo ∧ r.lo ≤ r.hi ∧ r.hi ≤ 1000000 ∧ lastI Rng.hi (-1) pre + 1 < r.lo := by unfold rngP; exact decide_eq_true_iff
theorem rngP_f {pre : List Rng} {r : Rng} : rngP pre r = false ↔ ¬ (1 ≤ r.lo ∧ r.lo ≤ r.hi ∧ r.hi ≤ 1000000 ∧ lastI Rng.hi (-1) pre + 1 < r.lo) := by unfold rngP; exact decide_eq_false_iff_not
theorem inR_iff {n : Int} {r : Rng} : inR n r = true ↔ r.lo ≤ n ∧ n ≤ r.hi := by unfold inR; exact decide_eq_true_iff
theorem inR_f {n : Int} {r : Rng} : inR n r = false ↔ ¬ (r.lo ≤ n ∧ n ≤ r.hi) := by unfold inR; exact decide_eq_false_iff_not
def attP (lo hi : Int) (pre : List Att) (a : Att) : Bool := decide (lo < a.t ∧ lastI Att.t lo pre < a.t ∧ a.t ≤ hi) && idB a.id
def attB (lo hi : Int) (l : List Att) : Bool := pref (attP lo hi) l
theorem attP_iff {lo hi : Int} {pre : List Att} {a : Att} : attP lo hi pre a = true ↔ lo < a.t ∧ lastI Att.t lo pre < a.t ∧ a.t ≤ hi ∧ idB a.id = true := by
  unfold attP
  rw [Bool.and_eq_true, decide_eq_true_iff]
  exact ⟨fun h => ⟨h.1.1, h.1.2.1, h.1.2.2, h.2⟩, fun h => ⟨⟨h.1, h.2.1, h.2.2.1⟩, h.2.2.2⟩⟩
theorem attP_f {lo hi : Int} {pre : List Att} {a : Att} : attP lo hi pre a = false ↔ ¬ (lo < a.t ∧ lastI Att.t lo pre < a.t ∧ a.t ≤ hi ∧ idB a.id = true) := by
  rw [← attP_iff]
  cases attP lo hi pre a <;> simp
def sameId (id : Int) (a : Att) : Bool := decide (a.id = id)
def ownP (floor now : Int) (pre : List Att) (a : Att) : Bool := attP floor now pre a && !pre.any (sameId a.id)
def clkB (now floor : Int) (own : List Att) : Bool := decide (0 ≤ floor ∧ floor ≤ now ∧ now ≤ 1000000) && pref (ownP floor now) own
theorem ownP_iff {lo hi : Int} {pre : List Att} {a : Att} : ownP lo hi pre a = true ↔ (lo < a.t ∧ lastI Att.t lo pre < a.t ∧ a.t ≤ hi ∧ idB a.id = true) ∧ pre.any (sameId a.id) = false := by
  unfold ownP
  rw [Bool.and_eq_true, attP_iff, Bool.not_eq_true']
theorem ownP_f {lo hi : Int} {pre : List Att} {a : Att} (h : ¬ ((lo < a.t ∧ lastI Att.t lo pre < a.t ∧ a.t ≤ hi ∧ idB a.id = true) ∧ pre.any (sameId a.id) = false)) : ownP lo hi pre a = false := by
  rw [← ownP_iff] at h
  exact Bool.eq_false_iff.2 h
def bumpI (now t : Int) : Int := if t ≤ 1000000 then max now t else now
def hdB (b : Int) : List Rng → Bool
  | [] => true
  | r :: _ => decide (b + 1 < r.lo)
theorem hdB_pos {b : Int} {l : List Rng} (h : ((0 : Int).toNat) < l.length) : hdB b l = decide (b + 1 < (l[((0 : Int).toNat)]'h).lo) := by
  cases l with
  | nil => simp at h
  | cons r l => rfl
theorem hdB_zero {b : Int} {l : List Rng} (h : l.length = 0) : hdB b l = true := by
  cases l with
  | nil => rfl
  | cons r l => simp at h
def inK (k : Kno) (a : Att) : Bool := rhasB k.rs a.t
def knoB (k : Kno) : Bool := decide (0 ≤ k.base ∧ k.base ≤ 1000000) && rngB k.rs && decide (k.atts.length ≤ 400) && attB k.base 1000000 k.atts && hdB k.base k.rs && !k.atts.any (inK k)
def lastHi (l : List Rng) : Int := lastI Rng.hi 0 l
def donB (l : List Rng) : Bool := rngB l && decide (lastHi l ≤ 99999)
def attOk (a : Att) : Bool := decide (a.t = 0 ∧ a.id = 0) || (idB a.id && decide (1 ≤ a.t ∧ a.t ≤ 1000000))
def numsB (r : Rpl) : Bool := decide (3 ≤ r.n ∧ r.n ≤ 9 ∧ 1 ≤ r.f ∧ 2 * r.f ≤ r.n - 1 ∧ 1 ≤ r.self ∧ r.self ≤ r.n ∧ 0 ≤ r.seq ∧ r.seq ≤ 99999 ∧ 0 ≤ r.ticks ∧ r.ticks ≤ 1000000 ∧ 0 ≤ r.count ∧ r.count ≤ 1000000) && clkB r.clock r.floor r.own
def farB (n : Int) (e : Ent) : Bool := decide (n < selfI e.id)
noncomputable def cmdB (r : Rpl) : Bool := entsB r.entries && !r.entries.any (farB r.n)
def hrsB (r : Rpl) : Bool := decide ((r.known.length : Int) = r.n) && !r.known.any (fun k => !knoB k) && tableB r.marks r.n && marksB r.fronts r.n
def finB (r : Rpl) : Bool := decide ((r.done.length : Int) = r.n) && !r.done.any (fun l => !donB l) && attOk r.last
noncomputable def repB (r : Rpl) : Bool := numsB r && cmdB r && hrsB r && finB r
def doneAt (r : Rpl) (id : Int) : Bool := decide (1 ≤ selfI id ∧ selfI id ≤ r.n) && rhasB (r.done.getD (selfI id - 1).toNat []) (seqI id)
noncomputable def doneB (r : Rpl) (id : Int) : Bool := repB r && doneAt r id
open Classical in
noncomputable def rputX (r : Rpl) (e : Ent) : Int := if ¬ (repB r = true ∧ 1 ≤ selfI e.id ∧ selfI e.id ≤ r.n) then 2 else if doneAt r e.id = true ∧ e.phase ≠ 6 then 33 else putX r.entries e
open Classical in
noncomputable def rputR (r : Rpl) (e : Ent) : Rpl := if rputX r e = 0 then { r with entries := putE r.entries e } else r
end Go.Proofs.YtbjepdfnmbdplaaGreat
end
section
namespace Go.Proofs.YtbjepdfnmbdplaaGreat
open Go.RowKit
set_option linter.unusedSimpArgs false
set_option linter.unusedVariables false
deriving instance DecidableEq for Msg
def kI (k : Int) : Bool := decide (1 ≤ k ∧ k ≤ 9)
def kT (k : Int) : Bool := decide (k = 1 ∨ k = 2 ∨ k = 3 ∨ k = 5 ∨ k = 7)
def kL (k : Int) : Bool := decide (k = 3 ∨ k = 4 ∨ k = 6 ∨ k = 7 ∨ k = 8)
def kC (k : Int) : Bool := decide (k = 1 ∨ k = 3 ∨ k = 5 ∨ k = 6 ∨ k = 9)
def kA (k : Int) : Bool := decide (k = 7)
def kP (k : Int) : Bool := decide (k = 10)
def inN (b : Bool) (n lo hi : Int) : Bool := if b then decide (lo ≤ n ∧ n ≤ hi) else decide (n = 0)
def noByte : ByteArray := ⟨#[]⟩
def prmB (m : Msg) : Bool := decide (0 ≤ m.lo ∧ m.lo ≤ m.hi ∧ m.hi ≤ 1000000 ∧ 0 ≤ m.done ∧ m.done ≤ 1000000 ∧ m.marks.length ≤ 9 ∧ m.atts.length ≤ 200) && !m.marks.any noneB && attB m.lo m.hi m.atts
def msgB (m : Msg) : Bool := decide (1 ≤ m.kind ∧ m.kind ≤ 10) && (decide (1 ≤ m.fr ∧ m.fr ≤ 9) && (if kI m.kind then idB m.id else decide (m.id = 0)) && inN (kT m.kind) m.t 1 1000000 && inN (kL m.kind) m.bal 1 1000000 && inN (kC m.kind) m.quorum 1 511 && decide (m.payload.size ≤ 300) && (kC m.kind || decide (m.payload = noByte)) && (if kA m.kind then decide (0 ≤ m.abal ∧ m.abal < m.bal ∧ 1 ≤ m.phase ∧ m.phase ≤ 4 ∧ (0 < m.abal ∨ 3 ≤ m.phase)) else decide (m.abal = 0 ∧ m.phase = 0)) && (if kP m.kind then prmB m else decide (m.lo = 0 ∧ m.hi = 0 ∧ m.done = 0 ∧ m.atts = [] ∧ m.marks = [])))
def bareM (m : Msg) : Msg := ⟨m.kind, m.fr, if kP m.kind then 0 else m.id, if kT m.kind then m.t else 0, if kL m.kind then m.bal else 0, if kA m.kind then m.abal else 0, if kA m.kind then m.phase else 0, if kC m.kind then m.quorum else 0, if kC m.kind then m.payload else noByte, if kP m.kind then m.lo else 0, if kP m.kind then m.hi else 0, if kP m.kind then m.atts else [], if kP m.kind then m.marks else [], if kP m.kind then m.done else 0⟩
def carB (m : Msg) : Bool := decide (1 ≤ m.quorum ∧ m.quorum ≤ 511 ∧ m.payload.size ≤ 300)
def tellB (m : Msg) : Bool := decide (0 ≤ m.abal ∧ m.abal < m.bal ∧ 1 ≤ m.t ∧ m.t ≤ 1000000) && (if m.abal = 0 then decide (m.phase = 3 ∨ m.phase = 4) else decide (1 ≤ m.phase ∧ m.phase ≤ 4))
def mayM (m : Msg) : Bool :=
  if m.kind = 10 then prmB m else idB m.id && (
    if m.kind = 1 ∨ m.kind = 5 then timeB m.t && carB m
    else if m.kind = 3 then timeB m.t && timeB m.bal && carB m
    else if m.kind = 6 then timeB m.bal && carB m
    else if m.kind = 9 then carB m
    else if m.kind = 2 then timeB m.t
    else if m.kind = 7 then timeB m.bal && tellB m
    else timeB m.bal)
def ownI (b n : Int) : Int := if 3 ≤ n ∧ n ≤ 9 ∧ 1 ≤ b ∧ b ≤ 1000000 then (b - 1) % n + 1 else 0
noncomputable def hearsB (r : Rpl) (m : Msg) : Bool := repB r && msgB m && decide (m.fr ≤ r.n ∧ m.fr ≠ r.self ∧ selfI m.id ≤ r.n ∧ m.quorum < 2 ^ r.n.toNat)
def othL (r : Rpl) : List Int := (((List.range r.n.toNat).map fun i => ((i : Nat) : Int) + 1)).filter fun i => decide (i ≠ r.self)
def Msg.from (m : Msg) (s : Int) : Msg := { m with fr := s }
noncomputable def allO (r : Rpl) (m : Msg) : List Out := if repB r = true then (othL r).map fun d => ⟨d, m.from r.self⟩ else []
open Classical in
noncomputable def lrnB (r : Rpl) (id q : Int) (p : ByteArray) : Bool := if repB r = true ∧ doneB r id = false then (if findB r.entries id = true then true else if entB (.new id q p) = true ∧ rputX r (.new id q p) = 0 then true else false) else false
open Classical in
noncomputable def lrnR (r : Rpl) (id q : Int) (p : ByteArray) : Rpl := if repB r = true ∧ doneB r id = false then (if findB r.entries id = true then r else if entB (.new id q p) = true then rputR r (.new id q p) else r) else r
open Classical in
noncomputable def lrnE (r : Rpl) (id q : Int) (p : ByteArray) : Ent := if repB r = true ∧ doneB r id = false then (if findB r.entries id = true then findT r.entries id else if entB (.new id q p) = true ∧ rputX r (.new id q p) = 0 then .new id q p else .zero) else .zero
open Classical in
noncomputable def bmpB (r : Rpl) (e : Ent) (t : Int) : Bool := decide (rputX r e = 0)
open Classical in
noncomputable def bmpR (r : Rpl) (e : Ent) (t : Int) : Rpl := if rputX r e = 0 then { r with entries := putE r.entries e, clock := bumpI r.clock t } else r
open Classical in
noncomputable def cmtB (r : Rpl) (e : Ent) (t : Int) : Bool := if commX e t = 0 then bmpB r (commE e t) t else false
open Classical in
noncomputable def cmtR (r : Rpl) (e : Ent) (t : Int) : Rpl := if commX e t = 0 then bmpR r (commE e t) t else r
def ackA (r : Rpl) (b : Int) : Ack := ⟨2, r.self, b, 0, 0, 0⟩
open Classical in
noncomputable def tkB (r : Rpl) (e : Ent) (t b : Int) : Bool := if accX e t b = 0 ∧ ackB (accE e t b) (ackA r b) = true then bmpB r (ackR (accE e t b) (ackA r b)) t else false
open Classical in
noncomputable def tkR (r : Rpl) (e : Ent) (t b : Int) : Rpl := if accX e t b = 0 ∧ ackB (accE e t b) (ackA r b) = true then bmpR r (ackR (accE e t b) (ackA r b)) t else r
def tolM (r : Rpl) (e : Ent) : Msg := ⟨5, r.self, e.id, e.t, 0, 0, 0, e.quorum, e.payload, 0, 0, [], [], 0⟩
noncomputable def helpO (r : Rpl) (e : Ent) (d : Int) : List Out := if settB e.phase = true ∧ repB r = true ∧ 1 ≤ d ∧ d ≤ r.n ∧ d ≠ r.self then [⟨d, tolM r e⟩] else []
def ansM (r : Rpl) (m : Msg) (k b : Int) : Msg := ⟨k, r.self, m.id, 0, b, 0, 0, 0, noByte, 0, 0, [], [], 0⟩
def ansO (r : Rpl) (m : Msg) (k b : Int) : List Out := [⟨m.fr, ansM r m k b⟩]
open Classical in
noncomputable def onAcc (r : Rpl) (m : Msg) : Rpl × List Out :=
  if ownI m.bal r.n = m.fr ∧ m.kind = 3 ∧ hearsB r m = true ∧ lrnB r m.id m.quorum m.payload = true then
    (let s := lrnR r m.id m.quorum m.payload; let e := lrnE r m.id m.quorum m.payload
    if settB e.phase = true then (s, helpO s e m.fr)
    else if m.bal < e.bal then (s, ansO r m 8 e.bal)
    else if accX e m.t m.bal = 0 ∧ rputX s (accE e m.t m.bal) = 0 then (bmpR s (accE e m.t m.bal) m.t, ansO r m 4 m.bal)
    else (r, []))
  else (r, [])
def accA (m : Msg) : Ack := ⟨2, m.fr, m.bal, 0, 0, 0⟩
open Classical in
noncomputable def onAcd (r : Rpl) (m : Msg) : Rpl × List Out :=
  if m.kind = 4 ∧ hearsB r m = true ∧ ownI m.bal r.n = r.self ∧ findB r.entries m.id = true then
    (let e := findT r.entries m.id
    if openB e.phase = true ∧ e.bal = m.bal ∧ e.abal = m.bal ∧ ackB e (accA m) = true ∧ rputX r (ackR e (accA m)) = 0 then
      (let e := ackR e (accA m); let s := rputR r e
      if wonB e m.bal r.f = true then (if cmtB s e e.t = true then (cmtR s e e.t, allO (cmtR s e e.t) (tolM r e)) else (r, []))
      else (s, []))
    else (r, []))
  else (r, [])
open Classical in
noncomputable def onCmt (r : Rpl) (m : Msg) : Rpl × List Out :=
  if m.kind = 5 ∧ hearsB r m = true ∧ lrnB r m.id m.quorum m.payload = true then
    (let s := lrnR r m.id m.quorum m.payload; let e := lrnE r m.id m.quorum m.payload
    if settB e.phase = true then (s, [])
    else if cmtB s e m.t = true then (cmtR s e m.t, []) else (r, []))
  else (r, [])
open Classical in
noncomputable def onRef (r : Rpl) (m : Msg) : Rpl × List Out :=
  if m.kind = 8 ∧ hearsB r m = true ∧ findB r.entries m.id = true ∧ rputX r (hearE (findT r.entries m.id) m.bal) = 0 then (rputR r (hearE (findT r.entries m.id) m.bal), []) else (r, [])
end Go.Proofs.YtbjepdfnmbdplaaGreat
end
section
namespace Go.Proofs.YtbjepdfnmbdplaaGreat
open Go.RowKit
set_option linter.unusedSimpArgs false
set_option linter.unusedVariables false
set_option maxRecDepth 100000
set_option maxHeartbeats 1000000
theorem rng_last {l : List Rng} {i : Nat} (hi : i ≤ l.length) (h : prefTo rngP l i = true) : -1 ≤ lastI Rng.hi (-1) (l.take i) ∧ lastI Rng.hi (-1) (l.take i) ≤ 1000000 := by
  by_cases h0 : 0 < i
  · have h1 := rngP_iff.1 (prefTo_at h (show i - 1 < i by omega) (by omega))
    rw [lastI_pos Rng.hi (-1) hi h0]
    omega
  · obtain rfl : i = 0 := by omega
    rw [lastI_zero]
    omega
theorem rngB_bad {l : List Rng} {i : Nat} (h : i < l.length) (hq : rngP (l.take i) l[i] = false) : rngB l = false := by
  unfold rngB
  rw [pref_bad h hq, Bool.and_false]
theorem rngB_good {l : List Rng} {i : Nat} (h : ¬ i < l.length) (hi : i ≤ l.length) (hn : l.length ≤ 1000) (hp : prefTo rngP l i = true) : rngB l = true := by
  unfold rngB
  rw [pref_end (by omega) hi hp, decide_eq_true hn]
  rfl
theorem rngB_long {l : List Rng} (hn : ¬ l.length ≤ 1000) : rngB l = false := by
  unfold rngB
  rw [decide_eq_false hn]
  rfl
instance rngcheck_spec (l : List Rng) : HasSpec Tryz.prog 176 [PV.rngs l] (PV.int (errI (rngB l) 2)) := by
  by_cases hn : l.length ≤ 1000
  · refine ⟨Spec.bound 0 rfl fun hl => ?_⟩; rw [List.length_map] at hl; refine Spec.ofR (h := fun F w0 => ?_)
    repeat' ((conv => whnf); first | refine Q.E ?_ | (refine Stk.both (fun hb => ?_) (fun hb => ?_) <;> (try simp only [lE] at hb))); all_goals (conv => whnf)
    refine Stk.loop (ι := Nat) (fun i => [(3, PV.int (lastI Rng.hi (-1) (l.take i))), (9, PV.rngs l), (10, PV.int (l.length : Nat)), (11, PV.int (i : Nat))]) (fun _ => []) (fun i => i ≤ l.length ∧ prefTo rngP l i = true) (fun i => l.length - i) 0 ⟨Nat.zero_le _, rfl⟩ (Weak.gc ⟨rfl, rfl, rfl, rfl, trivial⟩ trivial rfl rfl rfl) (fun i hi => ?_)
    obtain ⟨hi, hp⟩ := hi
    have hb := rng_last hi hp
    by_cases hlt : i < l.length
    · have hs := lastI_succ Rng.hi (-1) hlt
      cases hq : rngP (l.take i) l[i] with
      | true =>
        have h := rngP_iff.1 hq
        generalize lastI Rng.hi (-1) (l.take i) = la at h hb ⊢
        repeat' ((conv => whnf); first | refine Q.E ?_ | (refine Stk.both (fun hb => ?_) (fun hb => ?_) <;> (try simp only [lE] at hb))); all_goals (conv => whnf)
        refine ⟨i + 1, ⟨by omega, prefTo_next hlt hp hq⟩, by omega, ?_⟩
        rw [hs]
        exact Weak.gc ⟨rfl, rfl, rfl, rfl, trivial⟩ trivial rfl rfl rfl
      | false =>
        have h := rngP_f.1 hq
        rw [rngB_bad hlt hq]
        generalize lastI Rng.hi (-1) (l.take i) = la at h hb ⊢
        repeat' ((conv => whnf); first | refine Q.E ?_ | (refine Stk.both (fun hb => ?_) (fun hb => ?_) <;> (try simp only [lE] at hb))); all_goals (conv => whnf)
        all_goals first | (exfalso; omega) | (refine Q.r6 (h := ?_); repeat' (first | exact Q.r0 | refine Q.r1 ?_ ?_ | refine Q.r2 ?_ | exact Q.r7 | refine Q.r3 ?_ | refine Q.r4 ?_ | refine Q.r5 ?_))
    · rw [rngB_good hlt hi hn hp]
      repeat' ((conv => whnf); first | refine Q.E ?_ | (refine Stk.both (fun hb => ?_) (fun hb => ?_) <;> (try simp only [lE] at hb))); all_goals (conv => whnf)
      (refine Q.r6 (h := ?_); repeat' (first | exact Q.r0 | refine Q.r1 ?_ ?_ | refine Q.r2 ?_ | exact Q.r7 | refine Q.r3 ?_ | refine Q.r4 ?_ | refine Q.r5 ?_))
  · rw [rngB_long hn]
    refine ⟨Spec.bound 0 rfl fun hl => ?_⟩; rw [List.length_map] at hl; refine Spec.ofR (h := fun F w0 => ?_)
    repeat' ((conv => whnf); first | refine Q.E ?_ | (refine Stk.both (fun hb => ?_) (fun hb => ?_) <;> (try simp only [lE] at hb))); all_goals (conv => whnf)
    (refine Q.r6 (h := ?_); repeat' (first | exact Q.r0 | refine Q.r1 ?_ ?_ | refine Q.r2 ?_ | exact Q.r7 | refine Q.r3 ?_ | refine Q.r4 ?_ | refine Q.r5 ?_))
theorem errI_is0 {b : Bool} {k : Int} (hk : k ≠ 0) : tst (errI b k = 0) = b := by
  cases b with
  | true => rw [tst_eq]; exact decide_eq_true rfl
  | false => rw [tst_eq]; exact decide_eq_false hk
instance rngmay_spec (l : List Rng) : HasSpec Tryz.prog 252 [PV.rngs l] (.v (.bool (rngB l))) := by
  have jc := rngcheck_spec l
  rw [← errI_is0 (b := rngB l) (k := 2) (by decide)]
  refine ⟨?_⟩; refine Spec.ofR (h := fun F w0 => ?_)
  repeat' ((conv => whnf); first | refine Q.E ?_ | (refine Stk.both (fun hb => ?_) (fun hb => ?_) <;> (try simp only [lE] at hb))); all_goals (conv => whnf)
  (refine Q.r6 (h := ?_); repeat' (first | exact Q.r0 | refine Q.r1 ?_ ?_ | refine Q.r2 ?_ | exact Q.r7 | refine Q.r3 ?_ | refine Q.r4 ?_ | refine Q.r5 ?_))
theorem rhas_no {l : List Rng} {n : Int} (h : rngB l = false) : rhasB l n = false := by unfold rhasB; rw [h]; rfl
theorem rhas_in {l : List Rng} {n : Int} (h : rngB l = true) : rhasB l n = l.any (inR n) := by unfold rhasB; rw [h]; rfl
theorem any_at {α : Type} {p : α → Bool} {l : List α} {i : Nat} (h : i < l.length) (h1 : p l[i] = true) : l.any p = true := List.any_eq_true.2 ⟨l[i], List.getElem_mem h, h1⟩
theorem any_none {α : Type} {p : α → Bool} {l : List α} {i : Nat} (h : ¬ i < l.length) (h1 : ∀ x ∈ l.take i, p x = false) : l.any p = false := List.any_eq_false.2 fun x hx => by rw [take_all (by omega) h1 x hx]; simp
instance rnghas_spec (l : List Rng) (n : Int) : HasSpec Tryz.prog 203 [PV.rngs l, PV.int n] (.v (.bool (rhasB l n))) := by
  have jm := rngmay_spec l
  cases hr : rngB l with
  | false =>
    rw [hr] at jm
    rw [rhas_no hr]
    refine ⟨Spec.bound 0 rfl fun hl => ?_⟩; rw [List.length_map] at hl; refine Spec.ofR (h := fun F w0 => ?_)
    repeat' ((conv => whnf); first | refine Q.E ?_ | (refine Stk.both (fun hb => ?_) (fun hb => ?_) <;> (try simp only [lE] at hb))); all_goals (conv => whnf)
    (refine Q.r6 (h := ?_); repeat' (first | exact Q.r0 | refine Q.r1 ?_ ?_ | refine Q.r2 ?_ | exact Q.r7 | refine Q.r3 ?_ | refine Q.r4 ?_ | refine Q.r5 ?_))
  | true =>
    rw [hr] at jm
    rw [rhas_in hr]
    refine ⟨Spec.bound 0 rfl fun hl => ?_⟩; rw [List.length_map] at hl; refine Spec.ofR (h := fun F w0 => ?_)
    repeat' ((conv => whnf); first | refine Q.a ?_ | refine Q.b ?_ | refine Q.c ?_ | refine Stk.is (by first | assumption | ((try simp only [lE]); first | done | assumption | omega)) ?_ | refine Stk.isnt (by first | assumption | ((try simp only [lE]); first | done | assumption | omega)) ?_ | (refine Stk.both (fun hb => ?_) (fun hb => ?_) <;> (try simp only [lE] at hb)) | refine Q.d ?_ | refine Q.e ?_ | refine Q.f ?_ | refine Q.g ?_ | refine Q.h ?_ | refine Q.i ?_ | refine Q.j ?_ | refine Q.k ?_ | refine Q.l ?_ | refine Q.m ?_ | refine Q.n ?_ | refine Q.o (h := ?_) | refine Q.p (h := ?_) | refine Q.q ?_ | refine Q.r ?_ | refine Q.s ?_ | refine Q.t ?_ | refine Q.u ?_ | refine Q.v ?_ | refine Q.w ?_ | refine Q.x ?_ | refine Q.y ?_ | refine Q.z ?_ | refine Stk.inl (h := fun tm => ?_) | refine Stk.inl0 (h := fun tm => ?_) | refine DefG.go (h := fun vs us => ?_) | intro (tm : Array Value) | refine Stk.op (ok_buildA rfl rfl rfl rfl) ?_ | refine Stk.scope ?_); all_goals (conv => whnf)
    refine Stk.loop (ι := Nat) (fun i => [(0, PV.rngs l), (1, .fn (.func 254) [] [.lp 3 0]), (7, PV.int (l.length : Nat)), (8, PV.int (i : Nat))]) (fun i => [(3, .box [PV.int n])]) (fun i => i ≤ l.length ∧ ∀ x ∈ l.take i, inR n x = false) (fun i => l.length - i) 0 ⟨Nat.zero_le _, by simp⟩ (Weak.gc ⟨rfl, rfl, rfl, rfl, trivial⟩ ⟨rfl, trivial⟩ rfl rfl rfl) (fun i hi => ?_)
    obtain ⟨hi, hno⟩ := hi
    by_cases hlt : i < l.length
    · cases hq : inR n l[i] with
      | true =>
        have h := inR_iff.1 hq
        rw [any_at hlt hq]
        repeat' ((conv => whnf); first | refine Q.a ?_ | refine Q.b ?_ | refine Q.c ?_ | refine Stk.is (by first | assumption | ((try simp only [lE]); first | done | assumption | omega)) ?_ | refine Stk.isnt (by first | assumption | ((try simp only [lE]); first | done | assumption | omega)) ?_ | (refine Stk.both (fun hb => ?_) (fun hb => ?_) <;> (try simp only [lE] at hb)) | refine Q.d ?_ | refine Q.e ?_ | refine Q.f ?_ | refine Q.g ?_ | refine Q.h ?_ | refine Q.i ?_ | refine Q.j ?_ | refine Q.k ?_ | refine Q.l ?_ | refine Q.m ?_ | refine Q.n ?_ | refine Q.o (h := ?_) | refine Q.p (h := ?_) | refine Q.q ?_ | refine Q.r ?_ | refine Q.s ?_ | refine Q.t ?_ | refine Q.u ?_ | refine Q.v ?_ | refine Q.w ?_ | refine Q.x ?_ | refine Q.y ?_ | refine Q.z ?_ | refine Stk.inl (h := fun tm => ?_) | refine Stk.inl0 (h := fun tm => ?_) | refine DefG.go (h := fun vs us => ?_) | intro (tm : Array Value) | refine Stk.op (ok_buildA rfl rfl rfl rfl) ?_ | refine Stk.scope ?_); all_goals (conv => whnf)
        (refine Q.r6 (h := ?_); repeat' (first | exact Q.r0 | refine Q.r1 ?_ ?_ | refine Q.r2 ?_ | exact Q.r7 | refine Q.r3 ?_ | refine Q.r4 ?_ | refine Q.r5 ?_))
        exact tst_true.2 (by omega)
      | false =>
        have h := inR_f.1 hq
        repeat' ((conv => whnf); first | refine Q.a ?_ | refine Q.b ?_ | refine Q.c ?_ | refine Stk.is (by first | assumption | ((try simp only [lE]); first | done | assumption | omega)) ?_ | refine Stk.isnt (by first | assumption | ((try simp only [lE]); first | done | assumption | omega)) ?_ | (refine Stk.both (fun hb => ?_) (fun hb => ?_) <;> (try simp only [lE] at hb)) | refine Q.d ?_ | refine Q.e ?_ | refine Q.f ?_ | refine Q.g ?_ | refine Q.h ?_ | refine Q.i ?_ | refine Q.j ?_ | refine Q.k ?_ | refine Q.l ?_ | refine Q.m ?_ | refine Q.n ?_ | refine Q.o (h := ?_) | refine Q.p (h := ?_) | refine Q.q ?_ | refine Q.r ?_ | refine Q.s ?_ | refine Q.t ?_ | refine Q.u ?_ | refine Q.v ?_ | refine Q.w ?_ | refine Q.x ?_ | refine Q.y ?_ | refine Q.z ?_ | refine Stk.inl (h := fun tm => ?_) | refine Stk.inl0 (h := fun tm => ?_) | refine DefG.go (h := fun vs us => ?_) | intro (tm : Array Value) | refine Stk.op (ok_buildA rfl rfl rfl rfl) ?_ | refine Stk.scope ?_); all_goals (conv => whnf)
        all_goals first | (exfalso; omega) | exact ⟨i + 1, ⟨by omega, take_no hlt hno hq⟩, by omega, Weak.gc ⟨rfl, rfl, rfl, rfl, trivial⟩ ⟨rfl, trivial⟩ rfl rfl rfl⟩
    · rw [any_none hlt hno]
      repeat' ((conv => whnf); first | refine Q.a ?_ | refine Q.b ?_ | refine Q.c ?_ | refine Stk.is (by first | assumption | ((try simp only [lE]); first | done | assumption | omega)) ?_ | refine Stk.isnt (by first | assumption | ((try simp only [lE]); first | done | assumption | omega)) ?_ | (refine Stk.both (fun hb => ?_) (fun hb => ?_) <;> (try simp only [lE] at hb)) | refine Q.d ?_ | refine Q.e ?_ | refine Q.f ?_ | refine Q.g ?_ | refine Q.h ?_ | refine Q.i ?_ | refine Q.j ?_ | refine Q.k ?_ | refine Q.l ?_ | refine Q.m ?_ | refine Q.n ?_ | refine Q.o (h := ?_) | refine Q.p (h := ?_) | refine Q.q ?_ | refine Q.r ?_ | refine Q.s ?_ | refine Q.t ?_ | refine Q.u ?_ | refine Q.v ?_ | refine Q.w ?_ | refine Q.x ?_ | refine Q.y ?_ | refine Q.z ?_ | refine Stk.inl (h := fun tm => ?_) | refine Stk.inl0 (h := fun tm => ?_) | refine DefG.go (h := fun vs us => ?_) | intro (tm : Array Value) | refine Stk.op (ok_buildA rfl rfl rfl rfl) ?_ | refine Stk.scope ?_); all_goals (conv => whnf)
      (refine Q.r6 (h := ?_); repeat' (first | exact Q.r0 | refine Q.r1 ?_ ?_ | refine Q.r2 ?_ | exact Q.r7 | refine Q.r3 ?_ | refine Q.r4 ?_ | refine Q.r5 ?_))
      exact tst_false.2 (by omega)
end Go.Proofs.YtbjepdfnmbdplaaGreat
end
section
namespace Go.Proofs.YtbjepdfnmbdplaaGreat
open Go.RowKit
set_option linter.unusedSimpArgs false
set_option linter.unusedVariables false
set_option maxRecDepth 100000
set_option maxHeartbeats 1000000
theorem att_last {lo hi : Int} {l : List Att} {i : Nat} (hi' : i ≤ l.length) (h : prefTo (attP lo hi) l i = true) : lo ≤ lastI Att.t lo (l.take i) ∧ (0 < i → lastI Att.t lo (l.take i) ≤ hi) := by
  by_cases h0 : 0 < i
  · have h1 := attP_iff.1 (prefTo_at h (show i - 1 < i by omega) (by omega))
    rw [lastI_pos Att.t lo hi' h0]
    omega
  · obtain rfl : i = 0 := by omega
    rw [lastI_zero]
    omega
theorem idchk_yes {id : Int} (h : idB id = true) : HasSpec Tryz.prog 178 [PV.int id] (PV.int 0) := by have := identcheck_spec id; rw [h] at this; exact this
theorem idchk_no {id : Int} (h : idB id = false) : HasSpec Tryz.prog 178 [PV.int id] (PV.int 31) := by have := identcheck_spec id; rw [h] at this; exact this
theorem self_pos {id : Int} (h : idB id = true) : 1 ≤ selfI id ∧ selfI id ≤ 9 := by
  have := idB_iff.1 h
  rw [show selfI id = id % 10 from if_pos h]
  omega
theorem self_none {id : Int} (h : idB id = false) : selfI id = 0 := if_neg (by rw [h]; simp)
instance rise_spec (l : List Att) (lo hi : Int) : HasSpec Tryz.prog 223 [PV.atts l, PV.int lo, PV.int hi] (.v (.bool (attB lo hi l))) := by
  refine ⟨Spec.bound 0 rfl fun hl => ?_⟩; rw [List.length_map] at hl; refine Spec.ofR (h := fun F w0 => ?_)
  repeat' ((conv => whnf); first | refine Q.E ?_ | (refine Stk.both (fun hb => ?_) (fun hb => ?_) <;> (try simp only [lE] at hb))); all_goals (conv => whnf)
  refine Stk.loop (ι := Nat) (fun i => [(2, PV.int hi), (7, PV.int (lastI Att.t lo (l.take i))), (11, PV.atts l), (12, PV.int (l.length : Nat)), (13, PV.int (i : Nat))]) (fun _ => []) (fun i => i ≤ l.length ∧ prefTo (attP lo hi) l i = true) (fun i => l.length - i) 0 ⟨Nat.zero_le _, rfl⟩ (Weak.gc ⟨rfl, rfl, rfl, rfl, rfl, trivial⟩ trivial rfl rfl rfl) (fun i hi' => ?_)
  obtain ⟨hi', hp⟩ := hi'
  have hb := (att_last hi' hp).1
  by_cases hlt : i < l.length
  · have hs := lastI_succ Att.t lo hlt
    cases hid : idB l[i].id with
    | false =>
      have ji := idchk_no hid
      rw [show attB lo hi l = false from pref_bad hlt (attP_f.2 fun h => by rw [hid] at h; exact absurd h.2.2.2 (by simp))]
      generalize lastI Att.t lo (l.take i) = la at *
      repeat' ((conv => whnf); first | refine Q.E ?_ | (refine Stk.both (fun hb => ?_) (fun hb => ?_) <;> (try simp only [lE] at hb))); all_goals (conv => whnf)
      all_goals (refine Q.r6 (h := ?_); repeat' (first | exact Q.r0 | refine Q.r1 ?_ ?_ | refine Q.r2 ?_ | exact Q.r7 | refine Q.r3 ?_ | refine Q.r4 ?_ | refine Q.r5 ?_))
    | true =>
      have ji := idchk_yes hid
      cases hq : attP lo hi (l.take i) l[i] with
      | true =>
        have h := attP_iff.1 hq
        have hp2 := prefTo_next hlt hp hq
        generalize lastI Att.t lo (l.take i) = la at h hb ⊢
        repeat' ((conv => whnf); first | refine Q.E ?_ | (refine Stk.both (fun hb => ?_) (fun hb => ?_) <;> (try simp only [lE] at hb))); all_goals (conv => whnf)
        refine ⟨i + 1, ⟨by omega, hp2⟩, by omega, ?_⟩
        rw [hs]
        exact Weak.gc ⟨rfl, rfl, rfl, rfl, rfl, trivial⟩ trivial rfl rfl rfl
      | false =>
        have h := attP_f.1 hq
        rw [show attB lo hi l = false from pref_bad hlt hq]
        generalize lastI Att.t lo (l.take i) = la at h hb ⊢
        repeat' ((conv => whnf); first | refine Q.E ?_ | (refine Stk.both (fun hb => ?_) (fun hb => ?_) <;> (try simp only [lE] at hb))); all_goals (conv => whnf)
        all_goals first | (exact absurd ⟨by omega, by omega, by omega, hid⟩ h) | (refine Q.r6 (h := ?_); repeat' (first | exact Q.r0 | refine Q.r1 ?_ ?_ | refine Q.r2 ?_ | exact Q.r7 | refine Q.r3 ?_ | refine Q.r4 ?_ | refine Q.r5 ?_))
  · rw [show attB lo hi l = true from pref_end (by omega) hi' hp]
    repeat' ((conv => whnf); first | refine Q.E ?_ | (refine Stk.both (fun hb => ?_) (fun hb => ?_) <;> (try simp only [lE] at hb))); all_goals (conv => whnf)
    (refine Q.r6 (h := ?_); repeat' (first | exact Q.r0 | refine Q.r1 ?_ ?_ | refine Q.r2 ?_ | exact Q.r7 | refine Q.r3 ?_ | refine Q.r4 ?_ | refine Q.r5 ?_))
end Go.Proofs.YtbjepdfnmbdplaaGreat
end
section
namespace Go.Proofs.YtbjepdfnmbdplaaGreat
open Go.RowKit
set_option linter.unusedSimpArgs false
set_option linter.unusedVariables false
set_option maxRecDepth 100000
set_option maxHeartbeats 1000000
theorem rck_yes {l : List Rng} (h : rngB l = true) : HasSpec Tryz.prog 176 [PV.rngs l] (PV.int 0) := by have := rngcheck_spec l; rw [h] at this; exact this
theorem rck_no {l : List Rng} (h : rngB l = false) : HasSpec Tryz.prog 176 [PV.rngs l] (PV.int 2) := by have := rngcheck_spec l; rw [h] at this; exact this
theorem rng_at {l : List Rng} (h : rngB l = true) {i : Nat} (hi : i < l.length) : 1 ≤ l[i].lo ∧ l[i].lo ≤ l[i].hi ∧ l[i].hi ≤ 1000000 := by
  unfold rngB at h
  rw [Bool.and_eq_true] at h
  have := rngP_iff.1 (pref_at h.2 hi)
  exact ⟨this.1, this.2.1, this.2.2.1⟩
theorem knoB_no1 {k : Kno} (h : ¬ (0 ≤ k.base ∧ k.base ≤ 1000000)) : knoB k = false := by unfold knoB; rw [decide_eq_false h]; rfl
theorem knoB_no2 {k : Kno} (h : rngB k.rs = false) : knoB k = false := by unfold knoB; rw [h]; simp
theorem knoB_no3 {k : Kno} (h : ¬ k.atts.length ≤ 400) : knoB k = false := by unfold knoB; rw [decide_eq_false h]; simp
theorem knoB_no4 {k : Kno} (h : attB k.base 1000000 k.atts = false) : knoB k = false := by unfold knoB; rw [h]; simp
theorem knoB_no5 {k : Kno} (h : hdB k.base k.rs = false) : knoB k = false := by unfold knoB; rw [h]; simp
theorem knoB_ok {k : Kno} (h1 : 0 ≤ k.base ∧ k.base ≤ 1000000) (h2 : rngB k.rs = true) (h3 : k.atts.length ≤ 400) (h4 : attB k.base 1000000 k.atts = true) (h5 : hdB k.base k.rs = true) : knoB k = !k.atts.any (inK k) := by unfold knoB; rw [decide_eq_true h1, h2, decide_eq_true h3, h4, h5]; rfl
instance knocheck_spec (k : Kno) : HasSpec Tryz.prog 171 [.agg k.cs] (PV.int (errI (knoB k) 2)) := by
  by_cases hb : 0 ≤ k.base ∧ k.base ≤ 1000000
  · cases hr : rngB k.rs with
    | false =>
      have jr := rck_no hr
      rw [knoB_no2 hr]
      refine ⟨?_⟩; refine Spec.ofR (h := fun F w0 => ?_)
      repeat' ((conv => whnf); first | refine Q.E ?_ | (refine Stk.both (fun hb => ?_) (fun hb => ?_) <;> (try simp only [lE] at hb))); all_goals (conv => whnf)
      all_goals (refine Q.r6 (h := ?_); repeat' (first | exact Q.r0 | refine Q.r1 ?_ ?_ | refine Q.r2 ?_ | exact Q.r7 | refine Q.r3 ?_ | refine Q.r4 ?_ | refine Q.r5 ?_))
    | true =>
      have jr := rck_yes hr
      by_cases h400 : k.atts.length ≤ 400
      · have ja := rise_spec k.atts k.base 1000000
        cases ha : attB k.base 1000000 k.atts with
        | false =>
          rw [ha] at ja
          rw [knoB_no4 ha]
          refine ⟨?_⟩; refine Spec.ofR (h := fun F w0 => ?_)
          repeat' ((conv => whnf); first | refine Q.E ?_ | (refine Stk.both (fun hb => ?_) (fun hb => ?_) <;> (try simp only [lE] at hb))); all_goals (conv => whnf)
          all_goals (refine Q.r6 (h := ?_); repeat' (first | exact Q.r0 | refine Q.r1 ?_ ?_ | refine Q.r2 ?_ | exact Q.r7 | refine Q.r3 ?_ | refine Q.r4 ?_ | refine Q.r5 ?_))
        | true =>
          rw [ha] at ja
          by_cases h0 : ((0 : Int).toNat) < k.rs.length
          · have hd := hdB_pos (b := k.base) h0
            have h0' : (0 : Int) < (k.rs.length : Nat) := by simp at h0; omega
            have hl1 := rng_at hr h0
            by_cases hlo : k.base + 1 < (k.rs[((0 : Int).toNat)]'h0).lo
            · rw [decide_eq_true hlo] at hd
              rw [knoB_ok hb hr h400 ha hd]
              refine ⟨?_⟩; refine Spec.ofR (h := fun F w0 => ?_)
              repeat' ((conv => whnf); first | refine Q.a ?_ | refine Q.b ?_ | refine Q.c ?_ | refine Stk.is (by first | assumption | ((try simp only [lE]); first | done | assumption | omega)) ?_ | refine Stk.isnt (by first | assumption | ((try simp only [lE]); first | done | assumption | omega)) ?_ | (refine Stk.both (fun hb => ?_) (fun hb => ?_) <;> (try simp only [lE] at hb)) | refine Q.d ?_ | refine Q.e ?_ | refine Q.f ?_ | refine Q.g ?_ | refine Q.h ?_ | refine Q.i ?_ | refine Q.j ?_ | refine Q.k ?_ | refine Q.l ?_ | refine Q.m ?_ | refine Q.n ?_ | refine Q.o (h := ?_) | refine Q.p (h := ?_) | refine Q.q ?_ | refine Q.r ?_ | refine Q.s ?_ | refine Q.t ?_ | refine Q.u ?_ | refine Q.v ?_ | refine Q.w ?_ | refine Q.x ?_ | refine Q.y ?_ | refine Q.z ?_ | refine Stk.inl (h := fun tm => ?_) | refine Stk.inl0 (h := fun tm => ?_) | refine DefG.go (h := fun vs us => ?_) | intro (tm : Array Value) | refine Stk.op (ok_buildA rfl rfl rfl rfl) ?_ | refine Stk.scope ?_); all_goals (conv => whnf)
              refine Stk.loop (ι := Nat) (fun i => [(0, PV.atts k.atts), (1, .fn (.func 224) [] [.lp 1 0]), (7, PV.int (k.atts.length : Nat)), (8, PV.int (i : Nat))]) (fun i => [(1, .box k.cs)]) (fun i => i ≤ k.atts.length ∧ ∀ x ∈ k.atts.take i, inK k x = false) (fun i => k.atts.length - i) 0 ⟨Nat.zero_le _, by simp⟩ (Weak.gc ⟨rfl, rfl, rfl, rfl, trivial⟩ ⟨rfl, trivial⟩ rfl rfl rfl) (fun i hi => ?_)
              obtain ⟨hi, hno⟩ := hi
              by_cases hlt : i < k.atts.length
              · have jh := rnghas_spec k.rs k.atts[i].t
                cases hq : inK k k.atts[i] with
                | true =>
                  rw [show rhasB k.rs k.atts[i].t = true from hq] at jh
                  rw [any_at hlt hq]
                  repeat' ((conv => whnf); first | refine Q.a ?_ | refine Q.b ?_ | refine Q.c ?_ | refine Stk.is (by first | assumption | ((try simp only [lE]); first | done | assumption | omega)) ?_ | refine Stk.isnt (by first | assumption | ((try simp only [lE]); first | done | assumption | omega)) ?_ | (refine Stk.both (fun hb => ?_) (fun hb => ?_) <;> (try simp only [lE] at hb)) | refine Q.d ?_ | refine Q.e ?_ | refine Q.f ?_ | refine Q.g ?_ | refine Q.h ?_ | refine Q.i ?_ | refine Q.j ?_ | refine Q.k ?_ | refine Q.l ?_ | refine Q.m ?_ | refine Q.n ?_ | refine Q.o (h := ?_) | refine Q.p (h := ?_) | refine Q.q ?_ | refine Q.r ?_ | refine Q.s ?_ | refine Q.t ?_ | refine Q.u ?_ | refine Q.v ?_ | refine Q.w ?_ | refine Q.x ?_ | refine Q.y ?_ | refine Q.z ?_ | refine Stk.inl (h := fun tm => ?_) | refine Stk.inl0 (h := fun tm => ?_) | refine DefG.go (h := fun vs us => ?_) | intro (tm : Array Value) | refine Stk.op (ok_buildA rfl rfl rfl rfl) ?_ | refine Stk.scope ?_); all_goals (conv => whnf)
                  (refine Q.r6 (h := ?_); repeat' (first | exact Q.r0 | refine Q.r1 ?_ ?_ | refine Q.r2 ?_ | exact Q.r7 | refine Q.r3 ?_ | refine Q.r4 ?_ | refine Q.r5 ?_))
                | false =>
                  rw [show rhasB k.rs k.atts[i].t = false from hq] at jh
                  repeat' ((conv => whnf); first | refine Q.a ?_ | refine Q.b ?_ | refine Q.c ?_ | refine Stk.is (by first | assumption | ((try simp only [lE]); first | done | assumption | omega)) ?_ | refine Stk.isnt (by first | assumption | ((try simp only [lE]); first | done | assumption | omega)) ?_ | (refine Stk.both (fun hb => ?_) (fun hb => ?_) <;> (try simp only [lE] at hb)) | refine Q.d ?_ | refine Q.e ?_ | refine Q.f ?_ | refine Q.g ?_ | refine Q.h ?_ | refine Q.i ?_ | refine Q.j ?_ | refine Q.k ?_ | refine Q.l ?_ | refine Q.m ?_ | refine Q.n ?_ | refine Q.o (h := ?_) | refine Q.p (h := ?_) | refine Q.q ?_ | refine Q.r ?_ | refine Q.s ?_ | refine Q.t ?_ | refine Q.u ?_ | refine Q.v ?_ | refine Q.w ?_ | refine Q.x ?_ | refine Q.y ?_ | refine Q.z ?_ | refine Stk.inl (h := fun tm => ?_) | refine Stk.inl0 (h := fun tm => ?_) | refine DefG.go (h := fun vs us => ?_) | intro (tm : Array Value) | refine Stk.op (ok_buildA rfl rfl rfl rfl) ?_ | refine Stk.scope ?_); all_goals (conv => whnf)
                  exact ⟨i + 1, ⟨by omega, take_no hlt hno hq⟩, by omega, Weak.gc ⟨rfl, rfl, rfl, rfl, trivial⟩ ⟨rfl, trivial⟩ rfl rfl rfl⟩
              · rw [any_none hlt hno]
                repeat' ((conv => whnf); first | refine Q.a ?_ | refine Q.b ?_ | refine Q.c ?_ | refine Stk.is (by first | assumption | ((try simp only [lE]); first | done | assumption | omega)) ?_ | refine Stk.isnt (by first | assumption | ((try simp only [lE]); first | done | assumption | omega)) ?_ | (refine Stk.both (fun hb => ?_) (fun hb => ?_) <;> (try simp only [lE] at hb)) | refine Q.d ?_ | refine Q.e ?_ | refine Q.f ?_ | refine Q.g ?_ | refine Q.h ?_ | refine Q.i ?_ | refine Q.j ?_ | refine Q.k ?_ | refine Q.l ?_ | refine Q.m ?_ | refine Q.n ?_ | refine Q.o (h := ?_) | refine Q.p (h := ?_) | refine Q.q ?_ | refine Q.r ?_ | refine Q.s ?_ | refine Q.t ?_ | refine Q.u ?_ | refine Q.v ?_ | refine Q.w ?_ | refine Q.x ?_ | refine Q.y ?_ | refine Q.z ?_ | refine Stk.inl (h := fun tm => ?_) | refine Stk.inl0 (h := fun tm => ?_) | refine DefG.go (h := fun vs us => ?_) | intro (tm : Array Value) | refine Stk.op (ok_buildA rfl rfl rfl rfl) ?_ | refine Stk.scope ?_); all_goals (conv => whnf)
                (refine Q.r6 (h := ?_); repeat' (first | exact Q.r0 | refine Q.r1 ?_ ?_ | refine Q.r2 ?_ | exact Q.r7 | refine Q.r3 ?_ | refine Q.r4 ?_ | refine Q.r5 ?_))
            · rw [decide_eq_false hlo] at hd
              rw [knoB_no5 hd]
              have hlo2 : (k.rs[((0 : Int).toNat)]'h0).lo ≤ k.base + 1 := by omega
              refine ⟨?_⟩; refine Spec.ofR (h := fun F w0 => ?_)
              repeat' ((conv => whnf); first | refine Q.E ?_ | (refine Stk.both (fun hb => ?_) (fun hb => ?_) <;> (try simp only [lE] at hb))); all_goals (conv => whnf)
              (refine Q.r6 (h := ?_); repeat' (first | exact Q.r0 | refine Q.r1 ?_ ?_ | refine Q.r2 ?_ | exact Q.r7 | refine Q.r3 ?_ | refine Q.r4 ?_ | refine Q.r5 ?_))
          · have hz : k.rs.length = 0 := by simp at h0; simp [h0]
            rw [knoB_ok hb hr h400 ha (hdB_zero hz)]
            have h0' : ¬ (0 : Int) < (k.rs.length : Nat) := by omega
            refine ⟨?_⟩; refine Spec.ofR (h := fun F w0 => ?_)
            repeat' ((conv => whnf); first | refine Q.a ?_ | refine Q.b ?_ | refine Q.c ?_ | refine Stk.is (by first | assumption | ((try simp only [lE]); first | done | assumption | omega)) ?_ | refine Stk.isnt (by first | assumption | ((try simp only [lE]); first | done | assumption | omega)) ?_ | (refine Stk.both (fun hb => ?_) (fun hb => ?_) <;> (try simp only [lE] at hb)) | refine Q.d ?_ | refine Q.e ?_ | refine Q.f ?_ | refine Q.g ?_ | refine Q.h ?_ | refine Q.i ?_ | refine Q.j ?_ | refine Q.k ?_ | refine Q.l ?_ | refine Q.m ?_ | refine Q.n ?_ | refine Q.o (h := ?_) | refine Q.p (h := ?_) | refine Q.q ?_ | refine Q.r ?_ | refine Q.s ?_ | refine Q.t ?_ | refine Q.u ?_ | refine Q.v ?_ | refine Q.w ?_ | refine Q.x ?_ | refine Q.y ?_ | refine Q.z ?_ | refine Stk.inl (h := fun tm => ?_) | refine Stk.inl0 (h := fun tm => ?_) | refine DefG.go (h := fun vs us => ?_) | intro (tm : Array Value) | refine Stk.op (ok_buildA rfl rfl rfl rfl) ?_ | refine Stk.scope ?_); all_goals (conv => whnf)
            refine Stk.loop (ι := Nat) (fun i => [(0, PV.atts k.atts), (1, .fn (.func 224) [] [.lp 1 0]), (7, PV.int (k.atts.length : Nat)), (8, PV.int (i : Nat))]) (fun i => [(1, .box k.cs)]) (fun i => i ≤ k.atts.length ∧ ∀ x ∈ k.atts.take i, inK k x = false) (fun i => k.atts.length - i) 0 ⟨Nat.zero_le _, by simp⟩ (Weak.gc ⟨rfl, rfl, rfl, rfl, trivial⟩ ⟨rfl, trivial⟩ rfl rfl rfl) (fun i hi => ?_)
            obtain ⟨hi, hno⟩ := hi
            by_cases hlt : i < k.atts.length
            · have jh := rnghas_spec k.rs k.atts[i].t
              cases hq : inK k k.atts[i] with
              | true =>
                rw [show rhasB k.rs k.atts[i].t = true from hq] at jh
                rw [any_at hlt hq]
                repeat' ((conv => whnf); first | refine Q.a ?_ | refine Q.b ?_ | refine Q.c ?_ | refine Stk.is (by first | assumption | ((try simp only [lE]); first | done | assumption | omega)) ?_ | refine Stk.isnt (by first | assumption | ((try simp only [lE]); first | done | assumption | omega)) ?_ | (refine Stk.both (fun hb => ?_) (fun hb => ?_) <;> (try simp only [lE] at hb)) | refine Q.d ?_ | refine Q.e ?_ | refine Q.f ?_ | refine Q.g ?_ | refine Q.h ?_ | refine Q.i ?_ | refine Q.j ?_ | refine Q.k ?_ | refine Q.l ?_ | refine Q.m ?_ | refine Q.n ?_ | refine Q.o (h := ?_) | refine Q.p (h := ?_) | refine Q.q ?_ | refine Q.r ?_ | refine Q.s ?_ | refine Q.t ?_ | refine Q.u ?_ | refine Q.v ?_ | refine Q.w ?_ | refine Q.x ?_ | refine Q.y ?_ | refine Q.z ?_ | refine Stk.inl (h := fun tm => ?_) | refine Stk.inl0 (h := fun tm => ?_) | refine DefG.go (h := fun vs us => ?_) | intro (tm : Array Value) | refine Stk.op (ok_buildA rfl rfl rfl rfl) ?_ | refine Stk.scope ?_); all_goals (conv => whnf)
                (refine Q.r6 (h := ?_); repeat' (first | exact Q.r0 | refine Q.r1 ?_ ?_ | refine Q.r2 ?_ | exact Q.r7 | refine Q.r3 ?_ | refine Q.r4 ?_ | refine Q.r5 ?_))
              | false =>
                rw [show rhasB k.rs k.atts[i].t = false from hq] at jh
                repeat' ((conv => whnf); first | refine Q.a ?_ | refine Q.b ?_ | refine Q.c ?_ | refine Stk.is (by first | assumption | ((try simp only [lE]); first | done | assumption | omega)) ?_ | refine Stk.isnt (by first | assumption | ((try simp only [lE]); first | done | assumption | omega)) ?_ | (refine Stk.both (fun hb => ?_) (fun hb => ?_) <;> (try simp only [lE] at hb)) | refine Q.d ?_ | refine Q.e ?_ | refine Q.f ?_ | refine Q.g ?_ | refine Q.h ?_ | refine Q.i ?_ | refine Q.j ?_ | refine Q.k ?_ | refine Q.l ?_ | refine Q.m ?_ | refine Q.n ?_ | refine Q.o (h := ?_) | refine Q.p (h := ?_) | refine Q.q ?_ | refine Q.r ?_ | refine Q.s ?_ | refine Q.t ?_ | refine Q.u ?_ | refine Q.v ?_ | refine Q.w ?_ | refine Q.x ?_ | refine Q.y ?_ | refine Q.z ?_ | refine Stk.inl (h := fun tm => ?_) | refine Stk.inl0 (h := fun tm => ?_) | refine DefG.go (h := fun vs us => ?_) | intro (tm : Array Value) | refine Stk.op (ok_buildA rfl rfl rfl rfl) ?_ | refine Stk.scope ?_); all_goals (conv => whnf)
                exact ⟨i + 1, ⟨by omega, take_no hlt hno hq⟩, by omega, Weak.gc ⟨rfl, rfl, rfl, rfl, trivial⟩ ⟨rfl, trivial⟩ rfl rfl rfl⟩
            · rw [any_none hlt hno]
              repeat' ((conv => whnf); first | refine Q.a ?_ | refine Q.b ?_ | refine Q.c ?_ | refine Stk.is (by first | assumption | ((try simp only [lE]); first | done | assumption | omega)) ?_ | refine Stk.isnt (by first | assumption | ((try simp only [lE]); first | done | assumption | omega)) ?_ | (refine Stk.both (fun hb => ?_) (fun hb => ?_) <;> (try simp only [lE] at hb)) | refine Q.d ?_ | refine Q.e ?_ | refine Q.f ?_ | refine Q.g ?_ | refine Q.h ?_ | refine Q.i ?_ | refine Q.j ?_ | refine Q.k ?_ | refine Q.l ?_ | refine Q.m ?_ | refine Q.n ?_ | refine Q.o (h := ?_) | refine Q.p (h := ?_) | refine Q.q ?_ | refine Q.r ?_ | refine Q.s ?_ | refine Q.t ?_ | refine Q.u ?_ | refine Q.v ?_ | refine Q.w ?_ | refine Q.x ?_ | refine Q.y ?_ | refine Q.z ?_ | refine Stk.inl (h := fun tm => ?_) | refine Stk.inl0 (h := fun tm => ?_) | refine DefG.go (h := fun vs us => ?_) | intro (tm : Array Value) | refine Stk.op (ok_buildA rfl rfl rfl rfl) ?_ | refine Stk.scope ?_); all_goals (conv => whnf)
              (refine Q.r6 (h := ?_); repeat' (first | exact Q.r0 | refine Q.r1 ?_ ?_ | refine Q.r2 ?_ | exact Q.r7 | refine Q.r3 ?_ | refine Q.r4 ?_ | refine Q.r5 ?_))
      · rw [knoB_no3 h400]
        refine ⟨?_⟩; refine Spec.ofR (h := fun F w0 => ?_)
        repeat' ((conv => whnf); first | refine Q.E ?_ | (refine Stk.both (fun hb => ?_) (fun hb => ?_) <;> (try simp only [lE] at hb))); all_goals (conv => whnf)
        all_goals (refine Q.r6 (h := ?_); repeat' (first | exact Q.r0 | refine Q.r1 ?_ ?_ | refine Q.r2 ?_ | exact Q.r7 | refine Q.r3 ?_ | refine Q.r4 ?_ | refine Q.r5 ?_))
  · rw [knoB_no1 hb]
    refine ⟨?_⟩; refine Spec.ofR (h := fun F w0 => ?_)
    repeat' ((conv => whnf); first | refine Q.E ?_ | (refine Stk.both (fun hb => ?_) (fun hb => ?_) <;> (try simp only [lE] at hb))); all_goals (conv => whnf)
    all_goals first | (exfalso; omega) | (refine Q.r6 (h := ?_); repeat' (first | exact Q.r0 | refine Q.r1 ?_ ?_ | refine Q.r2 ?_ | exact Q.r7 | refine Q.r3 ?_ | refine Q.r4 ?_ | refine Q.r5 ?_))
end Go.Proofs.YtbjepdfnmbdplaaGreat
end
