/- Plain words for commands and answers, as they are at a replica. -/
import Derived.Test.YtlicjlahnbebcaaS06
namespace Go.Proofs.Ytlicjlahnbebcaa
set_option linter.unusedSectionVars false
open Go.RowKit
set_option linter.unusedSimpArgs false
set_option linter.unusedVariables false
structure Ack where
  kind : Int
  fr : Int
  bal : Int
  t : Int
  abal : Int
  phase : Int
deriving DecidableEq
def Ack.cs (a : Ack) : List PV := [PV.int a.kind, PV.int a.fr, PV.int a.bal, PV.int a.t, PV.int a.abal, PV.int a.phase]
structure Ent where
  id : Int
  phase : Int
  quorum : Int
  t : Int
  bal : Int
  abal : Int
  seen : Int
  age : Int
  payload : ByteArray
  acks : List Ack
def Ent.cs (e : Ent) : List PV := [PV.int e.id, PV.int e.phase, PV.int e.quorum, PV.int e.t, PV.int e.bal, PV.int e.abal, PV.int e.seen, PV.int e.age, .v (.string e.payload), .sl 6 (e.acks.map Ack.cs)]
def Ent.zero : Ent := ⟨0, 0, 0, 0, 0, 0, 0, 0, ⟨#[]⟩, []⟩
def within (n top : Int) : Bool := decide (0 ≤ n ∧ n ≤ top)
theorem within_iff {n top : Int} : within n top = true ↔ 0 ≤ n ∧ n ≤ top := by unfold within; exact decide_eq_true_iff
/-- Numbers of commands. -/
def idB (id : Int) : Bool := decide (11 ≤ id ∧ id ≤ 999999 ∧ id % 10 ≠ 0)
theorem idB_iff {id : Int} : idB id = true ↔ 11 ≤ id ∧ id ≤ 999999 ∧ id % 10 ≠ 0 := by unfold idB; exact decide_eq_true_iff
def selfI (id : Int) : Int := if idB id then id % 10 else 0
def seqI (id : Int) : Int := if idB id then id / 10 else 0
/-- Phases. -/
def phB (p : Int) : Bool := decide (0 ≤ p ∧ p ≤ 6)
def openB (p : Int) : Bool := decide (1 ≤ p ∧ p ≤ 4)
def settB (p : Int) : Bool := decide (p = 5 ∨ p = 6)
def propB (p : Int) : Bool := decide (2 ≤ p ∧ p ≤ 4)
theorem phB_iff {p : Int} : phB p = true ↔ 0 ≤ p ∧ p ≤ 6 := by unfold phB; exact decide_eq_true_iff
theorem openB_iff {p : Int} : openB p = true ↔ 1 ≤ p ∧ p ≤ 4 := by unfold openB; exact decide_eq_true_iff
theorem settB_iff {p : Int} : settB p = true ↔ (p = 5 ∨ p = 6) := by unfold settB; exact decide_eq_true_iff
theorem propB_iff {p : Int} : propB p = true ↔ 2 ≤ p ∧ p ≤ 4 := by unfold propB; exact decide_eq_true_iff
/-- Answers. -/
def ansB (a : Ack) : Bool := decide (1 ≤ a.kind ∧ a.kind ≤ 3 ∧ 1 ≤ a.fr ∧ a.fr ≤ 9 ∧ 0 ≤ a.t ∧ a.t ≤ 1000000 ∧ 0 ≤ a.bal ∧ a.bal ≤ 1000000 ∧ 0 ≤ a.abal ∧ a.abal ≤ 1000000 ∧ 0 ≤ a.phase ∧ a.phase ≤ 6)
theorem ansB_iff {a : Ack} : ansB a = true ↔ 1 ≤ a.kind ∧ a.kind ≤ 3 ∧ 1 ≤ a.fr ∧ a.fr ≤ 9 ∧ 0 ≤ a.t ∧ a.t ≤ 1000000 ∧ 0 ≤ a.bal ∧ a.bal ≤ 1000000 ∧ 0 ≤ a.abal ∧ a.abal ≤ 1000000 ∧ 0 ≤ a.phase ∧ a.phase ≤ 6 := by unfold ansB; exact decide_eq_true_iff
/-- The question that an answer answers. -/
def Ack.q (a : Ack) : Int × Int × Int := (a.kind, a.fr, a.bal)
def sameQ (q : Int × Int × Int) (a : Ack) : Bool := decide (a.q = q)
def hadB (l : List Ack) (a : Ack) : Bool := l.any (sameQ a.q)
def acksTo (l : List Ack) (n : Nat) : Bool := (List.range n).all fun i => match l[i]? with
  | some a => ansB a && !hadB (l.take i) a
  | none => true
def acksB (l : List Ack) : Bool := acksTo l l.length && decide (l.length ≤ 27)
theorem acksTo_succ (l : List Ack) (n : Nat) (h : n < l.length) : acksTo l (n + 1) = (acksTo l n && (ansB l[n] && !hadB (l.take n) l[n])) := by
  unfold acksTo
  rw [List.range_succ, List.all_append]
  simp [List.getElem?_eq_getElem h]
theorem acksB_no {l : List Ack} {i : Nat} (h : i < l.length) (hx : ansB l[i] = false ∨ hadB (l.take i) l[i] = true) : acksB l = false := by
  have : acksTo l l.length = false := by
    unfold acksTo
    rw [List.all_eq_false]
    refine ⟨i, List.mem_range.2 h, ?_⟩
    rw [List.getElem?_eq_getElem h]
    rcases hx with hx | hx <;> simp [hx]
  unfold acksB
  rw [this]
  rfl
theorem acksTo_next {l : List Ack} {i : Nat} (h : i < l.length) (h0 : acksTo l i = true) (h1 : ansB l[i] = true) (h2 : hadB (l.take i) l[i] = false) : acksTo l (i + 1) = true := by
  rw [acksTo_succ l i h, h0, h1, h2]
  rfl
theorem acksB_end {l : List Ack} {i : Nat} (hi : i = l.length) (h : acksTo l i = true) : tst ((l.length : Int) ≤ 27) = acksB l := by
  subst hi
  unfold acksB
  rw [h, Bool.true_and, tst_eq, decide_eq_decide]
  omega
def numB (e : Ent) : Bool := decide (0 ≤ e.t ∧ e.t ≤ 1000000 ∧ 0 ≤ e.bal ∧ e.bal ≤ 1000000 ∧ 0 ≤ e.abal ∧ e.abal ≤ e.bal ∧ 0 ≤ e.seen ∧ e.seen ≤ 1000000 ∧ 0 ≤ e.age ∧ e.age ≤ 1000000)
theorem numB_iff {e : Ent} : numB e = true ↔ 0 ≤ e.t ∧ e.t ≤ 1000000 ∧ 0 ≤ e.bal ∧ e.bal ≤ 1000000 ∧ 0 ≤ e.abal ∧ e.abal ≤ e.bal ∧ 0 ≤ e.seen ∧ e.seen ≤ 1000000 ∧ 0 ≤ e.age ∧ e.age ≤ 1000000 := by unfold numB; exact decide_eq_true_iff
def toldB (e : Ent) : Bool := decide ((2 ≤ e.phase ∧ e.phase ≤ 4 ∨ e.phase = 5 ∨ e.phase = 6 ∨ 0 < e.abal ↔ 0 < e.t) ∧ (0 < e.abal ∨ e.phase = 5 ∨ e.phase = 6 ∨ (0 < e.bal ↔ e.phase = 3 ∨ e.phase = 4)))
theorem toldB_iff {e : Ent} : toldB e = true ↔ ((2 ≤ e.phase ∧ e.phase ≤ 4 ∨ e.phase = 5 ∨ e.phase = 6 ∨ 0 < e.abal ↔ 0 < e.t) ∧ (0 < e.abal ∨ e.phase = 5 ∨ e.phase = 6 ∨ (0 < e.bal ↔ e.phase = 3 ∨ e.phase = 4))) := by unfold toldB; exact decide_eq_true_iff
/-- A command that may be. -/
def entB (e : Ent) : Bool := idB e.id && decide (1 ≤ e.phase ∧ e.phase ≤ 6) && mayB e.quorum && decide (e.quorum ≠ 0) && decide (e.payload.size ≤ 300) && numB e && toldB e && acksB e.acks && (decide (e.phase < 5) || e.acks.isEmpty)
def Ent.ack (e : Ent) (a : Ack) : Ent := { e with acks := e.acks ++ [a] }
def ackB (e : Ent) (a : Ack) : Bool := entB e && decide (e.phase < 5) && ansB a && decide (e.acks.length < 27) && !hadB e.acks a
def ackR (e : Ent) (a : Ack) : Ent := if ackB e a then e.ack a else e
def Ent.new (id quorum : Int) (p : ByteArray) : Ent := ⟨id, 1, quorum, 0, 0, 0, 0, 0, p, []⟩
def newR (id quorum : Int) (p : ByteArray) : Ent := if entB (.new id quorum p) then .new id quorum p else .zero
def ofL (l : List Ack) (kind bal : Int) : List Ack := l.filter fun a => decide (a.kind = kind ∧ a.bal = bal)
def whoN (e : Ent) (kind bal : Int) : Nat := orN ((ofL e.acks kind bal).map Ack.fr)
def Ent.clear (e : Ent) : Ent := { e with acks := [] }
def Ent.same (a b : Ent) : Bool := decide (a.id = b.id ∧ a.phase = b.phase ∧ a.quorum = b.quorum ∧ a.t = b.t ∧ a.bal = b.bal ∧ a.abal = b.abal ∧ a.seen = b.seen ∧ a.age = b.age ∧ a.payload = b.payload ∧ a.acks = b.acks)
theorem Ent.same_iff {a b : Ent} : a.same b = true ↔ a = b := by
  unfold Ent.same
  rw [decide_eq_true_iff]
  cases a; cases b
  simp
theorem or_any (l : List Int) (r : Int) : bitI .or .i64 (orN l : Nat) (orN [r] : Nat) = (orN (l ++ [r]) : Nat) := by
  cases hr : replB r with
  | true =>
    have := replB_iff.1 hr
    exact or_more l r (by omega) (by omega)
  | false =>
    have h1 : orN [r] = 0 := by
      have := orN_snoc [] r
      rw [List.nil_append, hr] at this
      exact this
    rw [orN_snoc, hr, h1]
    have := i64_or_nat (orN l) 0 (by have := orN_lt l; omega) (by omega)
    rw [this]
    simp
theorem Ack.eq_list (a b : Ack) : ([a.kind, a.fr, a.bal, a.t, a.abal, a.phase] = [b.kind, b.fr, b.bal, b.t, b.abal, b.phase]) = (a = b) := by
  cases a; cases b
  simp
theorem cnt_any (q : Nat) (h : q < 512) (h0 : q ≠ 0) : (listS q 9).length ≠ 0 := by
  intro e
  have e := List.eq_nil_of_length_eq_zero e
  have hb : ∀ r : Nat, r < 9 → q.testBit r = false := by
    intro r hr
    have : hasB (q : Int) ((r : Int) + 1) = false := by
      cases hx : hasB (q : Int) ((r : Int) + 1) with
      | false => rfl
      | true =>
        have hm : (r : Int) + 1 ∈ listS q 9 := by
          unfold listS
          rw [List.mem_filter]
          exact ⟨List.mem_map.2 ⟨r, List.mem_range.2 hr, rfl⟩, hx⟩
        rw [e] at hm
        cases hm
    unfold hasB bitB at this
    rw [show mayB (q : Int) = true from mayB_iff.2 (by omega), replB_iff.2 (by omega)] at this
    simp only [Bool.true_and, show ((r : Int) + 1 - 1).toNat = r from by omega] at this
    rw [Nat.testBit_eq_decide_div_mod_eq]
    have e2 : (q : Int) / 2 ^ r = ((q / 2 ^ r : Nat) : Int) := by rw [Int.natCast_ediv, Int.natCast_pow]; rfl
    rw [e2] at this
    rw [decide_eq_false_iff_not] at this ⊢
    omega
  apply h0
  apply Nat.eq_of_testBit_eq
  intro r
  rw [Nat.zero_testBit]
  by_cases hr : r < 9
  · exact hb r hr
  · exact Nat.testBit_lt_two_pow (Nat.lt_of_lt_of_le h (show 2 ^ 9 ≤ 2 ^ r from Nat.pow_le_pow_right (by decide) (by omega)))
theorem cnt_zero (q : Int) : (((listS q 9).length : Int) = 0) = ¬ (1 ≤ q ∧ q ≤ 511) := by
  refine propext ⟨fun h hq => ?_, fun h => ?_⟩
  · obtain ⟨n, rfl⟩ := Int.eq_ofNat_of_zero_le (show 0 ≤ q by omega)
    exact cnt_any n (by omega) (by omega) (by omega)
  · by_cases h0 : q = 0
    · subst h0
      have : (listS 0 9).length = 0 := by decide +kernel
      rw [this]; rfl
    · have hm : mayB q = false := by
        cases e : mayB q with
        | false => rfl
        | true => have := mayB_iff.1 e; omega
      rw [listS_no hm]
      rfl
theorem entB_iff {e : Ent} : entB e = true ↔ idB e.id = true ∧ 1 ≤ e.phase ∧ e.phase ≤ 6 ∧ 1 ≤ e.quorum ∧ e.quorum ≤ 511 ∧ e.payload.size ≤ 300 ∧ numB e = true ∧ toldB e = true ∧ acksB e.acks = true ∧ (e.phase < 5 ∨ e.acks.length = 0) := by
  unfold entB
  simp only [Bool.and_eq_true, Bool.or_eq_true, decide_eq_true_eq, mayB_iff, List.isEmpty_iff, List.length_eq_zero_iff]
  constructor
  · rintro ⟨⟨⟨⟨⟨⟨⟨⟨a, b⟩, c⟩, d⟩, e⟩, f⟩, g⟩, h⟩, i⟩
    exact ⟨a, b.1, b.2, by omega, by omega, e, f, g, h, i⟩
  · rintro ⟨a, b, c, d, d', e, f, g, h, i⟩
    exact ⟨⟨⟨⟨⟨⟨⟨⟨a, b, c⟩, by omega, by omega⟩, by omega⟩, e⟩, f⟩, g⟩, h⟩, i⟩
theorem entB_not {e : Ent} (h : ¬ (idB e.id = true ∧ 1 ≤ e.phase ∧ e.phase ≤ 6 ∧ 1 ≤ e.quorum ∧ e.quorum ≤ 511 ∧ e.payload.size ≤ 300 ∧ numB e = true ∧ toldB e = true ∧ acksB e.acks = true ∧ (e.phase < 5 ∨ e.acks.length = 0))) : entB e = false := by
  cases e' : entB e with
  | false => rfl
  | true => exact absurd (entB_iff.1 e') h
theorem sameQ_iff {a x : Ack} : sameQ a.q x = true ↔ x.kind = a.kind ∧ x.fr = a.fr ∧ x.bal = a.bal := by
  unfold sameQ Ack.q
  rw [decide_eq_true_iff]
  simp
theorem sameQ_no {a x : Ack} (h : ¬ (x.kind = a.kind ∧ x.fr = a.fr ∧ x.bal = a.bal)) : sameQ a.q x = false := by
  cases e : sameQ a.q x with
  | false => rfl
  | true => exact absurd (sameQ_iff.1 e) h
theorem had_yes {l : List Ack} {a : Ack} {i : Nat} (h : i < l.length) (h1 : l[i].kind = a.kind ∧ l[i].fr = a.fr ∧ l[i].bal = a.bal) : hadB l a = true := List.any_eq_true.2 ⟨l[i], List.getElem_mem _, sameQ_iff.2 h1⟩
theorem had_no {l : List Ack} {a : Ack} (h : ∀ x ∈ l, sameQ a.q x = false) : hadB l a = false := by
  unfold hadB
  rw [List.any_eq_false]
  intro x hx
  rw [h x hx]
  simp
theorem ofL_succ (l : List Ack) (k b : Int) (i : Nat) (h : i < l.length) : ofL (l.take (i + 1)) k b = if l[i].kind = k ∧ l[i].bal = b then ofL (l.take i) k b ++ [l[i]] else ofL (l.take i) k b := by
  unfold ofL
  rw [take_snoc' l i h, List.filter_append, List.filter_cons, List.filter_nil]
  by_cases hc : l[i].kind = k ∧ l[i].bal = b
  · rw [if_pos hc, if_pos (by simpa using hc)]
  · rw [if_neg hc, if_neg (by simpa using hc), List.append_nil]
theorem ofL_len (l : List Ack) (k b : Int) (i : Nat) : (ofL (l.take i) k b).length ≤ i := Nat.le_trans (List.length_filter_le _ _) (List.length_take_le _ _)
theorem take_eqA {a b : List Ack} {i : Nat} (h : a.take i = b.take i) (ha : i < a.length) (hb : i < b.length) (e : a[i] = b[i]) : a.take (i + 1) = b.take (i + 1) := by
  rw [take_snoc' a i ha, take_snoc' b i hb, h, e]
theorem lD0 : (∀ n t : Int, (within n t = true) = (0 ≤ n ∧ n ≤ t)) ∧ (∀ n t : Int, (within n t = false) = ¬ (0 ≤ n ∧ n ≤ t)) ∧ (∀ p : Int, (openB p = true) = (1 ≤ p ∧ p ≤ 4)) ∧ (∀ p : Int, (openB p = false) = ¬ (1 ≤ p ∧ p ≤ 4)) ∧ (∀ p : Int, (settB p = true) = (p = 5 ∨ p = 6)) ∧ (∀ p : Int, (settB p = false) = ¬ (p = 5 ∨ p = 6)) ∧ (∀ p : Int, (propB p = true) = (2 ≤ p ∧ p ≤ 4)) ∧ (∀ p : Int, (propB p = false) = ¬ (2 ≤ p ∧ p ≤ 4)) ∧ (∀ b : Bool, (errI b 31 = 0) = (b = true)) ∧ (∀ b : Bool, (errI b 33 = 0) = (b = true)) ∧ (∀ b : Bool, (0 = errI b 33) = (b = true)) ∧ (∀ b : Bool, (0 = errI b 31) = (b = true)) ∧ (∀ p : Int, (phB p = true) = (0 ≤ p ∧ p ≤ 6)) ∧ (∀ p : Int, (phB p = false) = ¬ (0 ≤ p ∧ p ≤ 6)) ∧ (∀ b : Bool, (true == b) = b) ∧ (∀ b : Bool, (b == true) = b) ∧ (∀ b : Bool, (false == b) = !b) ∧ (∀ b : Bool, (b == false) = !b) ∧ (∀ p q : Prop, (tst p == tst q) = tst (p ↔ q)) ∧ (∀ a b : Ack, ([a.kind, a.fr, a.bal, a.t, a.abal, a.phase] = [b.kind, b.fr, b.bal, b.t, b.abal, b.phase]) = (a = b)) ∧ (∀ q : Int, (((listS q 9).length : Int) = 0) = ¬ (1 ≤ q ∧ q ≤ 511)) := by
  have F : ∀ {b : Bool} {p : Prop}, (b = true ↔ p) → (b = false) = ¬ p := fun {b p} h => propext (by rw [← h]; cases b <;> simp)
  refine ⟨fun _ _ => propext within_iff, fun _ _ => F within_iff, fun _ => propext openB_iff, fun _ => F openB_iff, fun _ => propext settB_iff, fun _ => F settB_iff, fun _ => propext propB_iff, fun _ => F propB_iff, fun b => ?_, fun b => ?_, fun b => ?_, fun b => ?_, fun _ => propext phB_iff, fun _ => F phB_iff, fun b => ?_, fun b => ?_, fun b => ?_, fun b => ?_, fun p q => ?_, Ack.eq_list, cnt_zero⟩
  all_goals first | (cases b <;> simp [errI]; done) | skip
  rw [Bool.eq_iff_iff, tst_true]
  by_cases hp : p <;> by_cases hq : q <;> simp [tst_eq, hp, hq]
theorem lD : ((∀ n t : Int, (within n t = true) = (0 ≤ n ∧ n ≤ t)) ∧ (∀ n t : Int, (within n t = false) = ¬ (0 ≤ n ∧ n ≤ t)) ∧ (∀ p : Int, (openB p = true) = (1 ≤ p ∧ p ≤ 4)) ∧ (∀ p : Int, (openB p = false) = ¬ (1 ≤ p ∧ p ≤ 4)) ∧ (∀ p : Int, (settB p = true) = (p = 5 ∨ p = 6)) ∧ (∀ p : Int, (settB p = false) = ¬ (p = 5 ∨ p = 6)) ∧ (∀ p : Int, (propB p = true) = (2 ≤ p ∧ p ≤ 4)) ∧ (∀ p : Int, (propB p = false) = ¬ (2 ≤ p ∧ p ≤ 4)) ∧ (∀ b : Bool, (errI b 31 = 0) = (b = true)) ∧ (∀ b : Bool, (errI b 33 = 0) = (b = true)) ∧ (∀ b : Bool, (0 = errI b 33) = (b = true)) ∧ (∀ b : Bool, (0 = errI b 31) = (b = true)) ∧ (∀ p : Int, (phB p = true) = (0 ≤ p ∧ p ≤ 6)) ∧ (∀ p : Int, (phB p = false) = ¬ (0 ≤ p ∧ p ≤ 6)) ∧ (∀ b : Bool, (true == b) = b) ∧ (∀ b : Bool, (b == true) = b) ∧ (∀ b : Bool, (false == b) = !b) ∧ (∀ b : Bool, (b == false) = !b) ∧ (∀ p q : Prop, (tst p == tst q) = tst (p ↔ q)) ∧ (∀ a b : Ack, ([a.kind, a.fr, a.bal, a.t, a.abal, a.phase] = [b.kind, b.fr, b.bal, b.t, b.abal, b.phase]) = (a = b)) ∧ (∀ q : Int, (((listS q 9).length : Int) = 0) = ¬ (1 ≤ q ∧ q ≤ 511))) ∧ (((∀ n : Int, (manyB n = true) = (3 ≤ n ∧ n ≤ 9)) ∧ (∀ n : Int, (mayB n = true) = (0 ≤ n ∧ n ≤ 511)) ∧ (∀ n : Int, (replB n = true) = (1 ≤ n ∧ n ≤ 9)) ∧ (∀ n f : Int, (sizeB n f = true) = (3 ≤ n ∧ n ≤ 9 ∧ 1 ≤ f ∧ 2 * f ≤ n - 1)) ∧ (∀ n f : Int, (sizeB n f = false) = ¬ (3 ≤ n ∧ n ≤ 9 ∧ 1 ≤ f ∧ 2 * f ≤ n - 1)) ∧ (∀ b : Bool, (errI b 2 = 0) = (b = true)) ∧ (∀ b : Bool, (0 = errI b 2) = (b = true))) ∧ ((∀ p : Prop, (tst p = true) = p) ∧ (∀ p : Prop, (tst p = false) = ¬ p) ∧ (∀ b : Bool, ((!b) = true) = (b = false)) ∧ (∀ b : Bool, ((!b) = false) = (b = true)) ∧ (∀ a b : Int, (¬ a < b) = (b ≤ a)) ∧ (∀ a b : Int, (¬ a ≤ b) = (b < a)) ∧ (∀ (α : Type) (f : α → List PV) (l : List α), (l.map f).length = l.length) ∧ ((!true) = false) ∧ ((!false) = true) ∧ ((true = false) = False) ∧ ((false = true) = False) ∧ ((¬ True) = False) ∧ ((¬ False) = True) ∧ (∀ p : Prop, (p ∧ True) = p) ∧ (∀ p : Prop, (True ∧ p) = p) ∧ (∀ p : Prop, (p ∧ False) = False) ∧ (∀ p : Prop, (False ∧ p) = False) ∧ (∀ b : Bool, (b == b) = true) ∧ (∀ h : Decidable True, @decide True h = true) ∧ (∀ h : Decidable False, @decide False h = false))) := ⟨lD0, lC⟩
end Go.Proofs.Ytlicjlahnbebcaa
