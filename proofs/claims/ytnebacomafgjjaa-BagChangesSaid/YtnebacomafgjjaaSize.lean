/- Sets of replicas. -/
import Derived.Test.YtnebacomafgjjaaOwn
namespace Go.Proofs.Ytnebacomafgjjaa
open Go.RowKit

theorem ofInt_i64 (a : Nat) (ha : a < 9223372036854775808) : (BitVec.ofInt 64 (a : Int)).toNat = a := by
  rw [BitVec.ofInt_natCast, BitVec.toNat_ofNat]; exact Nat.mod_eq_of_lt (by omega)
theorem i64_and_nat (a b : Nat) (ha : a < 9223372036854775808) (hb : b < 9223372036854775808) : bits .and .i64 (a : Int) (b : Int) = ((a &&& b : Nat) : Int) := by
  have hx : a &&& b < 2 ^ 63 := Nat.and_lt_two_pow _ (by omega)
  show IntKind.i64.wrap ((BitVec.ofInt 64 (a : Int) &&& BitVec.ofInt 64 (b : Int)).toNat : Int) = _
  rw [BitVec.toNat_and, ofInt_i64 a ha, ofInt_i64 b hb, IntKind.wrap_i64]
  omega
theorem i64_or_nat (a b : Nat) (ha : a < 9223372036854775808) (hb : b < 9223372036854775808) : bits .or .i64 (a : Int) (b : Int) = ((a ||| b : Nat) : Int) := by
  have hx : a ||| b < 2 ^ 63 := Nat.or_lt_two_pow (by omega) (by omega)
  show IntKind.i64.wrap ((BitVec.ofInt 64 (a : Int) ||| BitVec.ofInt 64 (b : Int)).toNat : Int) = _
  rw [BitVec.toNat_or, ofInt_i64 a ha, ofInt_i64 b hb, IntKind.wrap_i64]
  omega
theorem and_one (a : Int) (h0 : 0 ≤ a) (h1 : a ≤ 1000000) : bits .and .i64 a 1 = a % 2 := by
  obtain ⟨n, rfl⟩ := Int.eq_ofNat_of_zero_le h0
  have h := i64_and_nat n 1 (by omega) (by omega)
  rw [show ((1 : Nat) : Int) = 1 from rfl] at h
  rw [h, Nat.and_one_is_mod]
  omega
def mayB (set : Int) : Bool := decide (0 ≤ set ∧ set ≤ 511)
def replB (r : Int) : Bool := decide (1 ≤ r ∧ r ≤ 9)
/-- The bit of replica r. -/
def bitB (set r : Int) : Bool := decide (set / 2 ^ (r - 1).toNat % 2 = 1)
def hasB (set r : Int) : Bool := mayB set && (replB r && bitB set r)
theorem may_any (set : Int) (w : World) : Calls Try.prog 78 #[.int .i64 set] w fun e w' => e = .returned (.bool (mayB set)) ∧ w = w' := by
  by_cases h0 : 0 ≤ set
  · by_cases h1 : set ≤ 511
    · have H := Lib.hid (show mayB set = true from decide_eq_true ⟨h0, h1⟩)
      go_enter Try.func78, Try.ntmps78
      go_wp2
      go_ret
      exact ⟨by rw [H.out]; simp [h1], rfl⟩
    · have H := Lib.hid (show mayB set = false from decide_eq_false (fun h => h1 h.2))
      go_enter Try.func78, Try.ntmps78
      go_wp2
      go_ret
      exact ⟨by rw [H.out]; simp_all, rfl⟩
  · have H := Lib.hid (show mayB set = false from decide_eq_false (fun h => h0 h.1))
    go_enter Try.func78, Try.ntmps78
    go_wp2
    go_ret
    exact ⟨by rw [H.out]; rfl, rfl⟩
theorem replica_any (set : Int) (w : World) : Calls Try.prog 79 #[.int .i64 set] w fun e w' => e = .returned (.bool (replB set)) ∧ w = w' := by
  by_cases h0 : 1 ≤ set
  · by_cases h1 : set ≤ 9
    · have H := Lib.hid (show replB set = true from decide_eq_true ⟨h0, h1⟩)
      go_enter Try.func79, Try.ntmps79
      go_wp2
      go_ret
      exact ⟨by rw [H.out]; simp [h1], rfl⟩
    · have H := Lib.hid (show replB set = false from decide_eq_false (fun h => h1 h.2))
      go_enter Try.func79, Try.ntmps79
      go_wp2
      go_ret
      exact ⟨by rw [H.out]; simp_all, rfl⟩
  · have H := Lib.hid (show replB set = false from decide_eq_false (fun h => h0 h.1))
    go_enter Try.func79, Try.ntmps79
    go_wp2
    go_ret
    exact ⟨by rw [H.out]; rfl, rfl⟩
theorem has_any (set r : Int) (w : World) : Calls Try.prog 76 #[.int .i64 set, .int .i64 r] w fun e w' => e = .returned (.bool (hasB set r)) ∧ w = w' := by
  by_cases hm : 0 ≤ set ∧ set ≤ 511
  · have hm1 : mayB set = true := decide_eq_true hm
    obtain ⟨h0, h1⟩ := hm
    by_cases hr : 1 ≤ r ∧ r ≤ 9
    · have hb : replB r = true → hasB set r = bitB set r := fun h => by unfold hasB; rw [hm1, h]; rfl
      obtain rfl | rfl | rfl | rfl | rfl | rfl | rfl | rfl | rfl : r = 1 ∨ r = 2 ∨ r = 3 ∨ r = 4 ∨ r = 5 ∨ r = 6 ∨ r = 7 ∨ r = 8 ∨ r = 9 := by omega
      all_goals
        rw [hb (by decide +kernel)]
        clear hb
        go_enter Try.func76, Try.ntmps76
        go_wp2
        go_ret
        refine ⟨?_, rfl⟩
        unfold bitB
        show Ending.returned (Value.bool (bits .and .i64 _ 1 == 1)) = _
        rw [and_one _ (by omega) (by omega)]
        simp [Bool.beq_eq_decide_eq]
    · have hr1 : replB r = false := decide_eq_false hr
      have H := Lib.hid (show hasB set r = false from by unfold hasB; rw [hr1]; simp)
      clear hr
      go_enter Try.func76, Try.ntmps76
      go_wp2_with (first | (go_at_call 78; refine (may_any _ _).mono ?_; rintro e w' ⟨rfl, rfl⟩) | (go_at_call 79; refine (replica_any _ _).mono ?_; rintro e w' ⟨rfl, rfl⟩))
      go_ret
      exact ⟨by rw [H.out]; rfl, rfl⟩
  · have hm1 : mayB set = false := decide_eq_false hm
    have H := Lib.hid (show hasB set r = false from by unfold hasB; rw [hm1]; rfl)
    clear hm
    go_enter Try.func76, Try.ntmps76
    go_wp2_with (first | (go_at_call 78; refine (may_any _ _).mono ?_; rintro e w' ⟨rfl, rfl⟩) | (go_at_call 79; refine (replica_any _ _).mono ?_; rintro e w' ⟨rfl, rfl⟩))
    go_ret
    exact ⟨by rw [H.out]; rfl, rfl⟩
end Go.Proofs.Ytnebacomafgjjaa
