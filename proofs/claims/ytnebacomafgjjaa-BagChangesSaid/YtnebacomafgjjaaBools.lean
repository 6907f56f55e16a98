/- Sets as rows of bools: the document's. -/
import Derived.Test.YtnebacomafgjjaaSize
import Derived.Handy
namespace Go.Proofs.Ytnebacomafgjjaa
open Go.RowKit
/-- Place j of the row when the places below k are set. -/
def bkB (set : Int) (k j : Nat) : Bool := if 1 ≤ j ∧ j < k then decide (set / 2 ^ (j - 1) % 2 = 1) else false
def rowK (set : Int) (k : Nat) : Array Value := #[.bool (bkB set k 0), .bool (bkB set k 1), .bool (bkB set k 2), .bool (bkB set k 3), .bool (bkB set k 4), .bool (bkB set k 5), .bool (bkB set k 6), .bool (bkB set k 7), .bool (bkB set k 8), .bool (bkB set k 9)]
def bools0 : Array Value := #[.bool false, .bool false, .bool false, .bool false, .bool false, .bool false, .bool false, .bool false, .bool false, .bool false]
def boolsV (set : Int) : Value := if 0 ≤ set ∧ set ≤ 511 then .agg (rowK set 10) else .agg bools0
set_option maxRecDepth 100000 in
set_option maxHeartbeats 8000000 in
theorem bools_bad (set : Int) (w : World) (h : ¬ (0 ≤ set ∧ set ≤ 511)) : Calls Try.prog 77 #[.int .i64 set] w fun e w' => e = .returned (.agg bools0) ∧ Below w.heap.size w w' := by
  by_cases h0 : 0 ≤ set
  · have h1 : 511 < set := by omega
    go_enter Try.func77, Try.ntmps77
    go_wp2
    go_returns
    exact ⟨rfl, by go_grown⟩
  · go_enter Try.func77, Try.ntmps77
    go_wp2
    go_returns
    exact ⟨rfl, by go_grown⟩
theorem rowK_step1 (set : Int) : (#[.bool (bkB set 1 0), .bool (set / 2 ^ (1 - 1) % 2 == 1), .bool (bkB set 1 2), .bool (bkB set 1 3), .bool (bkB set 1 4), .bool (bkB set 1 5), .bool (bkB set 1 6), .bool (bkB set 1 7), .bool (bkB set 1 8), .bool (bkB set 1 9)] : Array Value) = rowK set 2 := by
  unfold rowK
  rw [show bkB set 2 1 = (set / 2 ^ (1 - 1) % 2 == 1) from by unfold bkB; rw [Bool.beq_eq_decide_eq]; rfl]
  rfl
theorem half1 (set : Int) : set / 2 ^ (1 - 1) / 2 = set / 2 ^ (2 - 1) := by
  omega
theorem rowK_step2 (set : Int) : (#[.bool (bkB set 2 0), .bool (bkB set 2 1), .bool (set / 2 ^ (2 - 1) % 2 == 1), .bool (bkB set 2 3), .bool (bkB set 2 4), .bool (bkB set 2 5), .bool (bkB set 2 6), .bool (bkB set 2 7), .bool (bkB set 2 8), .bool (bkB set 2 9)] : Array Value) = rowK set 3 := by
  unfold rowK
  rw [show bkB set 3 2 = (set / 2 ^ (2 - 1) % 2 == 1) from by unfold bkB; rw [Bool.beq_eq_decide_eq]; rfl]
  rfl
theorem half2 (set : Int) : set / 2 ^ (2 - 1) / 2 = set / 2 ^ (3 - 1) := by
  omega
theorem rowK_step3 (set : Int) : (#[.bool (bkB set 3 0), .bool (bkB set 3 1), .bool (bkB set 3 2), .bool (set / 2 ^ (3 - 1) % 2 == 1), .bool (bkB set 3 4), .bool (bkB set 3 5), .bool (bkB set 3 6), .bool (bkB set 3 7), .bool (bkB set 3 8), .bool (bkB set 3 9)] : Array Value) = rowK set 4 := by
  unfold rowK
  rw [show bkB set 4 3 = (set / 2 ^ (3 - 1) % 2 == 1) from by unfold bkB; rw [Bool.beq_eq_decide_eq]; rfl]
  rfl
theorem half3 (set : Int) : set / 2 ^ (3 - 1) / 2 = set / 2 ^ (4 - 1) := by
  omega
theorem rowK_step4 (set : Int) : (#[.bool (bkB set 4 0), .bool (bkB set 4 1), .bool (bkB set 4 2), .bool (bkB set 4 3), .bool (set / 2 ^ (4 - 1) % 2 == 1), .bool (bkB set 4 5), .bool (bkB set 4 6), .bool (bkB set 4 7), .bool (bkB set 4 8), .bool (bkB set 4 9)] : Array Value) = rowK set 5 := by
  unfold rowK
  rw [show bkB set 5 4 = (set / 2 ^ (4 - 1) % 2 == 1) from by unfold bkB; rw [Bool.beq_eq_decide_eq]; rfl]
  rfl
theorem half4 (set : Int) : set / 2 ^ (4 - 1) / 2 = set / 2 ^ (5 - 1) := by
  omega
theorem rowK_step5 (set : Int) : (#[.bool (bkB set 5 0), .bool (bkB set 5 1), .bool (bkB set 5 2), .bool (bkB set 5 3), .bool (bkB set 5 4), .bool (set / 2 ^ (5 - 1) % 2 == 1), .bool (bkB set 5 6), .bool (bkB set 5 7), .bool (bkB set 5 8), .bool (bkB set 5 9)] : Array Value) = rowK set 6 := by
  unfold rowK
  rw [show bkB set 6 5 = (set / 2 ^ (5 - 1) % 2 == 1) from by unfold bkB; rw [Bool.beq_eq_decide_eq]; rfl]
  rfl
theorem half5 (set : Int) : set / 2 ^ (5 - 1) / 2 = set / 2 ^ (6 - 1) := by
  omega
theorem rowK_step6 (set : Int) : (#[.bool (bkB set 6 0), .bool (bkB set 6 1), .bool (bkB set 6 2), .bool (bkB set 6 3), .bool (bkB set 6 4), .bool (bkB set 6 5), .bool (set / 2 ^ (6 - 1) % 2 == 1), .bool (bkB set 6 7), .bool (bkB set 6 8), .bool (bkB set 6 9)] : Array Value) = rowK set 7 := by
  unfold rowK
  rw [show bkB set 7 6 = (set / 2 ^ (6 - 1) % 2 == 1) from by unfold bkB; rw [Bool.beq_eq_decide_eq]; rfl]
  rfl
theorem half6 (set : Int) : set / 2 ^ (6 - 1) / 2 = set / 2 ^ (7 - 1) := by
  omega
theorem rowK_step7 (set : Int) : (#[.bool (bkB set 7 0), .bool (bkB set 7 1), .bool (bkB set 7 2), .bool (bkB set 7 3), .bool (bkB set 7 4), .bool (bkB set 7 5), .bool (bkB set 7 6), .bool (set / 2 ^ (7 - 1) % 2 == 1), .bool (bkB set 7 8), .bool (bkB set 7 9)] : Array Value) = rowK set 8 := by
  unfold rowK
  rw [show bkB set 8 7 = (set / 2 ^ (7 - 1) % 2 == 1) from by unfold bkB; rw [Bool.beq_eq_decide_eq]; rfl]
  rfl
theorem half7 (set : Int) : set / 2 ^ (7 - 1) / 2 = set / 2 ^ (8 - 1) := by
  omega
theorem rowK_step8 (set : Int) : (#[.bool (bkB set 8 0), .bool (bkB set 8 1), .bool (bkB set 8 2), .bool (bkB set 8 3), .bool (bkB set 8 4), .bool (bkB set 8 5), .bool (bkB set 8 6), .bool (bkB set 8 7), .bool (set / 2 ^ (8 - 1) % 2 == 1), .bool (bkB set 8 9)] : Array Value) = rowK set 9 := by
  unfold rowK
  rw [show bkB set 9 8 = (set / 2 ^ (8 - 1) % 2 == 1) from by unfold bkB; rw [Bool.beq_eq_decide_eq]; rfl]
  rfl
theorem half8 (set : Int) : set / 2 ^ (8 - 1) / 2 = set / 2 ^ (9 - 1) := by
  omega
theorem rowK_step9 (set : Int) : (#[.bool (bkB set 9 0), .bool (bkB set 9 1), .bool (bkB set 9 2), .bool (bkB set 9 3), .bool (bkB set 9 4), .bool (bkB set 9 5), .bool (bkB set 9 6), .bool (bkB set 9 7), .bool (bkB set 9 8), .bool (set / 2 ^ (9 - 1) % 2 == 1)] : Array Value) = rowK set 10 := by
  unfold rowK
  rw [show bkB set 10 9 = (set / 2 ^ (9 - 1) % 2 == 1) from by unfold bkB; rw [Bool.beq_eq_decide_eq]; rfl]
  rfl
theorem half9 (set : Int) : set / 2 ^ (9 - 1) / 2 = set / 2 ^ (10 - 1) := by
  omega
set_option maxRecDepth 100000 in
set_option maxHeartbeats 8000000 in
theorem bools_good (set : Int) (w : World) (h0 : 0 ≤ set) (h511 : set ≤ 511) : Calls Try.prog 77 #[.int .i64 set] w fun e w' => e = .returned (.agg (rowK set 10)) ∧ Below w.heap.size w w' := by
  go_enter Try.func77, Try.ntmps77
  go_wp2
  go_loopw [0, 4] (fun s r wr => ∃ (k : Nat), 1 ≤ k ∧ k ≤ 10 ∧ s = .int .i64 (set / 2 ^ (k - 1)) ∧ r = .int .i64 k ∧ wr = (w.alloc (.cells bools0 107)).alloc (.cells (rowK set k) 107)) (fun _ r _ => 10 - (intOf r).toNat)
  case atStart => exact ⟨1, by omega, by omega, by simp, rfl, rfl⟩
  case round =>
    obtain ⟨k, h1, h2, rfl, rfl, rfl⟩ := hrel
    have hq0 : 0 ≤ set / 2 ^ (k - 1) := Int.ediv_nonneg h0 (by exact Int.le_of_lt (Int.pow_pos (by omega)))
    have hq1 : set / 2 ^ (k - 1) ≤ 511 := Int.le_trans (Int.ediv_le_self _ h0) h511
    by_cases hk : k = 10
    · subst hk
      simp only [rowK, bools0]
      go_wp2
      go_returns
      exact ⟨rfl, by go_grown⟩
    · generalize hq : set / 2 ^ (k - 1) = q at *
      simp only [bools0]
      obtain rfl | rfl | rfl | rfl | rfl | rfl | rfl | rfl | rfl : k = 1 ∨ k = 2 ∨ k = 3 ∨ k = 4 ∨ k = 5 ∨ k = 6 ∨ k = 7 ∨ k = 8 ∨ k = 9 := by omega
      · have HROW : Hid (#[.bool (bkB set 1 0), .bool (q % 2 == 1), .bool (bkB set 1 2), .bool (bkB set 1 3), .bool (bkB set 1 4), .bool (bkB set 1 5), .bool (bkB set 1 6), .bool (bkB set 1 7), .bool (bkB set 1 8), .bool (bkB set 1 9)] = rowK set 2) := Lib.hid (by subst hq; exact rowK_step1 set)
        have HQ : Hid (q / 2 = set / 2 ^ (2 - 1)) := Lib.hid (by subst hq; exact half1 set)
        clear hq h1 h2
        simp only [rowK]
        go_wp2
        go_roundw
        case rel => exact ⟨2, by omega, by omega, by rw [← HQ.out], rfl, congrArg (fun a => (w.alloc (.cells bools0 107)).alloc (.cells a 107)) HROW.out⟩
        case measure => simp [intOf]
      · have HROW : Hid (#[.bool (bkB set 2 0), .bool (bkB set 2 1), .bool (q % 2 == 1), .bool (bkB set 2 3), .bool (bkB set 2 4), .bool (bkB set 2 5), .bool (bkB set 2 6), .bool (bkB set 2 7), .bool (bkB set 2 8), .bool (bkB set 2 9)] = rowK set 3) := Lib.hid (by subst hq; exact rowK_step2 set)
        have HQ : Hid (q / 2 = set / 2 ^ (3 - 1)) := Lib.hid (by subst hq; exact half2 set)
        clear hq h1 h2
        simp only [rowK]
        go_wp2
        go_roundw
        case rel => exact ⟨3, by omega, by omega, by rw [← HQ.out], rfl, congrArg (fun a => (w.alloc (.cells bools0 107)).alloc (.cells a 107)) HROW.out⟩
        case measure => simp [intOf]
      · have HROW : Hid (#[.bool (bkB set 3 0), .bool (bkB set 3 1), .bool (bkB set 3 2), .bool (q % 2 == 1), .bool (bkB set 3 4), .bool (bkB set 3 5), .bool (bkB set 3 6), .bool (bkB set 3 7), .bool (bkB set 3 8), .bool (bkB set 3 9)] = rowK set 4) := Lib.hid (by subst hq; exact rowK_step3 set)
        have HQ : Hid (q / 2 = set / 2 ^ (4 - 1)) := Lib.hid (by subst hq; exact half3 set)
        clear hq h1 h2
        simp only [rowK]
        go_wp2
        go_roundw
        case rel => exact ⟨4, by omega, by omega, by rw [← HQ.out], rfl, congrArg (fun a => (w.alloc (.cells bools0 107)).alloc (.cells a 107)) HROW.out⟩
        case measure => simp [intOf]
      · have HROW : Hid (#[.bool (bkB set 4 0), .bool (bkB set 4 1), .bool (bkB set 4 2), .bool (bkB set 4 3), .bool (q % 2 == 1), .bool (bkB set 4 5), .bool (bkB set 4 6), .bool (bkB set 4 7), .bool (bkB set 4 8), .bool (bkB set 4 9)] = rowK set 5) := Lib.hid (by subst hq; exact rowK_step4 set)
        have HQ : Hid (q / 2 = set / 2 ^ (5 - 1)) := Lib.hid (by subst hq; exact half4 set)
        clear hq h1 h2
        simp only [rowK]
        go_wp2
        go_roundw
        case rel => exact ⟨5, by omega, by omega, by rw [← HQ.out], rfl, congrArg (fun a => (w.alloc (.cells bools0 107)).alloc (.cells a 107)) HROW.out⟩
        case measure => simp [intOf]
      · have HROW : Hid (#[.bool (bkB set 5 0), .bool (bkB set 5 1), .bool (bkB set 5 2), .bool (bkB set 5 3), .bool (bkB set 5 4), .bool (q % 2 == 1), .bool (bkB set 5 6), .bool (bkB set 5 7), .bool (bkB set 5 8), .bool (bkB set 5 9)] = rowK set 6) := Lib.hid (by subst hq; exact rowK_step5 set)
        have HQ : Hid (q / 2 = set / 2 ^ (6 - 1)) := Lib.hid (by subst hq; exact half5 set)
        clear hq h1 h2
        simp only [rowK]
        go_wp2
        go_roundw
        case rel => exact ⟨6, by omega, by omega, by rw [← HQ.out], rfl, congrArg (fun a => (w.alloc (.cells bools0 107)).alloc (.cells a 107)) HROW.out⟩
        case measure => simp [intOf]
      · have HROW : Hid (#[.bool (bkB set 6 0), .bool (bkB set 6 1), .bool (bkB set 6 2), .bool (bkB set 6 3), .bool (bkB set 6 4), .bool (bkB set 6 5), .bool (q % 2 == 1), .bool (bkB set 6 7), .bool (bkB set 6 8), .bool (bkB set 6 9)] = rowK set 7) := Lib.hid (by subst hq; exact rowK_step6 set)
        have HQ : Hid (q / 2 = set / 2 ^ (7 - 1)) := Lib.hid (by subst hq; exact half6 set)
        clear hq h1 h2
        simp only [rowK]
        go_wp2
        go_roundw
        case rel => exact ⟨7, by omega, by omega, by rw [← HQ.out], rfl, congrArg (fun a => (w.alloc (.cells bools0 107)).alloc (.cells a 107)) HROW.out⟩
        case measure => simp [intOf]
      · have HROW : Hid (#[.bool (bkB set 7 0), .bool (bkB set 7 1), .bool (bkB set 7 2), .bool (bkB set 7 3), .bool (bkB set 7 4), .bool (bkB set 7 5), .bool (bkB set 7 6), .bool (q % 2 == 1), .bool (bkB set 7 8), .bool (bkB set 7 9)] = rowK set 8) := Lib.hid (by subst hq; exact rowK_step7 set)
        have HQ : Hid (q / 2 = set / 2 ^ (8 - 1)) := Lib.hid (by subst hq; exact half7 set)
        clear hq h1 h2
        simp only [rowK]
        go_wp2
        go_roundw
        case rel => exact ⟨8, by omega, by omega, by rw [← HQ.out], rfl, congrArg (fun a => (w.alloc (.cells bools0 107)).alloc (.cells a 107)) HROW.out⟩
        case measure => simp [intOf]
      · have HROW : Hid (#[.bool (bkB set 8 0), .bool (bkB set 8 1), .bool (bkB set 8 2), .bool (bkB set 8 3), .bool (bkB set 8 4), .bool (bkB set 8 5), .bool (bkB set 8 6), .bool (bkB set 8 7), .bool (q % 2 == 1), .bool (bkB set 8 9)] = rowK set 9) := Lib.hid (by subst hq; exact rowK_step8 set)
        have HQ : Hid (q / 2 = set / 2 ^ (9 - 1)) := Lib.hid (by subst hq; exact half8 set)
        clear hq h1 h2
        simp only [rowK]
        go_wp2
        go_roundw
        case rel => exact ⟨9, by omega, by omega, by rw [← HQ.out], rfl, congrArg (fun a => (w.alloc (.cells bools0 107)).alloc (.cells a 107)) HROW.out⟩
        case measure => simp [intOf]
      · have HROW : Hid (#[.bool (bkB set 9 0), .bool (bkB set 9 1), .bool (bkB set 9 2), .bool (bkB set 9 3), .bool (bkB set 9 4), .bool (bkB set 9 5), .bool (bkB set 9 6), .bool (bkB set 9 7), .bool (bkB set 9 8), .bool (q % 2 == 1)] = rowK set 10) := Lib.hid (by subst hq; exact rowK_step9 set)
        have HQ : Hid (q / 2 = set / 2 ^ (10 - 1)) := Lib.hid (by subst hq; exact half9 set)
        clear hq h1 h2
        simp only [rowK]
        go_wp2
        go_roundw
        case rel => exact ⟨10, by omega, by omega, by rw [← HQ.out], rfl, congrArg (fun a => (w.alloc (.cells bools0 107)).alloc (.cells a 107)) HROW.out⟩
        case measure => simp [intOf]
end Go.Proofs.Ytnebacomafgjjaa
