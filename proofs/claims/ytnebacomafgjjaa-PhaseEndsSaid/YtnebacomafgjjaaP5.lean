import Derived.Test.YtnebacomafgjjaaP3
namespace Go.Proofs.Ytnebacomafgjjaa
open Go.RowKit
theorem bt' {a b c : World} (h : Below a.heap.size a b) (k : Below b.heap.size b c) : Below a.heap.size a c := h.trans (k.mono h.size)
set_option maxHeartbeats 1000000 in
theorem ends0_1  (w : World) : Calls Try.prog 5 #[.int .i64 0, .int .i64 1] w fun e w' => e = .returned (.bool true) ∧ Below w.heap.size w w' := by
  have f0 : checkE 0 = 0 := by decide +kernel
  have f1 : nextE 0 1 = 0 := by decide +kernel
  have f2 : nextP 0 1 = 1 := by decide +kernel
  have fs0 : settledB 0 = false := by decide +kernel
  have fs1 : settledB 1 = false := by decide +kernel
  have f5 : nextE 0 4 = 0 := by decide +kernel
  have f6 : nextP 0 4 = 5 := by decide +kernel
  have f7 : nextE 5 5 = 0 := by decide +kernel
  have f8 : nextP 5 5 = 6 := by decide +kernel
  go_enter Try.func5, Try.ntmps5
  go_wp2_with (first | (go_at_call 17; refine (fresh_any _ _).mono ?_; rintro e w' ⟨rfl, rfl⟩) | (go_at_call 18; refine (proposed_any _ _).mono ?_; rintro e w' ⟨rfl, rfl⟩) | (go_at_call 19; refine (open_any _ _).mono ?_; rintro e w' ⟨rfl, rfl⟩) | (go_at_call 20; refine (settled_any _ _).mono ?_; rintro e w' ⟨rfl, rfl⟩) | (go_at_call 16; refine (check_any _ _).mono ?_; rintro e w' ⟨rfl, rfl⟩))
  refine (next_any _ _ _).mono ?_; rintro e w1 ⟨rfl, hb1⟩
  go_wp2_with (first | (go_at_call 17; refine (fresh_any _ _).mono ?_; rintro e w' ⟨rfl, rfl⟩) | (go_at_call 18; refine (proposed_any _ _).mono ?_; rintro e w' ⟨rfl, rfl⟩) | (go_at_call 19; refine (open_any _ _).mono ?_; rintro e w' ⟨rfl, rfl⟩) | (go_at_call 20; refine (settled_any _ _).mono ?_; rintro e w' ⟨rfl, rfl⟩) | (go_at_call 16; refine (check_any _ _).mono ?_; rintro e w' ⟨rfl, rfl⟩))
  refine (next_any _ _ _).mono ?_; rintro e w2 ⟨rfl, hb2⟩
  go_wp2_with (first | (go_at_call 17; refine (fresh_any _ _).mono ?_; rintro e w' ⟨rfl, rfl⟩) | (go_at_call 18; refine (proposed_any _ _).mono ?_; rintro e w' ⟨rfl, rfl⟩) | (go_at_call 19; refine (open_any _ _).mono ?_; rintro e w' ⟨rfl, rfl⟩) | (go_at_call 20; refine (settled_any _ _).mono ?_; rintro e w' ⟨rfl, rfl⟩) | (go_at_call 16; refine (check_any _ _).mono ?_; rintro e w' ⟨rfl, rfl⟩))
  refine (next_any _ _ _).mono ?_; rintro e w3 ⟨rfl, hb3⟩
  go_wp2_with (first | (go_at_call 17; refine (fresh_any _ _).mono ?_; rintro e w' ⟨rfl, rfl⟩) | (go_at_call 18; refine (proposed_any _ _).mono ?_; rintro e w' ⟨rfl, rfl⟩) | (go_at_call 19; refine (open_any _ _).mono ?_; rintro e w' ⟨rfl, rfl⟩) | (go_at_call 20; refine (settled_any _ _).mono ?_; rintro e w' ⟨rfl, rfl⟩) | (go_at_call 16; refine (check_any _ _).mono ?_; rintro e w' ⟨rfl, rfl⟩))
  refine (awake19_any _).mono ?_; rintro e w4 ⟨rfl, hb4⟩
  go_wp2_with fail
  go_ret
  exact ⟨rfl, bt' hb1 (bt' hb2 (bt' hb3 (hb4)))⟩
set_option maxHeartbeats 1000000 in
theorem ends0_2  (w : World) : Calls Try.prog 5 #[.int .i64 0, .int .i64 2] w fun e w' => e = .returned (.bool true) ∧ Below w.heap.size w w' := by
  have f0 : checkE 0 = 0 := by decide +kernel
  have f1 : nextE 0 2 = 0 := by decide +kernel
  have f2 : nextP 0 2 = 2 := by decide +kernel
  have fs0 : settledB 0 = false := by decide +kernel
  have fs2 : settledB 2 = false := by decide +kernel
  have f5 : nextE 0 4 = 0 := by decide +kernel
  have f6 : nextP 0 4 = 5 := by decide +kernel
  have f7 : nextE 5 5 = 0 := by decide +kernel
  have f8 : nextP 5 5 = 6 := by decide +kernel
  go_enter Try.func5, Try.ntmps5
  go_wp2_with (first | (go_at_call 17; refine (fresh_any _ _).mono ?_; rintro e w' ⟨rfl, rfl⟩) | (go_at_call 18; refine (proposed_any _ _).mono ?_; rintro e w' ⟨rfl, rfl⟩) | (go_at_call 19; refine (open_any _ _).mono ?_; rintro e w' ⟨rfl, rfl⟩) | (go_at_call 20; refine (settled_any _ _).mono ?_; rintro e w' ⟨rfl, rfl⟩) | (go_at_call 16; refine (check_any _ _).mono ?_; rintro e w' ⟨rfl, rfl⟩))
  refine (next_any _ _ _).mono ?_; rintro e w1 ⟨rfl, hb1⟩
  go_wp2_with (first | (go_at_call 17; refine (fresh_any _ _).mono ?_; rintro e w' ⟨rfl, rfl⟩) | (go_at_call 18; refine (proposed_any _ _).mono ?_; rintro e w' ⟨rfl, rfl⟩) | (go_at_call 19; refine (open_any _ _).mono ?_; rintro e w' ⟨rfl, rfl⟩) | (go_at_call 20; refine (settled_any _ _).mono ?_; rintro e w' ⟨rfl, rfl⟩) | (go_at_call 16; refine (check_any _ _).mono ?_; rintro e w' ⟨rfl, rfl⟩))
  refine (next_any _ _ _).mono ?_; rintro e w2 ⟨rfl, hb2⟩
  go_wp2_with (first | (go_at_call 17; refine (fresh_any _ _).mono ?_; rintro e w' ⟨rfl, rfl⟩) | (go_at_call 18; refine (proposed_any _ _).mono ?_; rintro e w' ⟨rfl, rfl⟩) | (go_at_call 19; refine (open_any _ _).mono ?_; rintro e w' ⟨rfl, rfl⟩) | (go_at_call 20; refine (settled_any _ _).mono ?_; rintro e w' ⟨rfl, rfl⟩) | (go_at_call 16; refine (check_any _ _).mono ?_; rintro e w' ⟨rfl, rfl⟩))
  refine (next_any _ _ _).mono ?_; rintro e w3 ⟨rfl, hb3⟩
  go_wp2_with (first | (go_at_call 17; refine (fresh_any _ _).mono ?_; rintro e w' ⟨rfl, rfl⟩) | (go_at_call 18; refine (proposed_any _ _).mono ?_; rintro e w' ⟨rfl, rfl⟩) | (go_at_call 19; refine (open_any _ _).mono ?_; rintro e w' ⟨rfl, rfl⟩) | (go_at_call 20; refine (settled_any _ _).mono ?_; rintro e w' ⟨rfl, rfl⟩) | (go_at_call 16; refine (check_any _ _).mono ?_; rintro e w' ⟨rfl, rfl⟩))
  refine (awake19_any _).mono ?_; rintro e w4 ⟨rfl, hb4⟩
  go_wp2_with fail
  go_ret
  exact ⟨rfl, bt' hb1 (bt' hb2 (bt' hb3 (hb4)))⟩
set_option maxHeartbeats 1000000 in
theorem ends0_3  (w : World) : Calls Try.prog 5 #[.int .i64 0, .int .i64 3] w fun e w' => e = .returned (.bool true) ∧ Below w.heap.size w w' := by
  have f0 : checkE 0 = 0 := by decide +kernel
  have f1 : nextE 0 3 = 0 := by decide +kernel
  have f2 : nextP 0 3 = 4 := by decide +kernel
  have fs0 : settledB 0 = false := by decide +kernel
  have fs4 : settledB 4 = false := by decide +kernel
  have f5 : nextE 0 4 = 0 := by decide +kernel
  have f6 : nextP 0 4 = 5 := by decide +kernel
  have f7 : nextE 5 5 = 0 := by decide +kernel
  have f8 : nextP 5 5 = 6 := by decide +kernel
  go_enter Try.func5, Try.ntmps5
  go_wp2_with (first | (go_at_call 17; refine (fresh_any _ _).mono ?_; rintro e w' ⟨rfl, rfl⟩) | (go_at_call 18; refine (proposed_any _ _).mono ?_; rintro e w' ⟨rfl, rfl⟩) | (go_at_call 19; refine (open_any _ _).mono ?_; rintro e w' ⟨rfl, rfl⟩) | (go_at_call 20; refine (settled_any _ _).mono ?_; rintro e w' ⟨rfl, rfl⟩) | (go_at_call 16; refine (check_any _ _).mono ?_; rintro e w' ⟨rfl, rfl⟩))
  refine (next_any _ _ _).mono ?_; rintro e w1 ⟨rfl, hb1⟩
  go_wp2_with (first | (go_at_call 17; refine (fresh_any _ _).mono ?_; rintro e w' ⟨rfl, rfl⟩) | (go_at_call 18; refine (proposed_any _ _).mono ?_; rintro e w' ⟨rfl, rfl⟩) | (go_at_call 19; refine (open_any _ _).mono ?_; rintro e w' ⟨rfl, rfl⟩) | (go_at_call 20; refine (settled_any _ _).mono ?_; rintro e w' ⟨rfl, rfl⟩) | (go_at_call 16; refine (check_any _ _).mono ?_; rintro e w' ⟨rfl, rfl⟩))
  refine (next_any _ _ _).mono ?_; rintro e w2 ⟨rfl, hb2⟩
  go_wp2_with (first | (go_at_call 17; refine (fresh_any _ _).mono ?_; rintro e w' ⟨rfl, rfl⟩) | (go_at_call 18; refine (proposed_any _ _).mono ?_; rintro e w' ⟨rfl, rfl⟩) | (go_at_call 19; refine (open_any _ _).mono ?_; rintro e w' ⟨rfl, rfl⟩) | (go_at_call 20; refine (settled_any _ _).mono ?_; rintro e w' ⟨rfl, rfl⟩) | (go_at_call 16; refine (check_any _ _).mono ?_; rintro e w' ⟨rfl, rfl⟩))
  refine (next_any _ _ _).mono ?_; rintro e w3 ⟨rfl, hb3⟩
  go_wp2_with (first | (go_at_call 17; refine (fresh_any _ _).mono ?_; rintro e w' ⟨rfl, rfl⟩) | (go_at_call 18; refine (proposed_any _ _).mono ?_; rintro e w' ⟨rfl, rfl⟩) | (go_at_call 19; refine (open_any _ _).mono ?_; rintro e w' ⟨rfl, rfl⟩) | (go_at_call 20; refine (settled_any _ _).mono ?_; rintro e w' ⟨rfl, rfl⟩) | (go_at_call 16; refine (check_any _ _).mono ?_; rintro e w' ⟨rfl, rfl⟩))
  refine (awake19_any _).mono ?_; rintro e w4 ⟨rfl, hb4⟩
  go_wp2_with fail
  go_ret
  exact ⟨rfl, bt' hb1 (bt' hb2 (bt' hb3 (hb4)))⟩
set_option maxHeartbeats 1000000 in
theorem ends0_4  (w : World) : Calls Try.prog 5 #[.int .i64 0, .int .i64 4] w fun e w' => e = .returned (.bool true) ∧ Below w.heap.size w w' := by
  have f0 : checkE 0 = 0 := by decide +kernel
  have f1 : nextE 0 4 = 0 := by decide +kernel
  have f2 : nextP 0 4 = 5 := by decide +kernel
  have fs0 : settledB 0 = false := by decide +kernel
  have fs5 : settledB 5 = true := by decide +kernel
  have f7 : nextE 5 5 = 0 := by decide +kernel
  have f8 : nextP 5 5 = 6 := by decide +kernel
  go_enter Try.func5, Try.ntmps5
  go_wp2_with (first | (go_at_call 17; refine (fresh_any _ _).mono ?_; rintro e w' ⟨rfl, rfl⟩) | (go_at_call 18; refine (proposed_any _ _).mono ?_; rintro e w' ⟨rfl, rfl⟩) | (go_at_call 19; refine (open_any _ _).mono ?_; rintro e w' ⟨rfl, rfl⟩) | (go_at_call 20; refine (settled_any _ _).mono ?_; rintro e w' ⟨rfl, rfl⟩) | (go_at_call 16; refine (check_any _ _).mono ?_; rintro e w' ⟨rfl, rfl⟩))
  refine (next_any _ _ _).mono ?_; rintro e w1 ⟨rfl, hb1⟩
  go_wp2_with (first | (go_at_call 17; refine (fresh_any _ _).mono ?_; rintro e w' ⟨rfl, rfl⟩) | (go_at_call 18; refine (proposed_any _ _).mono ?_; rintro e w' ⟨rfl, rfl⟩) | (go_at_call 19; refine (open_any _ _).mono ?_; rintro e w' ⟨rfl, rfl⟩) | (go_at_call 20; refine (settled_any _ _).mono ?_; rintro e w' ⟨rfl, rfl⟩) | (go_at_call 16; refine (check_any _ _).mono ?_; rintro e w' ⟨rfl, rfl⟩))
  refine (next_any _ _ _).mono ?_; rintro e w2 ⟨rfl, hb2⟩
  go_wp2_with (first | (go_at_call 17; refine (fresh_any _ _).mono ?_; rintro e w' ⟨rfl, rfl⟩) | (go_at_call 18; refine (proposed_any _ _).mono ?_; rintro e w' ⟨rfl, rfl⟩) | (go_at_call 19; refine (open_any _ _).mono ?_; rintro e w' ⟨rfl, rfl⟩) | (go_at_call 20; refine (settled_any _ _).mono ?_; rintro e w' ⟨rfl, rfl⟩) | (go_at_call 16; refine (check_any _ _).mono ?_; rintro e w' ⟨rfl, rfl⟩))
  refine (next_any _ _ _).mono ?_; rintro e w3 ⟨rfl, hb3⟩
  go_wp2_with (first | (go_at_call 17; refine (fresh_any _ _).mono ?_; rintro e w' ⟨rfl, rfl⟩) | (go_at_call 18; refine (proposed_any _ _).mono ?_; rintro e w' ⟨rfl, rfl⟩) | (go_at_call 19; refine (open_any _ _).mono ?_; rintro e w' ⟨rfl, rfl⟩) | (go_at_call 20; refine (settled_any _ _).mono ?_; rintro e w' ⟨rfl, rfl⟩) | (go_at_call 16; refine (check_any _ _).mono ?_; rintro e w' ⟨rfl, rfl⟩))
  refine (awake19_any _).mono ?_; rintro e w4 ⟨rfl, hb4⟩
  go_wp2_with fail
  go_ret
  exact ⟨rfl, bt' hb1 (bt' hb2 (bt' hb3 (hb4)))⟩
set_option maxHeartbeats 1000000 in
theorem ends0_5  (w : World) : Calls Try.prog 5 #[.int .i64 0, .int .i64 5] w fun e w' => e = .returned (.bool true) ∧ Below w.heap.size w w' := by
  have f0 : checkE 0 = 0 := by decide +kernel
  have f1 : nextE 0 5 = 33 := by decide +kernel
  have f2 : nextP 0 5 = 0 := by decide +kernel
  have fs0 : settledB 0 = false := by decide +kernel
  have f5 : nextE 0 4 = 0 := by decide +kernel
  have f6 : nextP 0 4 = 5 := by decide +kernel
  have f7 : nextE 5 5 = 0 := by decide +kernel
  have f8 : nextP 5 5 = 6 := by decide +kernel
  go_enter Try.func5, Try.ntmps5
  go_wp2_with (first | (go_at_call 17; refine (fresh_any _ _).mono ?_; rintro e w' ⟨rfl, rfl⟩) | (go_at_call 18; refine (proposed_any _ _).mono ?_; rintro e w' ⟨rfl, rfl⟩) | (go_at_call 19; refine (open_any _ _).mono ?_; rintro e w' ⟨rfl, rfl⟩) | (go_at_call 20; refine (settled_any _ _).mono ?_; rintro e w' ⟨rfl, rfl⟩) | (go_at_call 16; refine (check_any _ _).mono ?_; rintro e w' ⟨rfl, rfl⟩))
  refine (next_any _ _ _).mono ?_; rintro e w1 ⟨rfl, hb1⟩
  go_wp2_with (first | (go_at_call 17; refine (fresh_any _ _).mono ?_; rintro e w' ⟨rfl, rfl⟩) | (go_at_call 18; refine (proposed_any _ _).mono ?_; rintro e w' ⟨rfl, rfl⟩) | (go_at_call 19; refine (open_any _ _).mono ?_; rintro e w' ⟨rfl, rfl⟩) | (go_at_call 20; refine (settled_any _ _).mono ?_; rintro e w' ⟨rfl, rfl⟩) | (go_at_call 16; refine (check_any _ _).mono ?_; rintro e w' ⟨rfl, rfl⟩))
  refine (next_any _ _ _).mono ?_; rintro e w2 ⟨rfl, hb2⟩
  go_wp2_with (first | (go_at_call 17; refine (fresh_any _ _).mono ?_; rintro e w' ⟨rfl, rfl⟩) | (go_at_call 18; refine (proposed_any _ _).mono ?_; rintro e w' ⟨rfl, rfl⟩) | (go_at_call 19; refine (open_any _ _).mono ?_; rintro e w' ⟨rfl, rfl⟩) | (go_at_call 20; refine (settled_any _ _).mono ?_; rintro e w' ⟨rfl, rfl⟩) | (go_at_call 16; refine (check_any _ _).mono ?_; rintro e w' ⟨rfl, rfl⟩))
  refine (next_any _ _ _).mono ?_; rintro e w3 ⟨rfl, hb3⟩
  go_wp2_with (first | (go_at_call 17; refine (fresh_any _ _).mono ?_; rintro e w' ⟨rfl, rfl⟩) | (go_at_call 18; refine (proposed_any _ _).mono ?_; rintro e w' ⟨rfl, rfl⟩) | (go_at_call 19; refine (open_any _ _).mono ?_; rintro e w' ⟨rfl, rfl⟩) | (go_at_call 20; refine (settled_any _ _).mono ?_; rintro e w' ⟨rfl, rfl⟩) | (go_at_call 16; refine (check_any _ _).mono ?_; rintro e w' ⟨rfl, rfl⟩))
  refine (awake19_any _).mono ?_; rintro e w4 ⟨rfl, hb4⟩
  go_wp2_with fail
  go_ret
  exact ⟨rfl, bt' hb1 (bt' hb2 (bt' hb3 (hb4)))⟩
set_option maxHeartbeats 1000000 in
theorem ends0_0 (act : Int) (ha : ¬ (1 ≤ act ∧ act ≤ 5)) (w : World) : Calls Try.prog 5 #[.int .i64 0, .int .i64 act] w fun e w' => e = .returned (.bool true) ∧ Below w.heap.size w w' := by
  have f0 : checkE 0 = 0 := by decide +kernel
  have f1 : nextE 0 act = 30 := by unfold nextE; rw [if_neg (by decide), if_pos (by omega)]
  have f2 : nextP 0 act = 0 := by unfold nextP; rw [if_neg (by rw [f1]; decide)]
  clear ha
  have fs0 : settledB 0 = false := by decide +kernel
  have f5 : nextE 0 4 = 0 := by decide +kernel
  have f6 : nextP 0 4 = 5 := by decide +kernel
  have f7 : nextE 5 5 = 0 := by decide +kernel
  have f8 : nextP 5 5 = 6 := by decide +kernel
  go_enter Try.func5, Try.ntmps5
  go_wp2_with (first | (go_at_call 17; refine (fresh_any _ _).mono ?_; rintro e w' ⟨rfl, rfl⟩) | (go_at_call 18; refine (proposed_any _ _).mono ?_; rintro e w' ⟨rfl, rfl⟩) | (go_at_call 19; refine (open_any _ _).mono ?_; rintro e w' ⟨rfl, rfl⟩) | (go_at_call 20; refine (settled_any _ _).mono ?_; rintro e w' ⟨rfl, rfl⟩) | (go_at_call 16; refine (check_any _ _).mono ?_; rintro e w' ⟨rfl, rfl⟩))
  refine (next_any _ _ _).mono ?_; rintro e w1 ⟨rfl, hb1⟩
  go_wp2_with (first | (go_at_call 17; refine (fresh_any _ _).mono ?_; rintro e w' ⟨rfl, rfl⟩) | (go_at_call 18; refine (proposed_any _ _).mono ?_; rintro e w' ⟨rfl, rfl⟩) | (go_at_call 19; refine (open_any _ _).mono ?_; rintro e w' ⟨rfl, rfl⟩) | (go_at_call 20; refine (settled_any _ _).mono ?_; rintro e w' ⟨rfl, rfl⟩) | (go_at_call 16; refine (check_any _ _).mono ?_; rintro e w' ⟨rfl, rfl⟩))
  refine (next_any _ _ _).mono ?_; rintro e w2 ⟨rfl, hb2⟩
  go_wp2_with (first | (go_at_call 17; refine (fresh_any _ _).mono ?_; rintro e w' ⟨rfl, rfl⟩) | (go_at_call 18; refine (proposed_any _ _).mono ?_; rintro e w' ⟨rfl, rfl⟩) | (go_at_call 19; refine (open_any _ _).mono ?_; rintro e w' ⟨rfl, rfl⟩) | (go_at_call 20; refine (settled_any _ _).mono ?_; rintro e w' ⟨rfl, rfl⟩) | (go_at_call 16; refine (check_any _ _).mono ?_; rintro e w' ⟨rfl, rfl⟩))
  refine (next_any _ _ _).mono ?_; rintro e w3 ⟨rfl, hb3⟩
  go_wp2_with (first | (go_at_call 17; refine (fresh_any _ _).mono ?_; rintro e w' ⟨rfl, rfl⟩) | (go_at_call 18; refine (proposed_any _ _).mono ?_; rintro e w' ⟨rfl, rfl⟩) | (go_at_call 19; refine (open_any _ _).mono ?_; rintro e w' ⟨rfl, rfl⟩) | (go_at_call 20; refine (settled_any _ _).mono ?_; rintro e w' ⟨rfl, rfl⟩) | (go_at_call 16; refine (check_any _ _).mono ?_; rintro e w' ⟨rfl, rfl⟩))
  refine (awake19_any _).mono ?_; rintro e w4 ⟨rfl, hb4⟩
  go_wp2_with fail
  go_ret
  exact ⟨rfl, bt' hb1 (bt' hb2 (bt' hb3 (hb4)))⟩
set_option maxHeartbeats 1000000 in
theorem ends1_1  (w : World) : Calls Try.prog 5 #[.int .i64 1, .int .i64 1] w fun e w' => e = .returned (.bool true) ∧ Below w.heap.size w w' := by
  have f0 : checkE 1 = 0 := by decide +kernel
  have f1 : nextE 1 1 = 33 := by decide +kernel
  have f2 : nextP 1 1 = 0 := by decide +kernel
  have fs0 : settledB 0 = false := by decide +kernel
  have fs1 : settledB 1 = false := by decide +kernel
  have f5 : nextE 1 4 = 0 := by decide +kernel
  have f6 : nextP 1 4 = 5 := by decide +kernel
  have f7 : nextE 5 5 = 0 := by decide +kernel
  have f8 : nextP 5 5 = 6 := by decide +kernel
  go_enter Try.func5, Try.ntmps5
  go_wp2_with (first | (go_at_call 17; refine (fresh_any _ _).mono ?_; rintro e w' ⟨rfl, rfl⟩) | (go_at_call 18; refine (proposed_any _ _).mono ?_; rintro e w' ⟨rfl, rfl⟩) | (go_at_call 19; refine (open_any _ _).mono ?_; rintro e w' ⟨rfl, rfl⟩) | (go_at_call 20; refine (settled_any _ _).mono ?_; rintro e w' ⟨rfl, rfl⟩) | (go_at_call 16; refine (check_any _ _).mono ?_; rintro e w' ⟨rfl, rfl⟩))
  refine (next_any _ _ _).mono ?_; rintro e w1 ⟨rfl, hb1⟩
  go_wp2_with (first | (go_at_call 17; refine (fresh_any _ _).mono ?_; rintro e w' ⟨rfl, rfl⟩) | (go_at_call 18; refine (proposed_any _ _).mono ?_; rintro e w' ⟨rfl, rfl⟩) | (go_at_call 19; refine (open_any _ _).mono ?_; rintro e w' ⟨rfl, rfl⟩) | (go_at_call 20; refine (settled_any _ _).mono ?_; rintro e w' ⟨rfl, rfl⟩) | (go_at_call 16; refine (check_any _ _).mono ?_; rintro e w' ⟨rfl, rfl⟩))
  refine (next_any _ _ _).mono ?_; rintro e w2 ⟨rfl, hb2⟩
  go_wp2_with (first | (go_at_call 17; refine (fresh_any _ _).mono ?_; rintro e w' ⟨rfl, rfl⟩) | (go_at_call 18; refine (proposed_any _ _).mono ?_; rintro e w' ⟨rfl, rfl⟩) | (go_at_call 19; refine (open_any _ _).mono ?_; rintro e w' ⟨rfl, rfl⟩) | (go_at_call 20; refine (settled_any _ _).mono ?_; rintro e w' ⟨rfl, rfl⟩) | (go_at_call 16; refine (check_any _ _).mono ?_; rintro e w' ⟨rfl, rfl⟩))
  refine (next_any _ _ _).mono ?_; rintro e w3 ⟨rfl, hb3⟩
  go_wp2_with (first | (go_at_call 17; refine (fresh_any _ _).mono ?_; rintro e w' ⟨rfl, rfl⟩) | (go_at_call 18; refine (proposed_any _ _).mono ?_; rintro e w' ⟨rfl, rfl⟩) | (go_at_call 19; refine (open_any _ _).mono ?_; rintro e w' ⟨rfl, rfl⟩) | (go_at_call 20; refine (settled_any _ _).mono ?_; rintro e w' ⟨rfl, rfl⟩) | (go_at_call 16; refine (check_any _ _).mono ?_; rintro e w' ⟨rfl, rfl⟩))
  refine (awake19_any _).mono ?_; rintro e w4 ⟨rfl, hb4⟩
  go_wp2_with fail
  go_ret
  exact ⟨rfl, bt' hb1 (bt' hb2 (bt' hb3 (hb4)))⟩
set_option maxHeartbeats 1000000 in
theorem ends1_2  (w : World) : Calls Try.prog 5 #[.int .i64 1, .int .i64 2] w fun e w' => e = .returned (.bool true) ∧ Below w.heap.size w w' := by
  have f0 : checkE 1 = 0 := by decide +kernel
  have f1 : nextE 1 2 = 0 := by decide +kernel
  have f2 : nextP 1 2 = 2 := by decide +kernel
  have fs1 : settledB 1 = false := by decide +kernel
  have fs2 : settledB 2 = false := by decide +kernel
  have f5 : nextE 1 4 = 0 := by decide +kernel
  have f6 : nextP 1 4 = 5 := by decide +kernel
  have f7 : nextE 5 5 = 0 := by decide +kernel
  have f8 : nextP 5 5 = 6 := by decide +kernel
  go_enter Try.func5, Try.ntmps5
  go_wp2_with (first | (go_at_call 17; refine (fresh_any _ _).mono ?_; rintro e w' ⟨rfl, rfl⟩) | (go_at_call 18; refine (proposed_any _ _).mono ?_; rintro e w' ⟨rfl, rfl⟩) | (go_at_call 19; refine (open_any _ _).mono ?_; rintro e w' ⟨rfl, rfl⟩) | (go_at_call 20; refine (settled_any _ _).mono ?_; rintro e w' ⟨rfl, rfl⟩) | (go_at_call 16; refine (check_any _ _).mono ?_; rintro e w' ⟨rfl, rfl⟩))
  refine (next_any _ _ _).mono ?_; rintro e w1 ⟨rfl, hb1⟩
  go_wp2_with (first | (go_at_call 17; refine (fresh_any _ _).mono ?_; rintro e w' ⟨rfl, rfl⟩) | (go_at_call 18; refine (proposed_any _ _).mono ?_; rintro e w' ⟨rfl, rfl⟩) | (go_at_call 19; refine (open_any _ _).mono ?_; rintro e w' ⟨rfl, rfl⟩) | (go_at_call 20; refine (settled_any _ _).mono ?_; rintro e w' ⟨rfl, rfl⟩) | (go_at_call 16; refine (check_any _ _).mono ?_; rintro e w' ⟨rfl, rfl⟩))
  refine (next_any _ _ _).mono ?_; rintro e w2 ⟨rfl, hb2⟩
  go_wp2_with (first | (go_at_call 17; refine (fresh_any _ _).mono ?_; rintro e w' ⟨rfl, rfl⟩) | (go_at_call 18; refine (proposed_any _ _).mono ?_; rintro e w' ⟨rfl, rfl⟩) | (go_at_call 19; refine (open_any _ _).mono ?_; rintro e w' ⟨rfl, rfl⟩) | (go_at_call 20; refine (settled_any _ _).mono ?_; rintro e w' ⟨rfl, rfl⟩) | (go_at_call 16; refine (check_any _ _).mono ?_; rintro e w' ⟨rfl, rfl⟩))
  refine (next_any _ _ _).mono ?_; rintro e w3 ⟨rfl, hb3⟩
  go_wp2_with (first | (go_at_call 17; refine (fresh_any _ _).mono ?_; rintro e w' ⟨rfl, rfl⟩) | (go_at_call 18; refine (proposed_any _ _).mono ?_; rintro e w' ⟨rfl, rfl⟩) | (go_at_call 19; refine (open_any _ _).mono ?_; rintro e w' ⟨rfl, rfl⟩) | (go_at_call 20; refine (settled_any _ _).mono ?_; rintro e w' ⟨rfl, rfl⟩) | (go_at_call 16; refine (check_any _ _).mono ?_; rintro e w' ⟨rfl, rfl⟩))
  refine (awake19_any _).mono ?_; rintro e w4 ⟨rfl, hb4⟩
  go_wp2_with fail
  go_ret
  exact ⟨rfl, bt' hb1 (bt' hb2 (bt' hb3 (hb4)))⟩
set_option maxHeartbeats 1000000 in
theorem ends1_3  (w : World) : Calls Try.prog 5 #[.int .i64 1, .int .i64 3] w fun e w' => e = .returned (.bool true) ∧ Below w.heap.size w w' := by
  have f0 : checkE 1 = 0 := by decide +kernel
  have f1 : nextE 1 3 = 0 := by decide +kernel
  have f2 : nextP 1 3 = 4 := by decide +kernel
  have fs1 : settledB 1 = false := by decide +kernel
  have fs4 : settledB 4 = false := by decide +kernel
  have f5 : nextE 1 4 = 0 := by decide +kernel
  have f6 : nextP 1 4 = 5 := by decide +kernel
  have f7 : nextE 5 5 = 0 := by decide +kernel
  have f8 : nextP 5 5 = 6 := by decide +kernel
  go_enter Try.func5, Try.ntmps5
  go_wp2_with (first | (go_at_call 17; refine (fresh_any _ _).mono ?_; rintro e w' ⟨rfl, rfl⟩) | (go_at_call 18; refine (proposed_any _ _).mono ?_; rintro e w' ⟨rfl, rfl⟩) | (go_at_call 19; refine (open_any _ _).mono ?_; rintro e w' ⟨rfl, rfl⟩) | (go_at_call 20; refine (settled_any _ _).mono ?_; rintro e w' ⟨rfl, rfl⟩) | (go_at_call 16; refine (check_any _ _).mono ?_; rintro e w' ⟨rfl, rfl⟩))
  refine (next_any _ _ _).mono ?_; rintro e w1 ⟨rfl, hb1⟩
  go_wp2_with (first | (go_at_call 17; refine (fresh_any _ _).mono ?_; rintro e w' ⟨rfl, rfl⟩) | (go_at_call 18; refine (proposed_any _ _).mono ?_; rintro e w' ⟨rfl, rfl⟩) | (go_at_call 19; refine (open_any _ _).mono ?_; rintro e w' ⟨rfl, rfl⟩) | (go_at_call 20; refine (settled_any _ _).mono ?_; rintro e w' ⟨rfl, rfl⟩) | (go_at_call 16; refine (check_any _ _).mono ?_; rintro e w' ⟨rfl, rfl⟩))
  refine (next_any _ _ _).mono ?_; rintro e w2 ⟨rfl, hb2⟩
  go_wp2_with (first | (go_at_call 17; refine (fresh_any _ _).mono ?_; rintro e w' ⟨rfl, rfl⟩) | (go_at_call 18; refine (proposed_any _ _).mono ?_; rintro e w' ⟨rfl, rfl⟩) | (go_at_call 19; refine (open_any _ _).mono ?_; rintro e w' ⟨rfl, rfl⟩) | (go_at_call 20; refine (settled_any _ _).mono ?_; rintro e w' ⟨rfl, rfl⟩) | (go_at_call 16; refine (check_any _ _).mono ?_; rintro e w' ⟨rfl, rfl⟩))
  refine (next_any _ _ _).mono ?_; rintro e w3 ⟨rfl, hb3⟩
  go_wp2_with (first | (go_at_call 17; refine (fresh_any _ _).mono ?_; rintro e w' ⟨rfl, rfl⟩) | (go_at_call 18; refine (proposed_any _ _).mono ?_; rintro e w' ⟨rfl, rfl⟩) | (go_at_call 19; refine (open_any _ _).mono ?_; rintro e w' ⟨rfl, rfl⟩) | (go_at_call 20; refine (settled_any _ _).mono ?_; rintro e w' ⟨rfl, rfl⟩) | (go_at_call 16; refine (check_any _ _).mono ?_; rintro e w' ⟨rfl, rfl⟩))
  refine (awake19_any _).mono ?_; rintro e w4 ⟨rfl, hb4⟩
  go_wp2_with fail
  go_ret
  exact ⟨rfl, bt' hb1 (bt' hb2 (bt' hb3 (hb4)))⟩
set_option maxHeartbeats 1000000 in
theorem ends1_4  (w : World) : Calls Try.prog 5 #[.int .i64 1, .int .i64 4] w fun e w' => e = .returned (.bool true) ∧ Below w.heap.size w w' := by
  have f0 : checkE 1 = 0 := by decide +kernel
  have f1 : nextE 1 4 = 0 := by decide +kernel
  have f2 : nextP 1 4 = 5 := by decide +kernel
  have fs1 : settledB 1 = false := by decide +kernel
  have fs5 : settledB 5 = true := by decide +kernel
  have f7 : nextE 5 5 = 0 := by decide +kernel
  have f8 : nextP 5 5 = 6 := by decide +kernel
  go_enter Try.func5, Try.ntmps5
  go_wp2_with (first | (go_at_call 17; refine (fresh_any _ _).mono ?_; rintro e w' ⟨rfl, rfl⟩) | (go_at_call 18; refine (proposed_any _ _).mono ?_; rintro e w' ⟨rfl, rfl⟩) | (go_at_call 19; refine (open_any _ _).mono ?_; rintro e w' ⟨rfl, rfl⟩) | (go_at_call 20; refine (settled_any _ _).mono ?_; rintro e w' ⟨rfl, rfl⟩) | (go_at_call 16; refine (check_any _ _).mono ?_; rintro e w' ⟨rfl, rfl⟩))
  refine (next_any _ _ _).mono ?_; rintro e w1 ⟨rfl, hb1⟩
  go_wp2_with (first | (go_at_call 17; refine (fresh_any _ _).mono ?_; rintro e w' ⟨rfl, rfl⟩) | (go_at_call 18; refine (proposed_any _ _).mono ?_; rintro e w' ⟨rfl, rfl⟩) | (go_at_call 19; refine (open_any _ _).mono ?_; rintro e w' ⟨rfl, rfl⟩) | (go_at_call 20; refine (settled_any _ _).mono ?_; rintro e w' ⟨rfl, rfl⟩) | (go_at_call 16; refine (check_any _ _).mono ?_; rintro e w' ⟨rfl, rfl⟩))
  refine (next_any _ _ _).mono ?_; rintro e w2 ⟨rfl, hb2⟩
  go_wp2_with (first | (go_at_call 17; refine (fresh_any _ _).mono ?_; rintro e w' ⟨rfl, rfl⟩) | (go_at_call 18; refine (proposed_any _ _).mono ?_; rintro e w' ⟨rfl, rfl⟩) | (go_at_call 19; refine (open_any _ _).mono ?_; rintro e w' ⟨rfl, rfl⟩) | (go_at_call 20; refine (settled_any _ _).mono ?_; rintro e w' ⟨rfl, rfl⟩) | (go_at_call 16; refine (check_any _ _).mono ?_; rintro e w' ⟨rfl, rfl⟩))
  refine (next_any _ _ _).mono ?_; rintro e w3 ⟨rfl, hb3⟩
  go_wp2_with (first | (go_at_call 17; refine (fresh_any _ _).mono ?_; rintro e w' ⟨rfl, rfl⟩) | (go_at_call 18; refine (proposed_any _ _).mono ?_; rintro e w' ⟨rfl, rfl⟩) | (go_at_call 19; refine (open_any _ _).mono ?_; rintro e w' ⟨rfl, rfl⟩) | (go_at_call 20; refine (settled_any _ _).mono ?_; rintro e w' ⟨rfl, rfl⟩) | (go_at_call 16; refine (check_any _ _).mono ?_; rintro e w' ⟨rfl, rfl⟩))
  refine (awake19_any _).mono ?_; rintro e w4 ⟨rfl, hb4⟩
  go_wp2_with fail
  go_ret
  exact ⟨rfl, bt' hb1 (bt' hb2 (bt' hb3 (hb4)))⟩
set_option maxHeartbeats 1000000 in
theorem ends1_5  (w : World) : Calls Try.prog 5 #[.int .i64 1, .int .i64 5] w fun e w' => e = .returned (.bool true) ∧ Below w.heap.size w w' := by
  have f0 : checkE 1 = 0 := by decide +kernel
  have f1 : nextE 1 5 = 33 := by decide +kernel
  have f2 : nextP 1 5 = 0 := by decide +kernel
  have fs0 : settledB 0 = false := by decide +kernel
  have fs1 : settledB 1 = false := by decide +kernel
  have f5 : nextE 1 4 = 0 := by decide +kernel
  have f6 : nextP 1 4 = 5 := by decide +kernel
  have f7 : nextE 5 5 = 0 := by decide +kernel
  have f8 : nextP 5 5 = 6 := by decide +kernel
  go_enter Try.func5, Try.ntmps5
  go_wp2_with (first | (go_at_call 17; refine (fresh_any _ _).mono ?_; rintro e w' ⟨rfl, rfl⟩) | (go_at_call 18; refine (proposed_any _ _).mono ?_; rintro e w' ⟨rfl, rfl⟩) | (go_at_call 19; refine (open_any _ _).mono ?_; rintro e w' ⟨rfl, rfl⟩) | (go_at_call 20; refine (settled_any _ _).mono ?_; rintro e w' ⟨rfl, rfl⟩) | (go_at_call 16; refine (check_any _ _).mono ?_; rintro e w' ⟨rfl, rfl⟩))
  refine (next_any _ _ _).mono ?_; rintro e w1 ⟨rfl, hb1⟩
  go_wp2_with (first | (go_at_call 17; refine (fresh_any _ _).mono ?_; rintro e w' ⟨rfl, rfl⟩) | (go_at_call 18; refine (proposed_any _ _).mono ?_; rintro e w' ⟨rfl, rfl⟩) | (go_at_call 19; refine (open_any _ _).mono ?_; rintro e w' ⟨rfl, rfl⟩) | (go_at_call 20; refine (settled_any _ _).mono ?_; rintro e w' ⟨rfl, rfl⟩) | (go_at_call 16; refine (check_any _ _).mono ?_; rintro e w' ⟨rfl, rfl⟩))
  refine (next_any _ _ _).mono ?_; rintro e w2 ⟨rfl, hb2⟩
  go_wp2_with (first | (go_at_call 17; refine (fresh_any _ _).mono ?_; rintro e w' ⟨rfl, rfl⟩) | (go_at_call 18; refine (proposed_any _ _).mono ?_; rintro e w' ⟨rfl, rfl⟩) | (go_at_call 19; refine (open_any _ _).mono ?_; rintro e w' ⟨rfl, rfl⟩) | (go_at_call 20; refine (settled_any _ _).mono ?_; rintro e w' ⟨rfl, rfl⟩) | (go_at_call 16; refine (check_any _ _).mono ?_; rintro e w' ⟨rfl, rfl⟩))
  refine (next_any _ _ _).mono ?_; rintro e w3 ⟨rfl, hb3⟩
  go_wp2_with (first | (go_at_call 17; refine (fresh_any _ _).mono ?_; rintro e w' ⟨rfl, rfl⟩) | (go_at_call 18; refine (proposed_any _ _).mono ?_; rintro e w' ⟨rfl, rfl⟩) | (go_at_call 19; refine (open_any _ _).mono ?_; rintro e w' ⟨rfl, rfl⟩) | (go_at_call 20; refine (settled_any _ _).mono ?_; rintro e w' ⟨rfl, rfl⟩) | (go_at_call 16; refine (check_any _ _).mono ?_; rintro e w' ⟨rfl, rfl⟩))
  refine (awake19_any _).mono ?_; rintro e w4 ⟨rfl, hb4⟩
  go_wp2_with fail
  go_ret
  exact ⟨rfl, bt' hb1 (bt' hb2 (bt' hb3 (hb4)))⟩
set_option maxHeartbeats 1000000 in
theorem ends1_0 (act : Int) (ha : ¬ (1 ≤ act ∧ act ≤ 5)) (w : World) : Calls Try.prog 5 #[.int .i64 1, .int .i64 act] w fun e w' => e = .returned (.bool true) ∧ Below w.heap.size w w' := by
  have f0 : checkE 1 = 0 := by decide +kernel
  have f1 : nextE 1 act = 30 := by unfold nextE; rw [if_neg (by decide), if_pos (by omega)]
  have f2 : nextP 1 act = 0 := by unfold nextP; rw [if_neg (by rw [f1]; decide)]
  clear ha
  have fs0 : settledB 0 = false := by decide +kernel
  have fs1 : settledB 1 = false := by decide +kernel
  have f5 : nextE 1 4 = 0 := by decide +kernel
  have f6 : nextP 1 4 = 5 := by decide +kernel
  have f7 : nextE 5 5 = 0 := by decide +kernel
  have f8 : nextP 5 5 = 6 := by decide +kernel
  go_enter Try.func5, Try.ntmps5
  go_wp2_with (first | (go_at_call 17; refine (fresh_any _ _).mono ?_; rintro e w' ⟨rfl, rfl⟩) | (go_at_call 18; refine (proposed_any _ _).mono ?_; rintro e w' ⟨rfl, rfl⟩) | (go_at_call 19; refine (open_any _ _).mono ?_; rintro e w' ⟨rfl, rfl⟩) | (go_at_call 20; refine (settled_any _ _).mono ?_; rintro e w' ⟨rfl, rfl⟩) | (go_at_call 16; refine (check_any _ _).mono ?_; rintro e w' ⟨rfl, rfl⟩))
  refine (next_any _ _ _).mono ?_; rintro e w1 ⟨rfl, hb1⟩
  go_wp2_with (first | (go_at_call 17; refine (fresh_any _ _).mono ?_; rintro e w' ⟨rfl, rfl⟩) | (go_at_call 18; refine (proposed_any _ _).mono ?_; rintro e w' ⟨rfl, rfl⟩) | (go_at_call 19; refine (open_any _ _).mono ?_; rintro e w' ⟨rfl, rfl⟩) | (go_at_call 20; refine (settled_any _ _).mono ?_; rintro e w' ⟨rfl, rfl⟩) | (go_at_call 16; refine (check_any _ _).mono ?_; rintro e w' ⟨rfl, rfl⟩))
  refine (next_any _ _ _).mono ?_; rintro e w2 ⟨rfl, hb2⟩
  go_wp2_with (first | (go_at_call 17; refine (fresh_any _ _).mono ?_; rintro e w' ⟨rfl, rfl⟩) | (go_at_call 18; refine (proposed_any _ _).mono ?_; rintro e w' ⟨rfl, rfl⟩) | (go_at_call 19; refine (open_any _ _).mono ?_; rintro e w' ⟨rfl, rfl⟩) | (go_at_call 20; refine (settled_any _ _).mono ?_; rintro e w' ⟨rfl, rfl⟩) | (go_at_call 16; refine (check_any _ _).mono ?_; rintro e w' ⟨rfl, rfl⟩))
  refine (next_any _ _ _).mono ?_; rintro e w3 ⟨rfl, hb3⟩
  go_wp2_with (first | (go_at_call 17; refine (fresh_any _ _).mono ?_; rintro e w' ⟨rfl, rfl⟩) | (go_at_call 18; refine (proposed_any _ _).mono ?_; rintro e w' ⟨rfl, rfl⟩) | (go_at_call 19; refine (open_any _ _).mono ?_; rintro e w' ⟨rfl, rfl⟩) | (go_at_call 20; refine (settled_any _ _).mono ?_; rintro e w' ⟨rfl, rfl⟩) | (go_at_call 16; refine (check_any _ _).mono ?_; rintro e w' ⟨rfl, rfl⟩))
  refine (awake19_any _).mono ?_; rintro e w4 ⟨rfl, hb4⟩
  go_wp2_with fail
  go_ret
  exact ⟨rfl, bt' hb1 (bt' hb2 (bt' hb3 (hb4)))⟩
set_option maxHeartbeats 1000000 in
theorem ends2_1  (w : World) : Calls Try.prog 5 #[.int .i64 2, .int .i64 1] w fun e w' => e = .returned (.bool true) ∧ Below w.heap.size w w' := by
  have f0 : checkE 2 = 0 := by decide +kernel
  have f1 : nextE 2 1 = 33 := by decide +kernel
  have f2 : nextP 2 1 = 0 := by decide +kernel
  have fs0 : settledB 0 = false := by decide +kernel
  have fs2 : settledB 2 = false := by decide +kernel
  have f5 : nextE 2 4 = 0 := by decide +kernel
  have f6 : nextP 2 4 = 5 := by decide +kernel
  have f7 : nextE 5 5 = 0 := by decide +kernel
  have f8 : nextP 5 5 = 6 := by decide +kernel
  go_enter Try.func5, Try.ntmps5
  go_wp2_with (first | (go_at_call 17; refine (fresh_any _ _).mono ?_; rintro e w' ⟨rfl, rfl⟩) | (go_at_call 18; refine (proposed_any _ _).mono ?_; rintro e w' ⟨rfl, rfl⟩) | (go_at_call 19; refine (open_any _ _).mono ?_; rintro e w' ⟨rfl, rfl⟩) | (go_at_call 20; refine (settled_any _ _).mono ?_; rintro e w' ⟨rfl, rfl⟩) | (go_at_call 16; refine (check_any _ _).mono ?_; rintro e w' ⟨rfl, rfl⟩))
  refine (next_any _ _ _).mono ?_; rintro e w1 ⟨rfl, hb1⟩
  go_wp2_with (first | (go_at_call 17; refine (fresh_any _ _).mono ?_; rintro e w' ⟨rfl, rfl⟩) | (go_at_call 18; refine (proposed_any _ _).mono ?_; rintro e w' ⟨rfl, rfl⟩) | (go_at_call 19; refine (open_any _ _).mono ?_; rintro e w' ⟨rfl, rfl⟩) | (go_at_call 20; refine (settled_any _ _).mono ?_; rintro e w' ⟨rfl, rfl⟩) | (go_at_call 16; refine (check_any _ _).mono ?_; rintro e w' ⟨rfl, rfl⟩))
  refine (next_any _ _ _).mono ?_; rintro e w2 ⟨rfl, hb2⟩
  go_wp2_with (first | (go_at_call 17; refine (fresh_any _ _).mono ?_; rintro e w' ⟨rfl, rfl⟩) | (go_at_call 18; refine (proposed_any _ _).mono ?_; rintro e w' ⟨rfl, rfl⟩) | (go_at_call 19; refine (open_any _ _).mono ?_; rintro e w' ⟨rfl, rfl⟩) | (go_at_call 20; refine (settled_any _ _).mono ?_; rintro e w' ⟨rfl, rfl⟩) | (go_at_call 16; refine (check_any _ _).mono ?_; rintro e w' ⟨rfl, rfl⟩))
  refine (next_any _ _ _).mono ?_; rintro e w3 ⟨rfl, hb3⟩
  go_wp2_with (first | (go_at_call 17; refine (fresh_any _ _).mono ?_; rintro e w' ⟨rfl, rfl⟩) | (go_at_call 18; refine (proposed_any _ _).mono ?_; rintro e w' ⟨rfl, rfl⟩) | (go_at_call 19; refine (open_any _ _).mono ?_; rintro e w' ⟨rfl, rfl⟩) | (go_at_call 20; refine (settled_any _ _).mono ?_; rintro e w' ⟨rfl, rfl⟩) | (go_at_call 16; refine (check_any _ _).mono ?_; rintro e w' ⟨rfl, rfl⟩))
  refine (awake19_any _).mono ?_; rintro e w4 ⟨rfl, hb4⟩
  go_wp2_with fail
  go_ret
  exact ⟨rfl, bt' hb1 (bt' hb2 (bt' hb3 (hb4)))⟩
set_option maxHeartbeats 1000000 in
theorem ends2_2  (w : World) : Calls Try.prog 5 #[.int .i64 2, .int .i64 2] w fun e w' => e = .returned (.bool true) ∧ Below w.heap.size w w' := by
  have f0 : checkE 2 = 0 := by decide +kernel
  have f1 : nextE 2 2 = 33 := by decide +kernel
  have f2 : nextP 2 2 = 0 := by decide +kernel
  have fs0 : settledB 0 = false := by decide +kernel
  have fs2 : settledB 2 = false := by decide +kernel
  have f5 : nextE 2 4 = 0 := by decide +kernel
  have f6 : nextP 2 4 = 5 := by decide +kernel
  have f7 : nextE 5 5 = 0 := by decide +kernel
  have f8 : nextP 5 5 = 6 := by decide +kernel
  go_enter Try.func5, Try.ntmps5
  go_wp2_with (first | (go_at_call 17; refine (fresh_any _ _).mono ?_; rintro e w' ⟨rfl, rfl⟩) | (go_at_call 18; refine (proposed_any _ _).mono ?_; rintro e w' ⟨rfl, rfl⟩) | (go_at_call 19; refine (open_any _ _).mono ?_; rintro e w' ⟨rfl, rfl⟩) | (go_at_call 20; refine (settled_any _ _).mono ?_; rintro e w' ⟨rfl, rfl⟩) | (go_at_call 16; refine (check_any _ _).mono ?_; rintro e w' ⟨rfl, rfl⟩))
  refine (next_any _ _ _).mono ?_; rintro e w1 ⟨rfl, hb1⟩
  go_wp2_with (first | (go_at_call 17; refine (fresh_any _ _).mono ?_; rintro e w' ⟨rfl, rfl⟩) | (go_at_call 18; refine (proposed_any _ _).mono ?_; rintro e w' ⟨rfl, rfl⟩) | (go_at_call 19; refine (open_any _ _).mono ?_; rintro e w' ⟨rfl, rfl⟩) | (go_at_call 20; refine (settled_any _ _).mono ?_; rintro e w' ⟨rfl, rfl⟩) | (go_at_call 16; refine (check_any _ _).mono ?_; rintro e w' ⟨rfl, rfl⟩))
  refine (next_any _ _ _).mono ?_; rintro e w2 ⟨rfl, hb2⟩
  go_wp2_with (first | (go_at_call 17; refine (fresh_any _ _).mono ?_; rintro e w' ⟨rfl, rfl⟩) | (go_at_call 18; refine (proposed_any _ _).mono ?_; rintro e w' ⟨rfl, rfl⟩) | (go_at_call 19; refine (open_any _ _).mono ?_; rintro e w' ⟨rfl, rfl⟩) | (go_at_call 20; refine (settled_any _ _).mono ?_; rintro e w' ⟨rfl, rfl⟩) | (go_at_call 16; refine (check_any _ _).mono ?_; rintro e w' ⟨rfl, rfl⟩))
  refine (next_any _ _ _).mono ?_; rintro e w3 ⟨rfl, hb3⟩
  go_wp2_with (first | (go_at_call 17; refine (fresh_any _ _).mono ?_; rintro e w' ⟨rfl, rfl⟩) | (go_at_call 18; refine (proposed_any _ _).mono ?_; rintro e w' ⟨rfl, rfl⟩) | (go_at_call 19; refine (open_any _ _).mono ?_; rintro e w' ⟨rfl, rfl⟩) | (go_at_call 20; refine (settled_any _ _).mono ?_; rintro e w' ⟨rfl, rfl⟩) | (go_at_call 16; refine (check_any _ _).mono ?_; rintro e w' ⟨rfl, rfl⟩))
  refine (awake19_any _).mono ?_; rintro e w4 ⟨rfl, hb4⟩
  go_wp2_with fail
  go_ret
  exact ⟨rfl, bt' hb1 (bt' hb2 (bt' hb3 (hb4)))⟩
set_option maxHeartbeats 1000000 in
theorem ends2_3  (w : World) : Calls Try.prog 5 #[.int .i64 2, .int .i64 3] w fun e w' => e = .returned (.bool true) ∧ Below w.heap.size w w' := by
  have f0 : checkE 2 = 0 := by decide +kernel
  have f1 : nextE 2 3 = 0 := by decide +kernel
  have f2 : nextP 2 3 = 3 := by decide +kernel
  have fs2 : settledB 2 = false := by decide +kernel
  have fs3 : settledB 3 = false := by decide +kernel
  have f5 : nextE 2 4 = 0 := by decide +kernel
  have f6 : nextP 2 4 = 5 := by decide +kernel
  have f7 : nextE 5 5 = 0 := by decide +kernel
  have f8 : nextP 5 5 = 6 := by decide +kernel
  go_enter Try.func5, Try.ntmps5
  go_wp2_with (first | (go_at_call 17; refine (fresh_any _ _).mono ?_; rintro e w' ⟨rfl, rfl⟩) | (go_at_call 18; refine (proposed_any _ _).mono ?_; rintro e w' ⟨rfl, rfl⟩) | (go_at_call 19; refine (open_any _ _).mono ?_; rintro e w' ⟨rfl, rfl⟩) | (go_at_call 20; refine (settled_any _ _).mono ?_; rintro e w' ⟨rfl, rfl⟩) | (go_at_call 16; refine (check_any _ _).mono ?_; rintro e w' ⟨rfl, rfl⟩))
  refine (next_any _ _ _).mono ?_; rintro e w1 ⟨rfl, hb1⟩
  go_wp2_with (first | (go_at_call 17; refine (fresh_any _ _).mono ?_; rintro e w' ⟨rfl, rfl⟩) | (go_at_call 18; refine (proposed_any _ _).mono ?_; rintro e w' ⟨rfl, rfl⟩) | (go_at_call 19; refine (open_any _ _).mono ?_; rintro e w' ⟨rfl, rfl⟩) | (go_at_call 20; refine (settled_any _ _).mono ?_; rintro e w' ⟨rfl, rfl⟩) | (go_at_call 16; refine (check_any _ _).mono ?_; rintro e w' ⟨rfl, rfl⟩))
  refine (next_any _ _ _).mono ?_; rintro e w2 ⟨rfl, hb2⟩
  go_wp2_with (first | (go_at_call 17; refine (fresh_any _ _).mono ?_; rintro e w' ⟨rfl, rfl⟩) | (go_at_call 18; refine (proposed_any _ _).mono ?_; rintro e w' ⟨rfl, rfl⟩) | (go_at_call 19; refine (open_any _ _).mono ?_; rintro e w' ⟨rfl, rfl⟩) | (go_at_call 20; refine (settled_any _ _).mono ?_; rintro e w' ⟨rfl, rfl⟩) | (go_at_call 16; refine (check_any _ _).mono ?_; rintro e w' ⟨rfl, rfl⟩))
  refine (next_any _ _ _).mono ?_; rintro e w3 ⟨rfl, hb3⟩
  go_wp2_with (first | (go_at_call 17; refine (fresh_any _ _).mono ?_; rintro e w' ⟨rfl, rfl⟩) | (go_at_call 18; refine (proposed_any _ _).mono ?_; rintro e w' ⟨rfl, rfl⟩) | (go_at_call 19; refine (open_any _ _).mono ?_; rintro e w' ⟨rfl, rfl⟩) | (go_at_call 20; refine (settled_any _ _).mono ?_; rintro e w' ⟨rfl, rfl⟩) | (go_at_call 16; refine (check_any _ _).mono ?_; rintro e w' ⟨rfl, rfl⟩))
  refine (awake19_any _).mono ?_; rintro e w4 ⟨rfl, hb4⟩
  go_wp2_with fail
  go_ret
  exact ⟨rfl, bt' hb1 (bt' hb2 (bt' hb3 (hb4)))⟩
set_option maxHeartbeats 1000000 in
theorem ends2_4  (w : World) : Calls Try.prog 5 #[.int .i64 2, .int .i64 4] w fun e w' => e = .returned (.bool true) ∧ Below w.heap.size w w' := by
  have f0 : checkE 2 = 0 := by decide +kernel
  have f1 : nextE 2 4 = 0 := by decide +kernel
  have f2 : nextP 2 4 = 5 := by decide +kernel
  have fs2 : settledB 2 = false := by decide +kernel
  have fs5 : settledB 5 = true := by decide +kernel
  have f7 : nextE 5 5 = 0 := by decide +kernel
  have f8 : nextP 5 5 = 6 := by decide +kernel
  go_enter Try.func5, Try.ntmps5
  go_wp2_with (first | (go_at_call 17; refine (fresh_any _ _).mono ?_; rintro e w' ⟨rfl, rfl⟩) | (go_at_call 18; refine (proposed_any _ _).mono ?_; rintro e w' ⟨rfl, rfl⟩) | (go_at_call 19; refine (open_any _ _).mono ?_; rintro e w' ⟨rfl, rfl⟩) | (go_at_call 20; refine (settled_any _ _).mono ?_; rintro e w' ⟨rfl, rfl⟩) | (go_at_call 16; refine (check_any _ _).mono ?_; rintro e w' ⟨rfl, rfl⟩))
  refine (next_any _ _ _).mono ?_; rintro e w1 ⟨rfl, hb1⟩
  go_wp2_with (first | (go_at_call 17; refine (fresh_any _ _).mono ?_; rintro e w' ⟨rfl, rfl⟩) | (go_at_call 18; refine (proposed_any _ _).mono ?_; rintro e w' ⟨rfl, rfl⟩) | (go_at_call 19; refine (open_any _ _).mono ?_; rintro e w' ⟨rfl, rfl⟩) | (go_at_call 20; refine (settled_any _ _).mono ?_; rintro e w' ⟨rfl, rfl⟩) | (go_at_call 16; refine (check_any _ _).mono ?_; rintro e w' ⟨rfl, rfl⟩))
  refine (next_any _ _ _).mono ?_; rintro e w2 ⟨rfl, hb2⟩
  go_wp2_with (first | (go_at_call 17; refine (fresh_any _ _).mono ?_; rintro e w' ⟨rfl, rfl⟩) | (go_at_call 18; refine (proposed_any _ _).mono ?_; rintro e w' ⟨rfl, rfl⟩) | (go_at_call 19; refine (open_any _ _).mono ?_; rintro e w' ⟨rfl, rfl⟩) | (go_at_call 20; refine (settled_any _ _).mono ?_; rintro e w' ⟨rfl, rfl⟩) | (go_at_call 16; refine (check_any _ _).mono ?_; rintro e w' ⟨rfl, rfl⟩))
  refine (next_any _ _ _).mono ?_; rintro e w3 ⟨rfl, hb3⟩
  go_wp2_with (first | (go_at_call 17; refine (fresh_any _ _).mono ?_; rintro e w' ⟨rfl, rfl⟩) | (go_at_call 18; refine (proposed_any _ _).mono ?_; rintro e w' ⟨rfl, rfl⟩) | (go_at_call 19; refine (open_any _ _).mono ?_; rintro e w' ⟨rfl, rfl⟩) | (go_at_call 20; refine (settled_any _ _).mono ?_; rintro e w' ⟨rfl, rfl⟩) | (go_at_call 16; refine (check_any _ _).mono ?_; rintro e w' ⟨rfl, rfl⟩))
  refine (awake19_any _).mono ?_; rintro e w4 ⟨rfl, hb4⟩
  go_wp2_with fail
  go_ret
  exact ⟨rfl, bt' hb1 (bt' hb2 (bt' hb3 (hb4)))⟩
set_option maxHeartbeats 1000000 in
theorem ends2_5  (w : World) : Calls Try.prog 5 #[.int .i64 2, .int .i64 5] w fun e w' => e = .returned (.bool true) ∧ Below w.heap.size w w' := by
  have f0 : checkE 2 = 0 := by decide +kernel
  have f1 : nextE 2 5 = 33 := by decide +kernel
  have f2 : nextP 2 5 = 0 := by decide +kernel
  have fs0 : settledB 0 = false := by decide +kernel
  have fs2 : settledB 2 = false := by decide +kernel
  have f5 : nextE 2 4 = 0 := by decide +kernel
  have f6 : nextP 2 4 = 5 := by decide +kernel
  have f7 : nextE 5 5 = 0 := by decide +kernel
  have f8 : nextP 5 5 = 6 := by decide +kernel
  go_enter Try.func5, Try.ntmps5
  go_wp2_with (first | (go_at_call 17; refine (fresh_any _ _).mono ?_; rintro e w' ⟨rfl, rfl⟩) | (go_at_call 18; refine (proposed_any _ _).mono ?_; rintro e w' ⟨rfl, rfl⟩) | (go_at_call 19; refine (open_any _ _).mono ?_; rintro e w' ⟨rfl, rfl⟩) | (go_at_call 20; refine (settled_any _ _).mono ?_; rintro e w' ⟨rfl, rfl⟩) | (go_at_call 16; refine (check_any _ _).mono ?_; rintro e w' ⟨rfl, rfl⟩))
  refine (next_any _ _ _).mono ?_; rintro e w1 ⟨rfl, hb1⟩
  go_wp2_with (first | (go_at_call 17; refine (fresh_any _ _).mono ?_; rintro e w' ⟨rfl, rfl⟩) | (go_at_call 18; refine (proposed_any _ _).mono ?_; rintro e w' ⟨rfl, rfl⟩) | (go_at_call 19; refine (open_any _ _).mono ?_; rintro e w' ⟨rfl, rfl⟩) | (go_at_call 20; refine (settled_any _ _).mono ?_; rintro e w' ⟨rfl, rfl⟩) | (go_at_call 16; refine (check_any _ _).mono ?_; rintro e w' ⟨rfl, rfl⟩))
  refine (next_any _ _ _).mono ?_; rintro e w2 ⟨rfl, hb2⟩
  go_wp2_with (first | (go_at_call 17; refine (fresh_any _ _).mono ?_; rintro e w' ⟨rfl, rfl⟩) | (go_at_call 18; refine (proposed_any _ _).mono ?_; rintro e w' ⟨rfl, rfl⟩) | (go_at_call 19; refine (open_any _ _).mono ?_; rintro e w' ⟨rfl, rfl⟩) | (go_at_call 20; refine (settled_any _ _).mono ?_; rintro e w' ⟨rfl, rfl⟩) | (go_at_call 16; refine (check_any _ _).mono ?_; rintro e w' ⟨rfl, rfl⟩))
  refine (next_any _ _ _).mono ?_; rintro e w3 ⟨rfl, hb3⟩
  go_wp2_with (first | (go_at_call 17; refine (fresh_any _ _).mono ?_; rintro e w' ⟨rfl, rfl⟩) | (go_at_call 18; refine (proposed_any _ _).mono ?_; rintro e w' ⟨rfl, rfl⟩) | (go_at_call 19; refine (open_any _ _).mono ?_; rintro e w' ⟨rfl, rfl⟩) | (go_at_call 20; refine (settled_any _ _).mono ?_; rintro e w' ⟨rfl, rfl⟩) | (go_at_call 16; refine (check_any _ _).mono ?_; rintro e w' ⟨rfl, rfl⟩))
  refine (awake19_any _).mono ?_; rintro e w4 ⟨rfl, hb4⟩
  go_wp2_with fail
  go_ret
  exact ⟨rfl, bt' hb1 (bt' hb2 (bt' hb3 (hb4)))⟩
set_option maxHeartbeats 1000000 in
theorem ends2_0 (act : Int) (ha : ¬ (1 ≤ act ∧ act ≤ 5)) (w : World) : Calls Try.prog 5 #[.int .i64 2, .int .i64 act] w fun e w' => e = .returned (.bool true) ∧ Below w.heap.size w w' := by
  have f0 : checkE 2 = 0 := by decide +kernel
  have f1 : nextE 2 act = 30 := by unfold nextE; rw [if_neg (by decide), if_pos (by omega)]
  have f2 : nextP 2 act = 0 := by unfold nextP; rw [if_neg (by rw [f1]; decide)]
  clear ha
  have fs0 : settledB 0 = false := by decide +kernel
  have fs2 : settledB 2 = false := by decide +kernel
  have f5 : nextE 2 4 = 0 := by decide +kernel
  have f6 : nextP 2 4 = 5 := by decide +kernel
  have f7 : nextE 5 5 = 0 := by decide +kernel
  have f8 : nextP 5 5 = 6 := by decide +kernel
  go_enter Try.func5, Try.ntmps5
  go_wp2_with (first | (go_at_call 17; refine (fresh_any _ _).mono ?_; rintro e w' ⟨rfl, rfl⟩) | (go_at_call 18; refine (proposed_any _ _).mono ?_; rintro e w' ⟨rfl, rfl⟩) | (go_at_call 19; refine (open_any _ _).mono ?_; rintro e w' ⟨rfl, rfl⟩) | (go_at_call 20; refine (settled_any _ _).mono ?_; rintro e w' ⟨rfl, rfl⟩) | (go_at_call 16; refine (check_any _ _).mono ?_; rintro e w' ⟨rfl, rfl⟩))
  refine (next_any _ _ _).mono ?_; rintro e w1 ⟨rfl, hb1⟩
  go_wp2_with (first | (go_at_call 17; refine (fresh_any _ _).mono ?_; rintro e w' ⟨rfl, rfl⟩) | (go_at_call 18; refine (proposed_any _ _).mono ?_; rintro e w' ⟨rfl, rfl⟩) | (go_at_call 19; refine (open_any _ _).mono ?_; rintro e w' ⟨rfl, rfl⟩) | (go_at_call 20; refine (settled_any _ _).mono ?_; rintro e w' ⟨rfl, rfl⟩) | (go_at_call 16; refine (check_any _ _).mono ?_; rintro e w' ⟨rfl, rfl⟩))
  refine (next_any _ _ _).mono ?_; rintro e w2 ⟨rfl, hb2⟩
  go_wp2_with (first | (go_at_call 17; refine (fresh_any _ _).mono ?_; rintro e w' ⟨rfl, rfl⟩) | (go_at_call 18; refine (proposed_any _ _).mono ?_; rintro e w' ⟨rfl, rfl⟩) | (go_at_call 19; refine (open_any _ _).mono ?_; rintro e w' ⟨rfl, rfl⟩) | (go_at_call 20; refine (settled_any _ _).mono ?_; rintro e w' ⟨rfl, rfl⟩) | (go_at_call 16; refine (check_any _ _).mono ?_; rintro e w' ⟨rfl, rfl⟩))
  refine (next_any _ _ _).mono ?_; rintro e w3 ⟨rfl, hb3⟩
  go_wp2_with (first | (go_at_call 17; refine (fresh_any _ _).mono ?_; rintro e w' ⟨rfl, rfl⟩) | (go_at_call 18; refine (proposed_any _ _).mono ?_; rintro e w' ⟨rfl, rfl⟩) | (go_at_call 19; refine (open_any _ _).mono ?_; rintro e w' ⟨rfl, rfl⟩) | (go_at_call 20; refine (settled_any _ _).mono ?_; rintro e w' ⟨rfl, rfl⟩) | (go_at_call 16; refine (check_any _ _).mono ?_; rintro e w' ⟨rfl, rfl⟩))
  refine (awake19_any _).mono ?_; rintro e w4 ⟨rfl, hb4⟩
  go_wp2_with fail
  go_ret
  exact ⟨rfl, bt' hb1 (bt' hb2 (bt' hb3 (hb4)))⟩
set_option maxHeartbeats 1000000 in
theorem ends3_1  (w : World) : Calls Try.prog 5 #[.int .i64 3, .int .i64 1] w fun e w' => e = .returned (.bool true) ∧ Below w.heap.size w w' := by
  have f0 : checkE 3 = 0 := by decide +kernel
  have f1 : nextE 3 1 = 33 := by decide +kernel
  have f2 : nextP 3 1 = 0 := by decide +kernel
  have fs0 : settledB 0 = false := by decide +kernel
  have fs3 : settledB 3 = false := by decide +kernel
  have f5 : nextE 3 4 = 0 := by decide +kernel
  have f6 : nextP 3 4 = 5 := by decide +kernel
  have f7 : nextE 5 5 = 0 := by decide +kernel
  have f8 : nextP 5 5 = 6 := by decide +kernel
  go_enter Try.func5, Try.ntmps5
  go_wp2_with (first | (go_at_call 17; refine (fresh_any _ _).mono ?_; rintro e w' ⟨rfl, rfl⟩) | (go_at_call 18; refine (proposed_any _ _).mono ?_; rintro e w' ⟨rfl, rfl⟩) | (go_at_call 19; refine (open_any _ _).mono ?_; rintro e w' ⟨rfl, rfl⟩) | (go_at_call 20; refine (settled_any _ _).mono ?_; rintro e w' ⟨rfl, rfl⟩) | (go_at_call 16; refine (check_any _ _).mono ?_; rintro e w' ⟨rfl, rfl⟩))
  refine (next_any _ _ _).mono ?_; rintro e w1 ⟨rfl, hb1⟩
  go_wp2_with (first | (go_at_call 17; refine (fresh_any _ _).mono ?_; rintro e w' ⟨rfl, rfl⟩) | (go_at_call 18; refine (proposed_any _ _).mono ?_; rintro e w' ⟨rfl, rfl⟩) | (go_at_call 19; refine (open_any _ _).mono ?_; rintro e w' ⟨rfl, rfl⟩) | (go_at_call 20; refine (settled_any _ _).mono ?_; rintro e w' ⟨rfl, rfl⟩) | (go_at_call 16; refine (check_any _ _).mono ?_; rintro e w' ⟨rfl, rfl⟩))
  refine (next_any _ _ _).mono ?_; rintro e w2 ⟨rfl, hb2⟩
  go_wp2_with (first | (go_at_call 17; refine (fresh_any _ _).mono ?_; rintro e w' ⟨rfl, rfl⟩) | (go_at_call 18; refine (proposed_any _ _).mono ?_; rintro e w' ⟨rfl, rfl⟩) | (go_at_call 19; refine (open_any _ _).mono ?_; rintro e w' ⟨rfl, rfl⟩) | (go_at_call 20; refine (settled_any _ _).mono ?_; rintro e w' ⟨rfl, rfl⟩) | (go_at_call 16; refine (check_any _ _).mono ?_; rintro e w' ⟨rfl, rfl⟩))
  refine (next_any _ _ _).mono ?_; rintro e w3 ⟨rfl, hb3⟩
  go_wp2_with (first | (go_at_call 17; refine (fresh_any _ _).mono ?_; rintro e w' ⟨rfl, rfl⟩) | (go_at_call 18; refine (proposed_any _ _).mono ?_; rintro e w' ⟨rfl, rfl⟩) | (go_at_call 19; refine (open_any _ _).mono ?_; rintro e w' ⟨rfl, rfl⟩) | (go_at_call 20; refine (settled_any _ _).mono ?_; rintro e w' ⟨rfl, rfl⟩) | (go_at_call 16; refine (check_any _ _).mono ?_; rintro e w' ⟨rfl, rfl⟩))
  refine (awake19_any _).mono ?_; rintro e w4 ⟨rfl, hb4⟩
  go_wp2_with fail
  go_ret
  exact ⟨rfl, bt' hb1 (bt' hb2 (bt' hb3 (hb4)))⟩
set_option maxHeartbeats 1000000 in
theorem ends3_2  (w : World) : Calls Try.prog 5 #[.int .i64 3, .int .i64 2] w fun e w' => e = .returned (.bool true) ∧ Below w.heap.size w w' := by
  have f0 : checkE 3 = 0 := by decide +kernel
  have f1 : nextE 3 2 = 33 := by decide +kernel
  have f2 : nextP 3 2 = 0 := by decide +kernel
  have fs0 : settledB 0 = false := by decide +kernel
  have fs3 : settledB 3 = false := by decide +kernel
  have f5 : nextE 3 4 = 0 := by decide +kernel
  have f6 : nextP 3 4 = 5 := by decide +kernel
  have f7 : nextE 5 5 = 0 := by decide +kernel
  have f8 : nextP 5 5 = 6 := by decide +kernel
  go_enter Try.func5, Try.ntmps5
  go_wp2_with (first | (go_at_call 17; refine (fresh_any _ _).mono ?_; rintro e w' ⟨rfl, rfl⟩) | (go_at_call 18; refine (proposed_any _ _).mono ?_; rintro e w' ⟨rfl, rfl⟩) | (go_at_call 19; refine (open_any _ _).mono ?_; rintro e w' ⟨rfl, rfl⟩) | (go_at_call 20; refine (settled_any _ _).mono ?_; rintro e w' ⟨rfl, rfl⟩) | (go_at_call 16; refine (check_any _ _).mono ?_; rintro e w' ⟨rfl, rfl⟩))
  refine (next_any _ _ _).mono ?_; rintro e w1 ⟨rfl, hb1⟩
  go_wp2_with (first | (go_at_call 17; refine (fresh_any _ _).mono ?_; rintro e w' ⟨rfl, rfl⟩) | (go_at_call 18; refine (proposed_any _ _).mono ?_; rintro e w' ⟨rfl, rfl⟩) | (go_at_call 19; refine (open_any _ _).mono ?_; rintro e w' ⟨rfl, rfl⟩) | (go_at_call 20; refine (settled_any _ _).mono ?_; rintro e w' ⟨rfl, rfl⟩) | (go_at_call 16; refine (check_any _ _).mono ?_; rintro e w' ⟨rfl, rfl⟩))
  refine (next_any _ _ _).mono ?_; rintro e w2 ⟨rfl, hb2⟩
  go_wp2_with (first | (go_at_call 17; refine (fresh_any _ _).mono ?_; rintro e w' ⟨rfl, rfl⟩) | (go_at_call 18; refine (proposed_any _ _).mono ?_; rintro e w' ⟨rfl, rfl⟩) | (go_at_call 19; refine (open_any _ _).mono ?_; rintro e w' ⟨rfl, rfl⟩) | (go_at_call 20; refine (settled_any _ _).mono ?_; rintro e w' ⟨rfl, rfl⟩) | (go_at_call 16; refine (check_any _ _).mono ?_; rintro e w' ⟨rfl, rfl⟩))
  refine (next_any _ _ _).mono ?_; rintro e w3 ⟨rfl, hb3⟩
  go_wp2_with (first | (go_at_call 17; refine (fresh_any _ _).mono ?_; rintro e w' ⟨rfl, rfl⟩) | (go_at_call 18; refine (proposed_any _ _).mono ?_; rintro e w' ⟨rfl, rfl⟩) | (go_at_call 19; refine (open_any _ _).mono ?_; rintro e w' ⟨rfl, rfl⟩) | (go_at_call 20; refine (settled_any _ _).mono ?_; rintro e w' ⟨rfl, rfl⟩) | (go_at_call 16; refine (check_any _ _).mono ?_; rintro e w' ⟨rfl, rfl⟩))
  refine (awake19_any _).mono ?_; rintro e w4 ⟨rfl, hb4⟩
  go_wp2_with fail
  go_ret
  exact ⟨rfl, bt' hb1 (bt' hb2 (bt' hb3 (hb4)))⟩
set_option maxHeartbeats 1000000 in
theorem ends3_3  (w : World) : Calls Try.prog 5 #[.int .i64 3, .int .i64 3] w fun e w' => e = .returned (.bool true) ∧ Below w.heap.size w w' := by
  have f0 : checkE 3 = 0 := by decide +kernel
  have f1 : nextE 3 3 = 0 := by decide +kernel
  have f2 : nextP 3 3 = 3 := by decide +kernel
  have fs3 : settledB 3 = false := by decide +kernel
  have f5 : nextE 3 4 = 0 := by decide +kernel
  have f6 : nextP 3 4 = 5 := by decide +kernel
  have f7 : nextE 5 5 = 0 := by decide +kernel
  have f8 : nextP 5 5 = 6 := by decide +kernel
  go_enter Try.func5, Try.ntmps5
  go_wp2_with (first | (go_at_call 17; refine (fresh_any _ _).mono ?_; rintro e w' ⟨rfl, rfl⟩) | (go_at_call 18; refine (proposed_any _ _).mono ?_; rintro e w' ⟨rfl, rfl⟩) | (go_at_call 19; refine (open_any _ _).mono ?_; rintro e w' ⟨rfl, rfl⟩) | (go_at_call 20; refine (settled_any _ _).mono ?_; rintro e w' ⟨rfl, rfl⟩) | (go_at_call 16; refine (check_any _ _).mono ?_; rintro e w' ⟨rfl, rfl⟩))
  refine (next_any _ _ _).mono ?_; rintro e w1 ⟨rfl, hb1⟩
  go_wp2_with (first | (go_at_call 17; refine (fresh_any _ _).mono ?_; rintro e w' ⟨rfl, rfl⟩) | (go_at_call 18; refine (proposed_any _ _).mono ?_; rintro e w' ⟨rfl, rfl⟩) | (go_at_call 19; refine (open_any _ _).mono ?_; rintro e w' ⟨rfl, rfl⟩) | (go_at_call 20; refine (settled_any _ _).mono ?_; rintro e w' ⟨rfl, rfl⟩) | (go_at_call 16; refine (check_any _ _).mono ?_; rintro e w' ⟨rfl, rfl⟩))
  refine (next_any _ _ _).mono ?_; rintro e w2 ⟨rfl, hb2⟩
  go_wp2_with (first | (go_at_call 17; refine (fresh_any _ _).mono ?_; rintro e w' ⟨rfl, rfl⟩) | (go_at_call 18; refine (proposed_any _ _).mono ?_; rintro e w' ⟨rfl, rfl⟩) | (go_at_call 19; refine (open_any _ _).mono ?_; rintro e w' ⟨rfl, rfl⟩) | (go_at_call 20; refine (settled_any _ _).mono ?_; rintro e w' ⟨rfl, rfl⟩) | (go_at_call 16; refine (check_any _ _).mono ?_; rintro e w' ⟨rfl, rfl⟩))
  refine (next_any _ _ _).mono ?_; rintro e w3 ⟨rfl, hb3⟩
  go_wp2_with (first | (go_at_call 17; refine (fresh_any _ _).mono ?_; rintro e w' ⟨rfl, rfl⟩) | (go_at_call 18; refine (proposed_any _ _).mono ?_; rintro e w' ⟨rfl, rfl⟩) | (go_at_call 19; refine (open_any _ _).mono ?_; rintro e w' ⟨rfl, rfl⟩) | (go_at_call 20; refine (settled_any _ _).mono ?_; rintro e w' ⟨rfl, rfl⟩) | (go_at_call 16; refine (check_any _ _).mono ?_; rintro e w' ⟨rfl, rfl⟩))
  refine (awake19_any _).mono ?_; rintro e w4 ⟨rfl, hb4⟩
  go_wp2_with fail
  go_ret
  exact ⟨rfl, bt' hb1 (bt' hb2 (bt' hb3 (hb4)))⟩
set_option maxHeartbeats 1000000 in
theorem ends3_4  (w : World) : Calls Try.prog 5 #[.int .i64 3, .int .i64 4] w fun e w' => e = .returned (.bool true) ∧ Below w.heap.size w w' := by
  have f0 : checkE 3 = 0 := by decide +kernel
  have f1 : nextE 3 4 = 0 := by decide +kernel
  have f2 : nextP 3 4 = 5 := by decide +kernel
  have fs3 : settledB 3 = false := by decide +kernel
  have fs5 : settledB 5 = true := by decide +kernel
  have f7 : nextE 5 5 = 0 := by decide +kernel
  have f8 : nextP 5 5 = 6 := by decide +kernel
  go_enter Try.func5, Try.ntmps5
  go_wp2_with (first | (go_at_call 17; refine (fresh_any _ _).mono ?_; rintro e w' ⟨rfl, rfl⟩) | (go_at_call 18; refine (proposed_any _ _).mono ?_; rintro e w' ⟨rfl, rfl⟩) | (go_at_call 19; refine (open_any _ _).mono ?_; rintro e w' ⟨rfl, rfl⟩) | (go_at_call 20; refine (settled_any _ _).mono ?_; rintro e w' ⟨rfl, rfl⟩) | (go_at_call 16; refine (check_any _ _).mono ?_; rintro e w' ⟨rfl, rfl⟩))
  refine (next_any _ _ _).mono ?_; rintro e w1 ⟨rfl, hb1⟩
  go_wp2_with (first | (go_at_call 17; refine (fresh_any _ _).mono ?_; rintro e w' ⟨rfl, rfl⟩) | (go_at_call 18; refine (proposed_any _ _).mono ?_; rintro e w' ⟨rfl, rfl⟩) | (go_at_call 19; refine (open_any _ _).mono ?_; rintro e w' ⟨rfl, rfl⟩) | (go_at_call 20; refine (settled_any _ _).mono ?_; rintro e w' ⟨rfl, rfl⟩) | (go_at_call 16; refine (check_any _ _).mono ?_; rintro e w' ⟨rfl, rfl⟩))
  refine (next_any _ _ _).mono ?_; rintro e w2 ⟨rfl, hb2⟩
  go_wp2_with (first | (go_at_call 17; refine (fresh_any _ _).mono ?_; rintro e w' ⟨rfl, rfl⟩) | (go_at_call 18; refine (proposed_any _ _).mono ?_; rintro e w' ⟨rfl, rfl⟩) | (go_at_call 19; refine (open_any _ _).mono ?_; rintro e w' ⟨rfl, rfl⟩) | (go_at_call 20; refine (settled_any _ _).mono ?_; rintro e w' ⟨rfl, rfl⟩) | (go_at_call 16; refine (check_any _ _).mono ?_; rintro e w' ⟨rfl, rfl⟩))
  refine (next_any _ _ _).mono ?_; rintro e w3 ⟨rfl, hb3⟩
  go_wp2_with (first | (go_at_call 17; refine (fresh_any _ _).mono ?_; rintro e w' ⟨rfl, rfl⟩) | (go_at_call 18; refine (proposed_any _ _).mono ?_; rintro e w' ⟨rfl, rfl⟩) | (go_at_call 19; refine (open_any _ _).mono ?_; rintro e w' ⟨rfl, rfl⟩) | (go_at_call 20; refine (settled_any _ _).mono ?_; rintro e w' ⟨rfl, rfl⟩) | (go_at_call 16; refine (check_any _ _).mono ?_; rintro e w' ⟨rfl, rfl⟩))
  refine (awake19_any _).mono ?_; rintro e w4 ⟨rfl, hb4⟩
  go_wp2_with fail
  go_ret
  exact ⟨rfl, bt' hb1 (bt' hb2 (bt' hb3 (hb4)))⟩
set_option maxHeartbeats 1000000 in
theorem ends3_5  (w : World) : Calls Try.prog 5 #[.int .i64 3, .int .i64 5] w fun e w' => e = .returned (.bool true) ∧ Below w.heap.size w w' := by
  have f0 : checkE 3 = 0 := by decide +kernel
  have f1 : nextE 3 5 = 33 := by decide +kernel
  have f2 : nextP 3 5 = 0 := by decide +kernel
  have fs0 : settledB 0 = false := by decide +kernel
  have fs3 : settledB 3 = false := by decide +kernel
  have f5 : nextE 3 4 = 0 := by decide +kernel
  have f6 : nextP 3 4 = 5 := by decide +kernel
  have f7 : nextE 5 5 = 0 := by decide +kernel
  have f8 : nextP 5 5 = 6 := by decide +kernel
  go_enter Try.func5, Try.ntmps5
  go_wp2_with (first | (go_at_call 17; refine (fresh_any _ _).mono ?_; rintro e w' ⟨rfl, rfl⟩) | (go_at_call 18; refine (proposed_any _ _).mono ?_; rintro e w' ⟨rfl, rfl⟩) | (go_at_call 19; refine (open_any _ _).mono ?_; rintro e w' ⟨rfl, rfl⟩) | (go_at_call 20; refine (settled_any _ _).mono ?_; rintro e w' ⟨rfl, rfl⟩) | (go_at_call 16; refine (check_any _ _).mono ?_; rintro e w' ⟨rfl, rfl⟩))
  refine (next_any _ _ _).mono ?_; rintro e w1 ⟨rfl, hb1⟩
  go_wp2_with (first | (go_at_call 17; refine (fresh_any _ _).mono ?_; rintro e w' ⟨rfl, rfl⟩) | (go_at_call 18; refine (proposed_any _ _).mono ?_; rintro e w' ⟨rfl, rfl⟩) | (go_at_call 19; refine (open_any _ _).mono ?_; rintro e w' ⟨rfl, rfl⟩) | (go_at_call 20; refine (settled_any _ _).mono ?_; rintro e w' ⟨rfl, rfl⟩) | (go_at_call 16; refine (check_any _ _).mono ?_; rintro e w' ⟨rfl, rfl⟩))
  refine (next_any _ _ _).mono ?_; rintro e w2 ⟨rfl, hb2⟩
  go_wp2_with (first | (go_at_call 17; refine (fresh_any _ _).mono ?_; rintro e w' ⟨rfl, rfl⟩) | (go_at_call 18; refine (proposed_any _ _).mono ?_; rintro e w' ⟨rfl, rfl⟩) | (go_at_call 19; refine (open_any _ _).mono ?_; rintro e w' ⟨rfl, rfl⟩) | (go_at_call 20; refine (settled_any _ _).mono ?_; rintro e w' ⟨rfl, rfl⟩) | (go_at_call 16; refine (check_any _ _).mono ?_; rintro e w' ⟨rfl, rfl⟩))
  refine (next_any _ _ _).mono ?_; rintro e w3 ⟨rfl, hb3⟩
  go_wp2_with (first | (go_at_call 17; refine (fresh_any _ _).mono ?_; rintro e w' ⟨rfl, rfl⟩) | (go_at_call 18; refine (proposed_any _ _).mono ?_; rintro e w' ⟨rfl, rfl⟩) | (go_at_call 19; refine (open_any _ _).mono ?_; rintro e w' ⟨rfl, rfl⟩) | (go_at_call 20; refine (settled_any _ _).mono ?_; rintro e w' ⟨rfl, rfl⟩) | (go_at_call 16; refine (check_any _ _).mono ?_; rintro e w' ⟨rfl, rfl⟩))
  refine (awake19_any _).mono ?_; rintro e w4 ⟨rfl, hb4⟩
  go_wp2_with fail
  go_ret
  exact ⟨rfl, bt' hb1 (bt' hb2 (bt' hb3 (hb4)))⟩
set_option maxHeartbeats 1000000 in
theorem ends3_0 (act : Int) (ha : ¬ (1 ≤ act ∧ act ≤ 5)) (w : World) : Calls Try.prog 5 #[.int .i64 3, .int .i64 act] w fun e w' => e = .returned (.bool true) ∧ Below w.heap.size w w' := by
  have f0 : checkE 3 = 0 := by decide +kernel
  have f1 : nextE 3 act = 30 := by unfold nextE; rw [if_neg (by decide), if_pos (by omega)]
  have f2 : nextP 3 act = 0 := by unfold nextP; rw [if_neg (by rw [f1]; decide)]
  clear ha
  have fs0 : settledB 0 = false := by decide +kernel
  have fs3 : settledB 3 = false := by decide +kernel
  have f5 : nextE 3 4 = 0 := by decide +kernel
  have f6 : nextP 3 4 = 5 := by decide +kernel
  have f7 : nextE 5 5 = 0 := by decide +kernel
  have f8 : nextP 5 5 = 6 := by decide +kernel
  go_enter Try.func5, Try.ntmps5
  go_wp2_with (first | (go_at_call 17; refine (fresh_any _ _).mono ?_; rintro e w' ⟨rfl, rfl⟩) | (go_at_call 18; refine (proposed_any _ _).mono ?_; rintro e w' ⟨rfl, rfl⟩) | (go_at_call 19; refine (open_any _ _).mono ?_; rintro e w' ⟨rfl, rfl⟩) | (go_at_call 20; refine (settled_any _ _).mono ?_; rintro e w' ⟨rfl, rfl⟩) | (go_at_call 16; refine (check_any _ _).mono ?_; rintro e w' ⟨rfl, rfl⟩))
  refine (next_any _ _ _).mono ?_; rintro e w1 ⟨rfl, hb1⟩
  go_wp2_with (first | (go_at_call 17; refine (fresh_any _ _).mono ?_; rintro e w' ⟨rfl, rfl⟩) | (go_at_call 18; refine (proposed_any _ _).mono ?_; rintro e w' ⟨rfl, rfl⟩) | (go_at_call 19; refine (open_any _ _).mono ?_; rintro e w' ⟨rfl, rfl⟩) | (go_at_call 20; refine (settled_any _ _).mono ?_; rintro e w' ⟨rfl, rfl⟩) | (go_at_call 16; refine (check_any _ _).mono ?_; rintro e w' ⟨rfl, rfl⟩))
  refine (next_any _ _ _).mono ?_; rintro e w2 ⟨rfl, hb2⟩
  go_wp2_with (first | (go_at_call 17; refine (fresh_any _ _).mono ?_; rintro e w' ⟨rfl, rfl⟩) | (go_at_call 18; refine (proposed_any _ _).mono ?_; rintro e w' ⟨rfl, rfl⟩) | (go_at_call 19; refine (open_any _ _).mono ?_; rintro e w' ⟨rfl, rfl⟩) | (go_at_call 20; refine (settled_any _ _).mono ?_; rintro e w' ⟨rfl, rfl⟩) | (go_at_call 16; refine (check_any _ _).mono ?_; rintro e w' ⟨rfl, rfl⟩))
  refine (next_any _ _ _).mono ?_; rintro e w3 ⟨rfl, hb3⟩
  go_wp2_with (first | (go_at_call 17; refine (fresh_any _ _).mono ?_; rintro e w' ⟨rfl, rfl⟩) | (go_at_call 18; refine (proposed_any _ _).mono ?_; rintro e w' ⟨rfl, rfl⟩) | (go_at_call 19; refine (open_any _ _).mono ?_; rintro e w' ⟨rfl, rfl⟩) | (go_at_call 20; refine (settled_any _ _).mono ?_; rintro e w' ⟨rfl, rfl⟩) | (go_at_call 16; refine (check_any _ _).mono ?_; rintro e w' ⟨rfl, rfl⟩))
  refine (awake19_any _).mono ?_; rintro e w4 ⟨rfl, hb4⟩
  go_wp2_with fail
  go_ret
  exact ⟨rfl, bt' hb1 (bt' hb2 (bt' hb3 (hb4)))⟩
set_option maxHeartbeats 1000000 in
theorem ends4_1  (w : World) : Calls Try.prog 5 #[.int .i64 4, .int .i64 1] w fun e w' => e = .returned (.bool true) ∧ Below w.heap.size w w' := by
  have f0 : checkE 4 = 0 := by decide +kernel
  have f1 : nextE 4 1 = 33 := by decide +kernel
  have f2 : nextP 4 1 = 0 := by decide +kernel
  have fs0 : settledB 0 = false := by decide +kernel
  have fs4 : settledB 4 = false := by decide +kernel
  have f5 : nextE 4 4 = 0 := by decide +kernel
  have f6 : nextP 4 4 = 5 := by decide +kernel
  have f7 : nextE 5 5 = 0 := by decide +kernel
  have f8 : nextP 5 5 = 6 := by decide +kernel
  go_enter Try.func5, Try.ntmps5
  go_wp2_with (first | (go_at_call 17; refine (fresh_any _ _).mono ?_; rintro e w' ⟨rfl, rfl⟩) | (go_at_call 18; refine (proposed_any _ _).mono ?_; rintro e w' ⟨rfl, rfl⟩) | (go_at_call 19; refine (open_any _ _).mono ?_; rintro e w' ⟨rfl, rfl⟩) | (go_at_call 20; refine (settled_any _ _).mono ?_; rintro e w' ⟨rfl, rfl⟩) | (go_at_call 16; refine (check_any _ _).mono ?_; rintro e w' ⟨rfl, rfl⟩))
  refine (next_any _ _ _).mono ?_; rintro e w1 ⟨rfl, hb1⟩
  go_wp2_with (first | (go_at_call 17; refine (fresh_any _ _).mono ?_; rintro e w' ⟨rfl, rfl⟩) | (go_at_call 18; refine (proposed_any _ _).mono ?_; rintro e w' ⟨rfl, rfl⟩) | (go_at_call 19; refine (open_any _ _).mono ?_; rintro e w' ⟨rfl, rfl⟩) | (go_at_call 20; refine (settled_any _ _).mono ?_; rintro e w' ⟨rfl, rfl⟩) | (go_at_call 16; refine (check_any _ _).mono ?_; rintro e w' ⟨rfl, rfl⟩))
  refine (next_any _ _ _).mono ?_; rintro e w2 ⟨rfl, hb2⟩
  go_wp2_with (first | (go_at_call 17; refine (fresh_any _ _).mono ?_; rintro e w' ⟨rfl, rfl⟩) | (go_at_call 18; refine (proposed_any _ _).mono ?_; rintro e w' ⟨rfl, rfl⟩) | (go_at_call 19; refine (open_any _ _).mono ?_; rintro e w' ⟨rfl, rfl⟩) | (go_at_call 20; refine (settled_any _ _).mono ?_; rintro e w' ⟨rfl, rfl⟩) | (go_at_call 16; refine (check_any _ _).mono ?_; rintro e w' ⟨rfl, rfl⟩))
  refine (next_any _ _ _).mono ?_; rintro e w3 ⟨rfl, hb3⟩
  go_wp2_with (first | (go_at_call 17; refine (fresh_any _ _).mono ?_; rintro e w' ⟨rfl, rfl⟩) | (go_at_call 18; refine (proposed_any _ _).mono ?_; rintro e w' ⟨rfl, rfl⟩) | (go_at_call 19; refine (open_any _ _).mono ?_; rintro e w' ⟨rfl, rfl⟩) | (go_at_call 20; refine (settled_any _ _).mono ?_; rintro e w' ⟨rfl, rfl⟩) | (go_at_call 16; refine (check_any _ _).mono ?_; rintro e w' ⟨rfl, rfl⟩))
  refine (awake19_any _).mono ?_; rintro e w4 ⟨rfl, hb4⟩
  go_wp2_with fail
  go_ret
  exact ⟨rfl, bt' hb1 (bt' hb2 (bt' hb3 (hb4)))⟩
set_option maxHeartbeats 1000000 in
theorem ends4_2  (w : World) : Calls Try.prog 5 #[.int .i64 4, .int .i64 2] w fun e w' => e = .returned (.bool true) ∧ Below w.heap.size w w' := by
  have f0 : checkE 4 = 0 := by decide +kernel
  have f1 : nextE 4 2 = 33 := by decide +kernel
  have f2 : nextP 4 2 = 0 := by decide +kernel
  have fs0 : settledB 0 = false := by decide +kernel
  have fs4 : settledB 4 = false := by decide +kernel
  have f5 : nextE 4 4 = 0 := by decide +kernel
  have f6 : nextP 4 4 = 5 := by decide +kernel
  have f7 : nextE 5 5 = 0 := by decide +kernel
  have f8 : nextP 5 5 = 6 := by decide +kernel
  go_enter Try.func5, Try.ntmps5
  go_wp2_with (first | (go_at_call 17; refine (fresh_any _ _).mono ?_; rintro e w' ⟨rfl, rfl⟩) | (go_at_call 18; refine (proposed_any _ _).mono ?_; rintro e w' ⟨rfl, rfl⟩) | (go_at_call 19; refine (open_any _ _).mono ?_; rintro e w' ⟨rfl, rfl⟩) | (go_at_call 20; refine (settled_any _ _).mono ?_; rintro e w' ⟨rfl, rfl⟩) | (go_at_call 16; refine (check_any _ _).mono ?_; rintro e w' ⟨rfl, rfl⟩))
  refine (next_any _ _ _).mono ?_; rintro e w1 ⟨rfl, hb1⟩
  go_wp2_with (first | (go_at_call 17; refine (fresh_any _ _).mono ?_; rintro e w' ⟨rfl, rfl⟩) | (go_at_call 18; refine (proposed_any _ _).mono ?_; rintro e w' ⟨rfl, rfl⟩) | (go_at_call 19; refine (open_any _ _).mono ?_; rintro e w' ⟨rfl, rfl⟩) | (go_at_call 20; refine (settled_any _ _).mono ?_; rintro e w' ⟨rfl, rfl⟩) | (go_at_call 16; refine (check_any _ _).mono ?_; rintro e w' ⟨rfl, rfl⟩))
  refine (next_any _ _ _).mono ?_; rintro e w2 ⟨rfl, hb2⟩
  go_wp2_with (first | (go_at_call 17; refine (fresh_any _ _).mono ?_; rintro e w' ⟨rfl, rfl⟩) | (go_at_call 18; refine (proposed_any _ _).mono ?_; rintro e w' ⟨rfl, rfl⟩) | (go_at_call 19; refine (open_any _ _).mono ?_; rintro e w' ⟨rfl, rfl⟩) | (go_at_call 20; refine (settled_any _ _).mono ?_; rintro e w' ⟨rfl, rfl⟩) | (go_at_call 16; refine (check_any _ _).mono ?_; rintro e w' ⟨rfl, rfl⟩))
  refine (next_any _ _ _).mono ?_; rintro e w3 ⟨rfl, hb3⟩
  go_wp2_with (first | (go_at_call 17; refine (fresh_any _ _).mono ?_; rintro e w' ⟨rfl, rfl⟩) | (go_at_call 18; refine (proposed_any _ _).mono ?_; rintro e w' ⟨rfl, rfl⟩) | (go_at_call 19; refine (open_any _ _).mono ?_; rintro e w' ⟨rfl, rfl⟩) | (go_at_call 20; refine (settled_any _ _).mono ?_; rintro e w' ⟨rfl, rfl⟩) | (go_at_call 16; refine (check_any _ _).mono ?_; rintro e w' ⟨rfl, rfl⟩))
  refine (awake19_any _).mono ?_; rintro e w4 ⟨rfl, hb4⟩
  go_wp2_with fail
  go_ret
  exact ⟨rfl, bt' hb1 (bt' hb2 (bt' hb3 (hb4)))⟩
set_option maxHeartbeats 1000000 in
theorem ends4_3  (w : World) : Calls Try.prog 5 #[.int .i64 4, .int .i64 3] w fun e w' => e = .returned (.bool true) ∧ Below w.heap.size w w' := by
  have f0 : checkE 4 = 0 := by decide +kernel
  have f1 : nextE 4 3 = 0 := by decide +kernel
  have f2 : nextP 4 3 = 4 := by decide +kernel
  have fs4 : settledB 4 = false := by decide +kernel
  have f5 : nextE 4 4 = 0 := by decide +kernel
  have f6 : nextP 4 4 = 5 := by decide +kernel
  have f7 : nextE 5 5 = 0 := by decide +kernel
  have f8 : nextP 5 5 = 6 := by decide +kernel
  go_enter Try.func5, Try.ntmps5
  go_wp2_with (first | (go_at_call 17; refine (fresh_any _ _).mono ?_; rintro e w' ⟨rfl, rfl⟩) | (go_at_call 18; refine (proposed_any _ _).mono ?_; rintro e w' ⟨rfl, rfl⟩) | (go_at_call 19; refine (open_any _ _).mono ?_; rintro e w' ⟨rfl, rfl⟩) | (go_at_call 20; refine (settled_any _ _).mono ?_; rintro e w' ⟨rfl, rfl⟩) | (go_at_call 16; refine (check_any _ _).mono ?_; rintro e w' ⟨rfl, rfl⟩))
  refine (next_any _ _ _).mono ?_; rintro e w1 ⟨rfl, hb1⟩
  go_wp2_with (first | (go_at_call 17; refine (fresh_any _ _).mono ?_; rintro e w' ⟨rfl, rfl⟩) | (go_at_call 18; refine (proposed_any _ _).mono ?_; rintro e w' ⟨rfl, rfl⟩) | (go_at_call 19; refine (open_any _ _).mono ?_; rintro e w' ⟨rfl, rfl⟩) | (go_at_call 20; refine (settled_any _ _).mono ?_; rintro e w' ⟨rfl, rfl⟩) | (go_at_call 16; refine (check_any _ _).mono ?_; rintro e w' ⟨rfl, rfl⟩))
  refine (next_any _ _ _).mono ?_; rintro e w2 ⟨rfl, hb2⟩
  go_wp2_with (first | (go_at_call 17; refine (fresh_any _ _).mono ?_; rintro e w' ⟨rfl, rfl⟩) | (go_at_call 18; refine (proposed_any _ _).mono ?_; rintro e w' ⟨rfl, rfl⟩) | (go_at_call 19; refine (open_any _ _).mono ?_; rintro e w' ⟨rfl, rfl⟩) | (go_at_call 20; refine (settled_any _ _).mono ?_; rintro e w' ⟨rfl, rfl⟩) | (go_at_call 16; refine (check_any _ _).mono ?_; rintro e w' ⟨rfl, rfl⟩))
  refine (next_any _ _ _).mono ?_; rintro e w3 ⟨rfl, hb3⟩
  go_wp2_with (first | (go_at_call 17; refine (fresh_any _ _).mono ?_; rintro e w' ⟨rfl, rfl⟩) | (go_at_call 18; refine (proposed_any _ _).mono ?_; rintro e w' ⟨rfl, rfl⟩) | (go_at_call 19; refine (open_any _ _).mono ?_; rintro e w' ⟨rfl, rfl⟩) | (go_at_call 20; refine (settled_any _ _).mono ?_; rintro e w' ⟨rfl, rfl⟩) | (go_at_call 16; refine (check_any _ _).mono ?_; rintro e w' ⟨rfl, rfl⟩))
  refine (awake19_any _).mono ?_; rintro e w4 ⟨rfl, hb4⟩
  go_wp2_with fail
  go_ret
  exact ⟨rfl, bt' hb1 (bt' hb2 (bt' hb3 (hb4)))⟩
set_option maxHeartbeats 1000000 in
theorem ends4_4  (w : World) : Calls Try.prog 5 #[.int .i64 4, .int .i64 4] w fun e w' => e = .returned (.bool true) ∧ Below w.heap.size w w' := by
  have f0 : checkE 4 = 0 := by decide +kernel
  have f1 : nextE 4 4 = 0 := by decide +kernel
  have f2 : nextP 4 4 = 5 := by decide +kernel
  have fs4 : settledB 4 = false := by decide +kernel
  have fs5 : settledB 5 = true := by decide +kernel
  have f7 : nextE 5 5 = 0 := by decide +kernel
  have f8 : nextP 5 5 = 6 := by decide +kernel
  go_enter Try.func5, Try.ntmps5
  go_wp2_with (first | (go_at_call 17; refine (fresh_any _ _).mono ?_; rintro e w' ⟨rfl, rfl⟩) | (go_at_call 18; refine (proposed_any _ _).mono ?_; rintro e w' ⟨rfl, rfl⟩) | (go_at_call 19; refine (open_any _ _).mono ?_; rintro e w' ⟨rfl, rfl⟩) | (go_at_call 20; refine (settled_any _ _).mono ?_; rintro e w' ⟨rfl, rfl⟩) | (go_at_call 16; refine (check_any _ _).mono ?_; rintro e w' ⟨rfl, rfl⟩))
  refine (next_any _ _ _).mono ?_; rintro e w1 ⟨rfl, hb1⟩
  go_wp2_with (first | (go_at_call 17; refine (fresh_any _ _).mono ?_; rintro e w' ⟨rfl, rfl⟩) | (go_at_call 18; refine (proposed_any _ _).mono ?_; rintro e w' ⟨rfl, rfl⟩) | (go_at_call 19; refine (open_any _ _).mono ?_; rintro e w' ⟨rfl, rfl⟩) | (go_at_call 20; refine (settled_any _ _).mono ?_; rintro e w' ⟨rfl, rfl⟩) | (go_at_call 16; refine (check_any _ _).mono ?_; rintro e w' ⟨rfl, rfl⟩))
  refine (next_any _ _ _).mono ?_; rintro e w2 ⟨rfl, hb2⟩
  go_wp2_with (first | (go_at_call 17; refine (fresh_any _ _).mono ?_; rintro e w' ⟨rfl, rfl⟩) | (go_at_call 18; refine (proposed_any _ _).mono ?_; rintro e w' ⟨rfl, rfl⟩) | (go_at_call 19; refine (open_any _ _).mono ?_; rintro e w' ⟨rfl, rfl⟩) | (go_at_call 20; refine (settled_any _ _).mono ?_; rintro e w' ⟨rfl, rfl⟩) | (go_at_call 16; refine (check_any _ _).mono ?_; rintro e w' ⟨rfl, rfl⟩))
  refine (next_any _ _ _).mono ?_; rintro e w3 ⟨rfl, hb3⟩
  go_wp2_with (first | (go_at_call 17; refine (fresh_any _ _).mono ?_; rintro e w' ⟨rfl, rfl⟩) | (go_at_call 18; refine (proposed_any _ _).mono ?_; rintro e w' ⟨rfl, rfl⟩) | (go_at_call 19; refine (open_any _ _).mono ?_; rintro e w' ⟨rfl, rfl⟩) | (go_at_call 20; refine (settled_any _ _).mono ?_; rintro e w' ⟨rfl, rfl⟩) | (go_at_call 16; refine (check_any _ _).mono ?_; rintro e w' ⟨rfl, rfl⟩))
  refine (awake19_any _).mono ?_; rintro e w4 ⟨rfl, hb4⟩
  go_wp2_with fail
  go_ret
  exact ⟨rfl, bt' hb1 (bt' hb2 (bt' hb3 (hb4)))⟩
set_option maxHeartbeats 1000000 in
theorem ends4_5  (w : World) : Calls Try.prog 5 #[.int .i64 4, .int .i64 5] w fun e w' => e = .returned (.bool true) ∧ Below w.heap.size w w' := by
  have f0 : checkE 4 = 0 := by decide +kernel
  have f1 : nextE 4 5 = 33 := by decide +kernel
  have f2 : nextP 4 5 = 0 := by decide +kernel
  have fs0 : settledB 0 = false := by decide +kernel
  have fs4 : settledB 4 = false := by decide +kernel
  have f5 : nextE 4 4 = 0 := by decide +kernel
  have f6 : nextP 4 4 = 5 := by decide +kernel
  have f7 : nextE 5 5 = 0 := by decide +kernel
  have f8 : nextP 5 5 = 6 := by decide +kernel
  go_enter Try.func5, Try.ntmps5
  go_wp2_with (first | (go_at_call 17; refine (fresh_any _ _).mono ?_; rintro e w' ⟨rfl, rfl⟩) | (go_at_call 18; refine (proposed_any _ _).mono ?_; rintro e w' ⟨rfl, rfl⟩) | (go_at_call 19; refine (open_any _ _).mono ?_; rintro e w' ⟨rfl, rfl⟩) | (go_at_call 20; refine (settled_any _ _).mono ?_; rintro e w' ⟨rfl, rfl⟩) | (go_at_call 16; refine (check_any _ _).mono ?_; rintro e w' ⟨rfl, rfl⟩))
  refine (next_any _ _ _).mono ?_; rintro e w1 ⟨rfl, hb1⟩
  go_wp2_with (first | (go_at_call 17; refine (fresh_any _ _).mono ?_; rintro e w' ⟨rfl, rfl⟩) | (go_at_call 18; refine (proposed_any _ _).mono ?_; rintro e w' ⟨rfl, rfl⟩) | (go_at_call 19; refine (open_any _ _).mono ?_; rintro e w' ⟨rfl, rfl⟩) | (go_at_call 20; refine (settled_any _ _).mono ?_; rintro e w' ⟨rfl, rfl⟩) | (go_at_call 16; refine (check_any _ _).mono ?_; rintro e w' ⟨rfl, rfl⟩))
  refine (next_any _ _ _).mono ?_; rintro e w2 ⟨rfl, hb2⟩
  go_wp2_with (first | (go_at_call 17; refine (fresh_any _ _).mono ?_; rintro e w' ⟨rfl, rfl⟩) | (go_at_call 18; refine (proposed_any _ _).mono ?_; rintro e w' ⟨rfl, rfl⟩) | (go_at_call 19; refine (open_any _ _).mono ?_; rintro e w' ⟨rfl, rfl⟩) | (go_at_call 20; refine (settled_any _ _).mono ?_; rintro e w' ⟨rfl, rfl⟩) | (go_at_call 16; refine (check_any _ _).mono ?_; rintro e w' ⟨rfl, rfl⟩))
  refine (next_any _ _ _).mono ?_; rintro e w3 ⟨rfl, hb3⟩
  go_wp2_with (first | (go_at_call 17; refine (fresh_any _ _).mono ?_; rintro e w' ⟨rfl, rfl⟩) | (go_at_call 18; refine (proposed_any _ _).mono ?_; rintro e w' ⟨rfl, rfl⟩) | (go_at_call 19; refine (open_any _ _).mono ?_; rintro e w' ⟨rfl, rfl⟩) | (go_at_call 20; refine (settled_any _ _).mono ?_; rintro e w' ⟨rfl, rfl⟩) | (go_at_call 16; refine (check_any _ _).mono ?_; rintro e w' ⟨rfl, rfl⟩))
  refine (awake19_any _).mono ?_; rintro e w4 ⟨rfl, hb4⟩
  go_wp2_with fail
  go_ret
  exact ⟨rfl, bt' hb1 (bt' hb2 (bt' hb3 (hb4)))⟩
set_option maxHeartbeats 1000000 in
theorem ends4_0 (act : Int) (ha : ¬ (1 ≤ act ∧ act ≤ 5)) (w : World) : Calls Try.prog 5 #[.int .i64 4, .int .i64 act] w fun e w' => e = .returned (.bool true) ∧ Below w.heap.size w w' := by
  have f0 : checkE 4 = 0 := by decide +kernel
  have f1 : nextE 4 act = 30 := by unfold nextE; rw [if_neg (by decide), if_pos (by omega)]
  have f2 : nextP 4 act = 0 := by unfold nextP; rw [if_neg (by rw [f1]; decide)]
  clear ha
  have fs0 : settledB 0 = false := by decide +kernel
  have fs4 : settledB 4 = false := by decide +kernel
  have f5 : nextE 4 4 = 0 := by decide +kernel
  have f6 : nextP 4 4 = 5 := by decide +kernel
  have f7 : nextE 5 5 = 0 := by decide +kernel
  have f8 : nextP 5 5 = 6 := by decide +kernel
  go_enter Try.func5, Try.ntmps5
  go_wp2_with (first | (go_at_call 17; refine (fresh_any _ _).mono ?_; rintro e w' ⟨rfl, rfl⟩) | (go_at_call 18; refine (proposed_any _ _).mono ?_; rintro e w' ⟨rfl, rfl⟩) | (go_at_call 19; refine (open_any _ _).mono ?_; rintro e w' ⟨rfl, rfl⟩) | (go_at_call 20; refine (settled_any _ _).mono ?_; rintro e w' ⟨rfl, rfl⟩) | (go_at_call 16; refine (check_any _ _).mono ?_; rintro e w' ⟨rfl, rfl⟩))
  refine (next_any _ _ _).mono ?_; rintro e w1 ⟨rfl, hb1⟩
  go_wp2_with (first | (go_at_call 17; refine (fresh_any _ _).mono ?_; rintro e w' ⟨rfl, rfl⟩) | (go_at_call 18; refine (proposed_any _ _).mono ?_; rintro e w' ⟨rfl, rfl⟩) | (go_at_call 19; refine (open_any _ _).mono ?_; rintro e w' ⟨rfl, rfl⟩) | (go_at_call 20; refine (settled_any _ _).mono ?_; rintro e w' ⟨rfl, rfl⟩) | (go_at_call 16; refine (check_any _ _).mono ?_; rintro e w' ⟨rfl, rfl⟩))
  refine (next_any _ _ _).mono ?_; rintro e w2 ⟨rfl, hb2⟩
  go_wp2_with (first | (go_at_call 17; refine (fresh_any _ _).mono ?_; rintro e w' ⟨rfl, rfl⟩) | (go_at_call 18; refine (proposed_any _ _).mono ?_; rintro e w' ⟨rfl, rfl⟩) | (go_at_call 19; refine (open_any _ _).mono ?_; rintro e w' ⟨rfl, rfl⟩) | (go_at_call 20; refine (settled_any _ _).mono ?_; rintro e w' ⟨rfl, rfl⟩) | (go_at_call 16; refine (check_any _ _).mono ?_; rintro e w' ⟨rfl, rfl⟩))
  refine (next_any _ _ _).mono ?_; rintro e w3 ⟨rfl, hb3⟩
  go_wp2_with (first | (go_at_call 17; refine (fresh_any _ _).mono ?_; rintro e w' ⟨rfl, rfl⟩) | (go_at_call 18; refine (proposed_any _ _).mono ?_; rintro e w' ⟨rfl, rfl⟩) | (go_at_call 19; refine (open_any _ _).mono ?_; rintro e w' ⟨rfl, rfl⟩) | (go_at_call 20; refine (settled_any _ _).mono ?_; rintro e w' ⟨rfl, rfl⟩) | (go_at_call 16; refine (check_any _ _).mono ?_; rintro e w' ⟨rfl, rfl⟩))
  refine (awake19_any _).mono ?_; rintro e w4 ⟨rfl, hb4⟩
  go_wp2_with fail
  go_ret
  exact ⟨rfl, bt' hb1 (bt' hb2 (bt' hb3 (hb4)))⟩
set_option maxHeartbeats 1000000 in
theorem ends5_1  (w : World) : Calls Try.prog 5 #[.int .i64 5, .int .i64 1] w fun e w' => e = .returned (.bool true) ∧ Below w.heap.size w w' := by
  have f0 : checkE 5 = 0 := by decide +kernel
  have f1 : nextE 5 1 = 33 := by decide +kernel
  have f2 : nextP 5 1 = 0 := by decide +kernel
  have fs0 : settledB 0 = false := by decide +kernel
  have fs5 : settledB 5 = true := by decide +kernel
  have f7 : nextE 5 5 = 0 := by decide +kernel
  have f8 : nextP 5 5 = 6 := by decide +kernel
  go_enter Try.func5, Try.ntmps5
  go_wp2_with (first | (go_at_call 17; refine (fresh_any _ _).mono ?_; rintro e w' ⟨rfl, rfl⟩) | (go_at_call 18; refine (proposed_any _ _).mono ?_; rintro e w' ⟨rfl, rfl⟩) | (go_at_call 19; refine (open_any _ _).mono ?_; rintro e w' ⟨rfl, rfl⟩) | (go_at_call 20; refine (settled_any _ _).mono ?_; rintro e w' ⟨rfl, rfl⟩) | (go_at_call 16; refine (check_any _ _).mono ?_; rintro e w' ⟨rfl, rfl⟩))
  refine (next_any _ _ _).mono ?_; rintro e w1 ⟨rfl, hb1⟩
  go_wp2_with (first | (go_at_call 17; refine (fresh_any _ _).mono ?_; rintro e w' ⟨rfl, rfl⟩) | (go_at_call 18; refine (proposed_any _ _).mono ?_; rintro e w' ⟨rfl, rfl⟩) | (go_at_call 19; refine (open_any _ _).mono ?_; rintro e w' ⟨rfl, rfl⟩) | (go_at_call 20; refine (settled_any _ _).mono ?_; rintro e w' ⟨rfl, rfl⟩) | (go_at_call 16; refine (check_any _ _).mono ?_; rintro e w' ⟨rfl, rfl⟩))
  refine (next_any _ _ _).mono ?_; rintro e w2 ⟨rfl, hb2⟩
  go_wp2_with (first | (go_at_call 17; refine (fresh_any _ _).mono ?_; rintro e w' ⟨rfl, rfl⟩) | (go_at_call 18; refine (proposed_any _ _).mono ?_; rintro e w' ⟨rfl, rfl⟩) | (go_at_call 19; refine (open_any _ _).mono ?_; rintro e w' ⟨rfl, rfl⟩) | (go_at_call 20; refine (settled_any _ _).mono ?_; rintro e w' ⟨rfl, rfl⟩) | (go_at_call 16; refine (check_any _ _).mono ?_; rintro e w' ⟨rfl, rfl⟩))
  refine (awake19_any _).mono ?_; rintro e w3 ⟨rfl, hb3⟩
  go_wp2_with fail
  go_ret
  exact ⟨rfl, bt' hb1 (bt' hb2 (hb3))⟩
set_option maxHeartbeats 1000000 in
theorem ends5_2  (w : World) : Calls Try.prog 5 #[.int .i64 5, .int .i64 2] w fun e w' => e = .returned (.bool true) ∧ Below w.heap.size w w' := by
  have f0 : checkE 5 = 0 := by decide +kernel
  have f1 : nextE 5 2 = 33 := by decide +kernel
  have f2 : nextP 5 2 = 0 := by decide +kernel
  have fs0 : settledB 0 = false := by decide +kernel
  have fs5 : settledB 5 = true := by decide +kernel
  have f7 : nextE 5 5 = 0 := by decide +kernel
  have f8 : nextP 5 5 = 6 := by decide +kernel
  go_enter Try.func5, Try.ntmps5
  go_wp2_with (first | (go_at_call 17; refine (fresh_any _ _).mono ?_; rintro e w' ⟨rfl, rfl⟩) | (go_at_call 18; refine (proposed_any _ _).mono ?_; rintro e w' ⟨rfl, rfl⟩) | (go_at_call 19; refine (open_any _ _).mono ?_; rintro e w' ⟨rfl, rfl⟩) | (go_at_call 20; refine (settled_any _ _).mono ?_; rintro e w' ⟨rfl, rfl⟩) | (go_at_call 16; refine (check_any _ _).mono ?_; rintro e w' ⟨rfl, rfl⟩))
  refine (next_any _ _ _).mono ?_; rintro e w1 ⟨rfl, hb1⟩
  go_wp2_with (first | (go_at_call 17; refine (fresh_any _ _).mono ?_; rintro e w' ⟨rfl, rfl⟩) | (go_at_call 18; refine (proposed_any _ _).mono ?_; rintro e w' ⟨rfl, rfl⟩) | (go_at_call 19; refine (open_any _ _).mono ?_; rintro e w' ⟨rfl, rfl⟩) | (go_at_call 20; refine (settled_any _ _).mono ?_; rintro e w' ⟨rfl, rfl⟩) | (go_at_call 16; refine (check_any _ _).mono ?_; rintro e w' ⟨rfl, rfl⟩))
  refine (next_any _ _ _).mono ?_; rintro e w2 ⟨rfl, hb2⟩
  go_wp2_with (first | (go_at_call 17; refine (fresh_any _ _).mono ?_; rintro e w' ⟨rfl, rfl⟩) | (go_at_call 18; refine (proposed_any _ _).mono ?_; rintro e w' ⟨rfl, rfl⟩) | (go_at_call 19; refine (open_any _ _).mono ?_; rintro e w' ⟨rfl, rfl⟩) | (go_at_call 20; refine (settled_any _ _).mono ?_; rintro e w' ⟨rfl, rfl⟩) | (go_at_call 16; refine (check_any _ _).mono ?_; rintro e w' ⟨rfl, rfl⟩))
  refine (awake19_any _).mono ?_; rintro e w3 ⟨rfl, hb3⟩
  go_wp2_with fail
  go_ret
  exact ⟨rfl, bt' hb1 (bt' hb2 (hb3))⟩
set_option maxHeartbeats 1000000 in
theorem ends5_3  (w : World) : Calls Try.prog 5 #[.int .i64 5, .int .i64 3] w fun e w' => e = .returned (.bool true) ∧ Below w.heap.size w w' := by
  have f0 : checkE 5 = 0 := by decide +kernel
  have f1 : nextE 5 3 = 33 := by decide +kernel
  have f2 : nextP 5 3 = 0 := by decide +kernel
  have fs0 : settledB 0 = false := by decide +kernel
  have fs5 : settledB 5 = true := by decide +kernel
  have f7 : nextE 5 5 = 0 := by decide +kernel
  have f8 : nextP 5 5 = 6 := by decide +kernel
  go_enter Try.func5, Try.ntmps5
  go_wp2_with (first | (go_at_call 17; refine (fresh_any _ _).mono ?_; rintro e w' ⟨rfl, rfl⟩) | (go_at_call 18; refine (proposed_any _ _).mono ?_; rintro e w' ⟨rfl, rfl⟩) | (go_at_call 19; refine (open_any _ _).mono ?_; rintro e w' ⟨rfl, rfl⟩) | (go_at_call 20; refine (settled_any _ _).mono ?_; rintro e w' ⟨rfl, rfl⟩) | (go_at_call 16; refine (check_any _ _).mono ?_; rintro e w' ⟨rfl, rfl⟩))
  refine (next_any _ _ _).mono ?_; rintro e w1 ⟨rfl, hb1⟩
  go_wp2_with (first | (go_at_call 17; refine (fresh_any _ _).mono ?_; rintro e w' ⟨rfl, rfl⟩) | (go_at_call 18; refine (proposed_any _ _).mono ?_; rintro e w' ⟨rfl, rfl⟩) | (go_at_call 19; refine (open_any _ _).mono ?_; rintro e w' ⟨rfl, rfl⟩) | (go_at_call 20; refine (settled_any _ _).mono ?_; rintro e w' ⟨rfl, rfl⟩) | (go_at_call 16; refine (check_any _ _).mono ?_; rintro e w' ⟨rfl, rfl⟩))
  refine (next_any _ _ _).mono ?_; rintro e w2 ⟨rfl, hb2⟩
  go_wp2_with (first | (go_at_call 17; refine (fresh_any _ _).mono ?_; rintro e w' ⟨rfl, rfl⟩) | (go_at_call 18; refine (proposed_any _ _).mono ?_; rintro e w' ⟨rfl, rfl⟩) | (go_at_call 19; refine (open_any _ _).mono ?_; rintro e w' ⟨rfl, rfl⟩) | (go_at_call 20; refine (settled_any _ _).mono ?_; rintro e w' ⟨rfl, rfl⟩) | (go_at_call 16; refine (check_any _ _).mono ?_; rintro e w' ⟨rfl, rfl⟩))
  refine (awake19_any _).mono ?_; rintro e w3 ⟨rfl, hb3⟩
  go_wp2_with fail
  go_ret
  exact ⟨rfl, bt' hb1 (bt' hb2 (hb3))⟩
set_option maxHeartbeats 1000000 in
theorem ends5_4  (w : World) : Calls Try.prog 5 #[.int .i64 5, .int .i64 4] w fun e w' => e = .returned (.bool true) ∧ Below w.heap.size w w' := by
  have f0 : checkE 5 = 0 := by decide +kernel
  have f1 : nextE 5 4 = 33 := by decide +kernel
  have f2 : nextP 5 4 = 0 := by decide +kernel
  have fs0 : settledB 0 = false := by decide +kernel
  have fs5 : settledB 5 = true := by decide +kernel
  have f7 : nextE 5 5 = 0 := by decide +kernel
  have f8 : nextP 5 5 = 6 := by decide +kernel
  go_enter Try.func5, Try.ntmps5
  go_wp2_with (first | (go_at_call 17; refine (fresh_any _ _).mono ?_; rintro e w' ⟨rfl, rfl⟩) | (go_at_call 18; refine (proposed_any _ _).mono ?_; rintro e w' ⟨rfl, rfl⟩) | (go_at_call 19; refine (open_any _ _).mono ?_; rintro e w' ⟨rfl, rfl⟩) | (go_at_call 20; refine (settled_any _ _).mono ?_; rintro e w' ⟨rfl, rfl⟩) | (go_at_call 16; refine (check_any _ _).mono ?_; rintro e w' ⟨rfl, rfl⟩))
  refine (next_any _ _ _).mono ?_; rintro e w1 ⟨rfl, hb1⟩
  go_wp2_with (first | (go_at_call 17; refine (fresh_any _ _).mono ?_; rintro e w' ⟨rfl, rfl⟩) | (go_at_call 18; refine (proposed_any _ _).mono ?_; rintro e w' ⟨rfl, rfl⟩) | (go_at_call 19; refine (open_any _ _).mono ?_; rintro e w' ⟨rfl, rfl⟩) | (go_at_call 20; refine (settled_any _ _).mono ?_; rintro e w' ⟨rfl, rfl⟩) | (go_at_call 16; refine (check_any _ _).mono ?_; rintro e w' ⟨rfl, rfl⟩))
  refine (next_any _ _ _).mono ?_; rintro e w2 ⟨rfl, hb2⟩
  go_wp2_with (first | (go_at_call 17; refine (fresh_any _ _).mono ?_; rintro e w' ⟨rfl, rfl⟩) | (go_at_call 18; refine (proposed_any _ _).mono ?_; rintro e w' ⟨rfl, rfl⟩) | (go_at_call 19; refine (open_any _ _).mono ?_; rintro e w' ⟨rfl, rfl⟩) | (go_at_call 20; refine (settled_any _ _).mono ?_; rintro e w' ⟨rfl, rfl⟩) | (go_at_call 16; refine (check_any _ _).mono ?_; rintro e w' ⟨rfl, rfl⟩))
  refine (awake19_any _).mono ?_; rintro e w3 ⟨rfl, hb3⟩
  go_wp2_with fail
  go_ret
  exact ⟨rfl, bt' hb1 (bt' hb2 (hb3))⟩
set_option maxHeartbeats 1000000 in
theorem ends5_5  (w : World) : Calls Try.prog 5 #[.int .i64 5, .int .i64 5] w fun e w' => e = .returned (.bool true) ∧ Below w.heap.size w w' := by
  have f0 : checkE 5 = 0 := by decide +kernel
  have f1 : nextE 5 5 = 0 := by decide +kernel
  have f2 : nextP 5 5 = 6 := by decide +kernel
  have fs5 : settledB 5 = true := by decide +kernel
  have fs6 : settledB 6 = true := by decide +kernel
  go_enter Try.func5, Try.ntmps5
  go_wp2_with (first | (go_at_call 17; refine (fresh_any _ _).mono ?_; rintro e w' ⟨rfl, rfl⟩) | (go_at_call 18; refine (proposed_any _ _).mono ?_; rintro e w' ⟨rfl, rfl⟩) | (go_at_call 19; refine (open_any _ _).mono ?_; rintro e w' ⟨rfl, rfl⟩) | (go_at_call 20; refine (settled_any _ _).mono ?_; rintro e w' ⟨rfl, rfl⟩) | (go_at_call 16; refine (check_any _ _).mono ?_; rintro e w' ⟨rfl, rfl⟩))
  refine (next_any _ _ _).mono ?_; rintro e w1 ⟨rfl, hb1⟩
  go_wp2_with (first | (go_at_call 17; refine (fresh_any _ _).mono ?_; rintro e w' ⟨rfl, rfl⟩) | (go_at_call 18; refine (proposed_any _ _).mono ?_; rintro e w' ⟨rfl, rfl⟩) | (go_at_call 19; refine (open_any _ _).mono ?_; rintro e w' ⟨rfl, rfl⟩) | (go_at_call 20; refine (settled_any _ _).mono ?_; rintro e w' ⟨rfl, rfl⟩) | (go_at_call 16; refine (check_any _ _).mono ?_; rintro e w' ⟨rfl, rfl⟩))
  refine (next_any _ _ _).mono ?_; rintro e w2 ⟨rfl, hb2⟩
  go_wp2_with (first | (go_at_call 17; refine (fresh_any _ _).mono ?_; rintro e w' ⟨rfl, rfl⟩) | (go_at_call 18; refine (proposed_any _ _).mono ?_; rintro e w' ⟨rfl, rfl⟩) | (go_at_call 19; refine (open_any _ _).mono ?_; rintro e w' ⟨rfl, rfl⟩) | (go_at_call 20; refine (settled_any _ _).mono ?_; rintro e w' ⟨rfl, rfl⟩) | (go_at_call 16; refine (check_any _ _).mono ?_; rintro e w' ⟨rfl, rfl⟩))
  refine (awake19_any _).mono ?_; rintro e w3 ⟨rfl, hb3⟩
  go_wp2_with fail
  go_ret
  exact ⟨rfl, bt' hb1 (bt' hb2 (hb3))⟩
set_option maxHeartbeats 1000000 in
theorem ends5_0 (act : Int) (ha : ¬ (1 ≤ act ∧ act ≤ 5)) (w : World) : Calls Try.prog 5 #[.int .i64 5, .int .i64 act] w fun e w' => e = .returned (.bool true) ∧ Below w.heap.size w w' := by
  have f0 : checkE 5 = 0 := by decide +kernel
  have f1 : nextE 5 act = 30 := by unfold nextE; rw [if_neg (by decide), if_pos (by omega)]
  have f2 : nextP 5 act = 0 := by unfold nextP; rw [if_neg (by rw [f1]; decide)]
  clear ha
  have fs0 : settledB 0 = false := by decide +kernel
  have fs5 : settledB 5 = true := by decide +kernel
  have f7 : nextE 5 5 = 0 := by decide +kernel
  have f8 : nextP 5 5 = 6 := by decide +kernel
  go_enter Try.func5, Try.ntmps5
  go_wp2_with (first | (go_at_call 17; refine (fresh_any _ _).mono ?_; rintro e w' ⟨rfl, rfl⟩) | (go_at_call 18; refine (proposed_any _ _).mono ?_; rintro e w' ⟨rfl, rfl⟩) | (go_at_call 19; refine (open_any _ _).mono ?_; rintro e w' ⟨rfl, rfl⟩) | (go_at_call 20; refine (settled_any _ _).mono ?_; rintro e w' ⟨rfl, rfl⟩) | (go_at_call 16; refine (check_any _ _).mono ?_; rintro e w' ⟨rfl, rfl⟩))
  refine (next_any _ _ _).mono ?_; rintro e w1 ⟨rfl, hb1⟩
  go_wp2_with (first | (go_at_call 17; refine (fresh_any _ _).mono ?_; rintro e w' ⟨rfl, rfl⟩) | (go_at_call 18; refine (proposed_any _ _).mono ?_; rintro e w' ⟨rfl, rfl⟩) | (go_at_call 19; refine (open_any _ _).mono ?_; rintro e w' ⟨rfl, rfl⟩) | (go_at_call 20; refine (settled_any _ _).mono ?_; rintro e w' ⟨rfl, rfl⟩) | (go_at_call 16; refine (check_any _ _).mono ?_; rintro e w' ⟨rfl, rfl⟩))
  refine (next_any _ _ _).mono ?_; rintro e w2 ⟨rfl, hb2⟩
  go_wp2_with (first | (go_at_call 17; refine (fresh_any _ _).mono ?_; rintro e w' ⟨rfl, rfl⟩) | (go_at_call 18; refine (proposed_any _ _).mono ?_; rintro e w' ⟨rfl, rfl⟩) | (go_at_call 19; refine (open_any _ _).mono ?_; rintro e w' ⟨rfl, rfl⟩) | (go_at_call 20; refine (settled_any _ _).mono ?_; rintro e w' ⟨rfl, rfl⟩) | (go_at_call 16; refine (check_any _ _).mono ?_; rintro e w' ⟨rfl, rfl⟩))
  refine (awake19_any _).mono ?_; rintro e w3 ⟨rfl, hb3⟩
  go_wp2_with fail
  go_ret
  exact ⟨rfl, bt' hb1 (bt' hb2 (hb3))⟩
set_option maxHeartbeats 1000000 in
theorem ends6_1  (w : World) : Calls Try.prog 5 #[.int .i64 6, .int .i64 1] w fun e w' => e = .returned (.bool true) ∧ Below w.heap.size w w' := by
  have f0 : checkE 6 = 0 := by decide +kernel
  have f1 : nextE 6 1 = 33 := by decide +kernel
  have f2 : nextP 6 1 = 0 := by decide +kernel
  have fs0 : settledB 0 = false := by decide +kernel
  have fs6 : settledB 6 = true := by decide +kernel
  have f7 : nextE 5 5 = 0 := by decide +kernel
  have f8 : nextP 5 5 = 6 := by decide +kernel
  go_enter Try.func5, Try.ntmps5
  go_wp2_with (first | (go_at_call 17; refine (fresh_any _ _).mono ?_; rintro e w' ⟨rfl, rfl⟩) | (go_at_call 18; refine (proposed_any _ _).mono ?_; rintro e w' ⟨rfl, rfl⟩) | (go_at_call 19; refine (open_any _ _).mono ?_; rintro e w' ⟨rfl, rfl⟩) | (go_at_call 20; refine (settled_any _ _).mono ?_; rintro e w' ⟨rfl, rfl⟩) | (go_at_call 16; refine (check_any _ _).mono ?_; rintro e w' ⟨rfl, rfl⟩))
  refine (next_any _ _ _).mono ?_; rintro e w1 ⟨rfl, hb1⟩
  go_wp2_with (first | (go_at_call 17; refine (fresh_any _ _).mono ?_; rintro e w' ⟨rfl, rfl⟩) | (go_at_call 18; refine (proposed_any _ _).mono ?_; rintro e w' ⟨rfl, rfl⟩) | (go_at_call 19; refine (open_any _ _).mono ?_; rintro e w' ⟨rfl, rfl⟩) | (go_at_call 20; refine (settled_any _ _).mono ?_; rintro e w' ⟨rfl, rfl⟩) | (go_at_call 16; refine (check_any _ _).mono ?_; rintro e w' ⟨rfl, rfl⟩))
  refine (awake19_any _).mono ?_; rintro e w2 ⟨rfl, hb2⟩
  go_wp2_with fail
  go_ret
  exact ⟨rfl, bt' hb1 (hb2)⟩
set_option maxHeartbeats 1000000 in
theorem ends6_2  (w : World) : Calls Try.prog 5 #[.int .i64 6, .int .i64 2] w fun e w' => e = .returned (.bool true) ∧ Below w.heap.size w w' := by
  have f0 : checkE 6 = 0 := by decide +kernel
  have f1 : nextE 6 2 = 33 := by decide +kernel
  have f2 : nextP 6 2 = 0 := by decide +kernel
  have fs0 : settledB 0 = false := by decide +kernel
  have fs6 : settledB 6 = true := by decide +kernel
  have f7 : nextE 5 5 = 0 := by decide +kernel
  have f8 : nextP 5 5 = 6 := by decide +kernel
  go_enter Try.func5, Try.ntmps5
  go_wp2_with (first | (go_at_call 17; refine (fresh_any _ _).mono ?_; rintro e w' ⟨rfl, rfl⟩) | (go_at_call 18; refine (proposed_any _ _).mono ?_; rintro e w' ⟨rfl, rfl⟩) | (go_at_call 19; refine (open_any _ _).mono ?_; rintro e w' ⟨rfl, rfl⟩) | (go_at_call 20; refine (settled_any _ _).mono ?_; rintro e w' ⟨rfl, rfl⟩) | (go_at_call 16; refine (check_any _ _).mono ?_; rintro e w' ⟨rfl, rfl⟩))
  refine (next_any _ _ _).mono ?_; rintro e w1 ⟨rfl, hb1⟩
  go_wp2_with (first | (go_at_call 17; refine (fresh_any _ _).mono ?_; rintro e w' ⟨rfl, rfl⟩) | (go_at_call 18; refine (proposed_any _ _).mono ?_; rintro e w' ⟨rfl, rfl⟩) | (go_at_call 19; refine (open_any _ _).mono ?_; rintro e w' ⟨rfl, rfl⟩) | (go_at_call 20; refine (settled_any _ _).mono ?_; rintro e w' ⟨rfl, rfl⟩) | (go_at_call 16; refine (check_any _ _).mono ?_; rintro e w' ⟨rfl, rfl⟩))
  refine (awake19_any _).mono ?_; rintro e w2 ⟨rfl, hb2⟩
  go_wp2_with fail
  go_ret
  exact ⟨rfl, bt' hb1 (hb2)⟩
set_option maxHeartbeats 1000000 in
theorem ends6_3  (w : World) : Calls Try.prog 5 #[.int .i64 6, .int .i64 3] w fun e w' => e = .returned (.bool true) ∧ Below w.heap.size w w' := by
  have f0 : checkE 6 = 0 := by decide +kernel
  have f1 : nextE 6 3 = 33 := by decide +kernel
  have f2 : nextP 6 3 = 0 := by decide +kernel
  have fs0 : settledB 0 = false := by decide +kernel
  have fs6 : settledB 6 = true := by decide +kernel
  have f7 : nextE 5 5 = 0 := by decide +kernel
  have f8 : nextP 5 5 = 6 := by decide +kernel
  go_enter Try.func5, Try.ntmps5
  go_wp2_with (first | (go_at_call 17; refine (fresh_any _ _).mono ?_; rintro e w' ⟨rfl, rfl⟩) | (go_at_call 18; refine (proposed_any _ _).mono ?_; rintro e w' ⟨rfl, rfl⟩) | (go_at_call 19; refine (open_any _ _).mono ?_; rintro e w' ⟨rfl, rfl⟩) | (go_at_call 20; refine (settled_any _ _).mono ?_; rintro e w' ⟨rfl, rfl⟩) | (go_at_call 16; refine (check_any _ _).mono ?_; rintro e w' ⟨rfl, rfl⟩))
  refine (next_any _ _ _).mono ?_; rintro e w1 ⟨rfl, hb1⟩
  go_wp2_with (first | (go_at_call 17; refine (fresh_any _ _).mono ?_; rintro e w' ⟨rfl, rfl⟩) | (go_at_call 18; refine (proposed_any _ _).mono ?_; rintro e w' ⟨rfl, rfl⟩) | (go_at_call 19; refine (open_any _ _).mono ?_; rintro e w' ⟨rfl, rfl⟩) | (go_at_call 20; refine (settled_any _ _).mono ?_; rintro e w' ⟨rfl, rfl⟩) | (go_at_call 16; refine (check_any _ _).mono ?_; rintro e w' ⟨rfl, rfl⟩))
  refine (awake19_any _).mono ?_; rintro e w2 ⟨rfl, hb2⟩
  go_wp2_with fail
  go_ret
  exact ⟨rfl, bt' hb1 (hb2)⟩
set_option maxHeartbeats 1000000 in
theorem ends6_4  (w : World) : Calls Try.prog 5 #[.int .i64 6, .int .i64 4] w fun e w' => e = .returned (.bool true) ∧ Below w.heap.size w w' := by
  have f0 : checkE 6 = 0 := by decide +kernel
  have f1 : nextE 6 4 = 33 := by decide +kernel
  have f2 : nextP 6 4 = 0 := by decide +kernel
  have fs0 : settledB 0 = false := by decide +kernel
  have fs6 : settledB 6 = true := by decide +kernel
  have f7 : nextE 5 5 = 0 := by decide +kernel
  have f8 : nextP 5 5 = 6 := by decide +kernel
  go_enter Try.func5, Try.ntmps5
  go_wp2_with (first | (go_at_call 17; refine (fresh_any _ _).mono ?_; rintro e w' ⟨rfl, rfl⟩) | (go_at_call 18; refine (proposed_any _ _).mono ?_; rintro e w' ⟨rfl, rfl⟩) | (go_at_call 19; refine (open_any _ _).mono ?_; rintro e w' ⟨rfl, rfl⟩) | (go_at_call 20; refine (settled_any _ _).mono ?_; rintro e w' ⟨rfl, rfl⟩) | (go_at_call 16; refine (check_any _ _).mono ?_; rintro e w' ⟨rfl, rfl⟩))
  refine (next_any _ _ _).mono ?_; rintro e w1 ⟨rfl, hb1⟩
  go_wp2_with (first | (go_at_call 17; refine (fresh_any _ _).mono ?_; rintro e w' ⟨rfl, rfl⟩) | (go_at_call 18; refine (proposed_any _ _).mono ?_; rintro e w' ⟨rfl, rfl⟩) | (go_at_call 19; refine (open_any _ _).mono ?_; rintro e w' ⟨rfl, rfl⟩) | (go_at_call 20; refine (settled_any _ _).mono ?_; rintro e w' ⟨rfl, rfl⟩) | (go_at_call 16; refine (check_any _ _).mono ?_; rintro e w' ⟨rfl, rfl⟩))
  refine (awake19_any _).mono ?_; rintro e w2 ⟨rfl, hb2⟩
  go_wp2_with fail
  go_ret
  exact ⟨rfl, bt' hb1 (hb2)⟩
set_option maxHeartbeats 1000000 in
theorem ends6_5  (w : World) : Calls Try.prog 5 #[.int .i64 6, .int .i64 5] w fun e w' => e = .returned (.bool true) ∧ Below w.heap.size w w' := by
  have f0 : checkE 6 = 0 := by decide +kernel
  have f1 : nextE 6 5 = 33 := by decide +kernel
  have f2 : nextP 6 5 = 0 := by decide +kernel
  have fs0 : settledB 0 = false := by decide +kernel
  have fs6 : settledB 6 = true := by decide +kernel
  have f7 : nextE 5 5 = 0 := by decide +kernel
  have f8 : nextP 5 5 = 6 := by decide +kernel
  go_enter Try.func5, Try.ntmps5
  go_wp2_with (first | (go_at_call 17; refine (fresh_any _ _).mono ?_; rintro e w' ⟨rfl, rfl⟩) | (go_at_call 18; refine (proposed_any _ _).mono ?_; rintro e w' ⟨rfl, rfl⟩) | (go_at_call 19; refine (open_any _ _).mono ?_; rintro e w' ⟨rfl, rfl⟩) | (go_at_call 20; refine (settled_any _ _).mono ?_; rintro e w' ⟨rfl, rfl⟩) | (go_at_call 16; refine (check_any _ _).mono ?_; rintro e w' ⟨rfl, rfl⟩))
  refine (next_any _ _ _).mono ?_; rintro e w1 ⟨rfl, hb1⟩
  go_wp2_with (first | (go_at_call 17; refine (fresh_any _ _).mono ?_; rintro e w' ⟨rfl, rfl⟩) | (go_at_call 18; refine (proposed_any _ _).mono ?_; rintro e w' ⟨rfl, rfl⟩) | (go_at_call 19; refine (open_any _ _).mono ?_; rintro e w' ⟨rfl, rfl⟩) | (go_at_call 20; refine (settled_any _ _).mono ?_; rintro e w' ⟨rfl, rfl⟩) | (go_at_call 16; refine (check_any _ _).mono ?_; rintro e w' ⟨rfl, rfl⟩))
  refine (awake19_any _).mono ?_; rintro e w2 ⟨rfl, hb2⟩
  go_wp2_with fail
  go_ret
  exact ⟨rfl, bt' hb1 (hb2)⟩
set_option maxHeartbeats 1000000 in
theorem ends6_0 (act : Int) (ha : ¬ (1 ≤ act ∧ act ≤ 5)) (w : World) : Calls Try.prog 5 #[.int .i64 6, .int .i64 act] w fun e w' => e = .returned (.bool true) ∧ Below w.heap.size w w' := by
  have f0 : checkE 6 = 0 := by decide +kernel
  have f1 : nextE 6 act = 30 := by unfold nextE; rw [if_neg (by decide), if_pos (by omega)]
  have f2 : nextP 6 act = 0 := by unfold nextP; rw [if_neg (by rw [f1]; decide)]
  clear ha
  have fs0 : settledB 0 = false := by decide +kernel
  have fs6 : settledB 6 = true := by decide +kernel
  have f7 : nextE 5 5 = 0 := by decide +kernel
  have f8 : nextP 5 5 = 6 := by decide +kernel
  go_enter Try.func5, Try.ntmps5
  go_wp2_with (first | (go_at_call 17; refine (fresh_any _ _).mono ?_; rintro e w' ⟨rfl, rfl⟩) | (go_at_call 18; refine (proposed_any _ _).mono ?_; rintro e w' ⟨rfl, rfl⟩) | (go_at_call 19; refine (open_any _ _).mono ?_; rintro e w' ⟨rfl, rfl⟩) | (go_at_call 20; refine (settled_any _ _).mono ?_; rintro e w' ⟨rfl, rfl⟩) | (go_at_call 16; refine (check_any _ _).mono ?_; rintro e w' ⟨rfl, rfl⟩))
  refine (next_any _ _ _).mono ?_; rintro e w1 ⟨rfl, hb1⟩
  go_wp2_with (first | (go_at_call 17; refine (fresh_any _ _).mono ?_; rintro e w' ⟨rfl, rfl⟩) | (go_at_call 18; refine (proposed_any _ _).mono ?_; rintro e w' ⟨rfl, rfl⟩) | (go_at_call 19; refine (open_any _ _).mono ?_; rintro e w' ⟨rfl, rfl⟩) | (go_at_call 20; refine (settled_any _ _).mono ?_; rintro e w' ⟨rfl, rfl⟩) | (go_at_call 16; refine (check_any _ _).mono ?_; rintro e w' ⟨rfl, rfl⟩))
  refine (awake19_any _).mono ?_; rintro e w2 ⟨rfl, hb2⟩
  go_wp2_with fail
  go_ret
  exact ⟨rfl, bt' hb1 (hb2)⟩
set_option maxHeartbeats 1000000 in
theorem ends_out (p act : Int) (h : ¬ (0 ≤ p ∧ p ≤ 6)) (w : World) : Calls Try.prog 5 #[.int .i64 p, .int .i64 act] w fun e w' => e = .returned (.bool true) ∧ Below w.heap.size w w' := by
  have f0 : checkE p = 2 := by unfold checkE; rw [if_pos (by omega)]
  have f1 : nextE p act = 2 := by unfold nextE; rw [if_pos (by omega)]
  clear h
  go_enter Try.func5, Try.ntmps5
  go_wp2_with (first | (go_at_call 17; refine (fresh_any _ _).mono ?_; rintro e w' ⟨rfl, rfl⟩) | (go_at_call 18; refine (proposed_any _ _).mono ?_; rintro e w' ⟨rfl, rfl⟩) | (go_at_call 19; refine (open_any _ _).mono ?_; rintro e w' ⟨rfl, rfl⟩) | (go_at_call 20; refine (settled_any _ _).mono ?_; rintro e w' ⟨rfl, rfl⟩) | (go_at_call 16; refine (check_any _ _).mono ?_; rintro e w' ⟨rfl, rfl⟩))
  refine (next_any _ _ _).mono ?_; rintro e w1 ⟨rfl, hb1⟩
  go_wp2_with (first | (go_at_call 17; refine (fresh_any _ _).mono ?_; rintro e w' ⟨rfl, rfl⟩) | (go_at_call 18; refine (proposed_any _ _).mono ?_; rintro e w' ⟨rfl, rfl⟩) | (go_at_call 19; refine (open_any _ _).mono ?_; rintro e w' ⟨rfl, rfl⟩) | (go_at_call 20; refine (settled_any _ _).mono ?_; rintro e w' ⟨rfl, rfl⟩) | (go_at_call 16; refine (check_any _ _).mono ?_; rintro e w' ⟨rfl, rfl⟩))
  refine (awake19_any _).mono ?_; rintro e w2 ⟨rfl, hb2⟩
  go_wp2_with fail
  go_ret
  exact ⟨rfl, bt' hb1 (hb2)⟩
theorem ends_any (p act : Int) (w : World) : Calls Try.prog 5 #[.int .i64 p, .int .i64 act] w fun e w' => e = .returned (.bool true) ∧ Below w.heap.size w w' := by
  by_cases hp : 0 ≤ p ∧ p ≤ 6
  · by_cases ha : 1 ≤ act ∧ act ≤ 5
    · obtain rfl | rfl | rfl | rfl | rfl | rfl | rfl : p = 0 ∨ p = 1 ∨ p = 2 ∨ p = 3 ∨ p = 4 ∨ p = 5 ∨ p = 6 := by omega
      · obtain rfl | rfl | rfl | rfl | rfl : act = 1 ∨ act = 2 ∨ act = 3 ∨ act = 4 ∨ act = 5 := by omega
        · exact ends0_1 w
        · exact ends0_2 w
        · exact ends0_3 w
        · exact ends0_4 w
        · exact ends0_5 w
      · obtain rfl | rfl | rfl | rfl | rfl : act = 1 ∨ act = 2 ∨ act = 3 ∨ act = 4 ∨ act = 5 := by omega
        · exact ends1_1 w
        · exact ends1_2 w
        · exact ends1_3 w
        · exact ends1_4 w
        · exact ends1_5 w
      · obtain rfl | rfl | rfl | rfl | rfl : act = 1 ∨ act = 2 ∨ act = 3 ∨ act = 4 ∨ act = 5 := by omega
        · exact ends2_1 w
        · exact ends2_2 w
        · exact ends2_3 w
        · exact ends2_4 w
        · exact ends2_5 w
      · obtain rfl | rfl | rfl | rfl | rfl : act = 1 ∨ act = 2 ∨ act = 3 ∨ act = 4 ∨ act = 5 := by omega
        · exact ends3_1 w
        · exact ends3_2 w
        · exact ends3_3 w
        · exact ends3_4 w
        · exact ends3_5 w
      · obtain rfl | rfl | rfl | rfl | rfl : act = 1 ∨ act = 2 ∨ act = 3 ∨ act = 4 ∨ act = 5 := by omega
        · exact ends4_1 w
        · exact ends4_2 w
        · exact ends4_3 w
        · exact ends4_4 w
        · exact ends4_5 w
      · obtain rfl | rfl | rfl | rfl | rfl : act = 1 ∨ act = 2 ∨ act = 3 ∨ act = 4 ∨ act = 5 := by omega
        · exact ends5_1 w
        · exact ends5_2 w
        · exact ends5_3 w
        · exact ends5_4 w
        · exact ends5_5 w
      · obtain rfl | rfl | rfl | rfl | rfl : act = 1 ∨ act = 2 ∨ act = 3 ∨ act = 4 ∨ act = 5 := by omega
        · exact ends6_1 w
        · exact ends6_2 w
        · exact ends6_3 w
        · exact ends6_4 w
        · exact ends6_5 w
    · obtain rfl | rfl | rfl | rfl | rfl | rfl | rfl : p = 0 ∨ p = 1 ∨ p = 2 ∨ p = 3 ∨ p = 4 ∨ p = 5 ∨ p = 6 := by omega
      · exact ends0_0 act ha w
      · exact ends1_0 act ha w
      · exact ends2_0 act ha w
      · exact ends3_0 act ha w
      · exact ends4_0 act ha w
      · exact ends5_0 act ha w
      · exact ends6_0 act ha w
  · exact ends_out p act hp w
end Go.Proofs.Ytnebacomafgjjaa
