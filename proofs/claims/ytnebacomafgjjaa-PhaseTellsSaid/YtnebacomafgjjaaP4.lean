import Derived.Test.YtnebacomafgjjaaP3
namespace Go.Proofs.Ytnebacomafgjjaa
open Go.RowKit
theorem bt {a b c : World} (h : Below a.heap.size a b) (k : Below b.heap.size b c) : Below a.heap.size a c := h.trans (k.mono h.size)
set_option maxHeartbeats 1000000 in
theorem tells0 (act : Int) (w : World) : Calls Try.prog 3 #[.int .i64 0, .int .i64 act] w fun e w' => e = .returned (.bool true) ∧ Below w.heap.size w w' := by
  have f_freshB : freshB 0 = true := by decide +kernel
  have f_proposedB : proposedB 0 = false := by decide +kernel
  have f_openB : openB 0 = false := by decide +kernel
  have f_settledB : settledB 0 = false := by decide +kernel
  have f_c : checkE 0 = 0 := by decide +kernel
  go_enter Try.func3, Try.ntmps3
  go_wp2_with fail
  refine (next_any _ _ _).mono ?_; rintro e w1 ⟨rfl, hb1⟩
  go_wp2_with fail
  refine (refnext_any _ _ _).mono ?_; rintro e w2 ⟨rfl, hb2⟩
  go_wp2_with fail
  refine (name_any _ _).mono ?_; rintro e w3 ⟨rfl, hb3⟩
  go_wp2_with fail
  refine (refname_any _ _).mono ?_; rintro e w4 ⟨rfl, rfl⟩
  go_wp2_with (first | (go_at_call 17; refine (fresh_any _ _).mono ?_; rintro e w' ⟨rfl, rfl⟩) | (go_at_call 18; refine (proposed_any _ _).mono ?_; rintro e w' ⟨rfl, rfl⟩) | (go_at_call 19; refine (open_any _ _).mono ?_; rintro e w' ⟨rfl, rfl⟩) | (go_at_call 20; refine (settled_any _ _).mono ?_; rintro e w' ⟨rfl, rfl⟩) | (go_at_call 16; refine (check_any _ _).mono ?_; rintro e w' ⟨rfl, rfl⟩))
  refine (awake19_any _).mono ?_; rintro e w4 ⟨rfl, hb4⟩
  go_wp2_with fail
  go_ret
  exact ⟨rfl, bt hb1 (bt hb2 (bt hb3 hb4))⟩
set_option maxHeartbeats 1000000 in
theorem tells1 (act : Int) (w : World) : Calls Try.prog 3 #[.int .i64 1, .int .i64 act] w fun e w' => e = .returned (.bool true) ∧ Below w.heap.size w w' := by
  have f_freshB : freshB 1 = true := by decide +kernel
  have f_proposedB : proposedB 1 = false := by decide +kernel
  have f_openB : openB 1 = true := by decide +kernel
  have f_settledB : settledB 1 = false := by decide +kernel
  have f_c : checkE 1 = 0 := by decide +kernel
  go_enter Try.func3, Try.ntmps3
  go_wp2_with fail
  refine (next_any _ _ _).mono ?_; rintro e w1 ⟨rfl, hb1⟩
  go_wp2_with fail
  refine (refnext_any _ _ _).mono ?_; rintro e w2 ⟨rfl, hb2⟩
  go_wp2_with fail
  refine (name_any _ _).mono ?_; rintro e w3 ⟨rfl, hb3⟩
  go_wp2_with fail
  refine (refname_any _ _).mono ?_; rintro e w4 ⟨rfl, rfl⟩
  go_wp2_with (first | (go_at_call 17; refine (fresh_any _ _).mono ?_; rintro e w' ⟨rfl, rfl⟩) | (go_at_call 18; refine (proposed_any _ _).mono ?_; rintro e w' ⟨rfl, rfl⟩) | (go_at_call 19; refine (open_any _ _).mono ?_; rintro e w' ⟨rfl, rfl⟩) | (go_at_call 20; refine (settled_any _ _).mono ?_; rintro e w' ⟨rfl, rfl⟩) | (go_at_call 16; refine (check_any _ _).mono ?_; rintro e w' ⟨rfl, rfl⟩))
  refine (awake19_any _).mono ?_; rintro e w4 ⟨rfl, hb4⟩
  go_wp2_with fail
  go_ret
  exact ⟨rfl, bt hb1 (bt hb2 (bt hb3 hb4))⟩
set_option maxHeartbeats 1000000 in
theorem tells2 (act : Int) (w : World) : Calls Try.prog 3 #[.int .i64 2, .int .i64 act] w fun e w' => e = .returned (.bool true) ∧ Below w.heap.size w w' := by
  have f_freshB : freshB 2 = false := by decide +kernel
  have f_proposedB : proposedB 2 = true := by decide +kernel
  have f_openB : openB 2 = true := by decide +kernel
  have f_settledB : settledB 2 = false := by decide +kernel
  have f_c : checkE 2 = 0 := by decide +kernel
  go_enter Try.func3, Try.ntmps3
  go_wp2_with fail
  refine (next_any _ _ _).mono ?_; rintro e w1 ⟨rfl, hb1⟩
  go_wp2_with fail
  refine (refnext_any _ _ _).mono ?_; rintro e w2 ⟨rfl, hb2⟩
  go_wp2_with fail
  refine (name_any _ _).mono ?_; rintro e w3 ⟨rfl, hb3⟩
  go_wp2_with fail
  refine (refname_any _ _).mono ?_; rintro e w4 ⟨rfl, rfl⟩
  go_wp2_with (first | (go_at_call 17; refine (fresh_any _ _).mono ?_; rintro e w' ⟨rfl, rfl⟩) | (go_at_call 18; refine (proposed_any _ _).mono ?_; rintro e w' ⟨rfl, rfl⟩) | (go_at_call 19; refine (open_any _ _).mono ?_; rintro e w' ⟨rfl, rfl⟩) | (go_at_call 20; refine (settled_any _ _).mono ?_; rintro e w' ⟨rfl, rfl⟩) | (go_at_call 16; refine (check_any _ _).mono ?_; rintro e w' ⟨rfl, rfl⟩))
  refine (awake19_any _).mono ?_; rintro e w4 ⟨rfl, hb4⟩
  go_wp2_with fail
  go_ret
  exact ⟨rfl, bt hb1 (bt hb2 (bt hb3 hb4))⟩
set_option maxHeartbeats 1000000 in
theorem tells3 (act : Int) (w : World) : Calls Try.prog 3 #[.int .i64 3, .int .i64 act] w fun e w' => e = .returned (.bool true) ∧ Below w.heap.size w w' := by
  have f_freshB : freshB 3 = false := by decide +kernel
  have f_proposedB : proposedB 3 = true := by decide +kernel
  have f_openB : openB 3 = true := by decide +kernel
  have f_settledB : settledB 3 = false := by decide +kernel
  have f_c : checkE 3 = 0 := by decide +kernel
  go_enter Try.func3, Try.ntmps3
  go_wp2_with fail
  refine (next_any _ _ _).mono ?_; rintro e w1 ⟨rfl, hb1⟩
  go_wp2_with fail
  refine (refnext_any _ _ _).mono ?_; rintro e w2 ⟨rfl, hb2⟩
  go_wp2_with fail
  refine (name_any _ _).mono ?_; rintro e w3 ⟨rfl, hb3⟩
  go_wp2_with fail
  refine (refname_any _ _).mono ?_; rintro e w4 ⟨rfl, rfl⟩
  go_wp2_with (first | (go_at_call 17; refine (fresh_any _ _).mono ?_; rintro e w' ⟨rfl, rfl⟩) | (go_at_call 18; refine (proposed_any _ _).mono ?_; rintro e w' ⟨rfl, rfl⟩) | (go_at_call 19; refine (open_any _ _).mono ?_; rintro e w' ⟨rfl, rfl⟩) | (go_at_call 20; refine (settled_any _ _).mono ?_; rintro e w' ⟨rfl, rfl⟩) | (go_at_call 16; refine (check_any _ _).mono ?_; rintro e w' ⟨rfl, rfl⟩))
  refine (awake19_any _).mono ?_; rintro e w4 ⟨rfl, hb4⟩
  go_wp2_with fail
  go_ret
  exact ⟨rfl, bt hb1 (bt hb2 (bt hb3 hb4))⟩
set_option maxHeartbeats 1000000 in
theorem tells4 (act : Int) (w : World) : Calls Try.prog 3 #[.int .i64 4, .int .i64 act] w fun e w' => e = .returned (.bool true) ∧ Below w.heap.size w w' := by
  have f_freshB : freshB 4 = false := by decide +kernel
  have f_proposedB : proposedB 4 = true := by decide +kernel
  have f_openB : openB 4 = true := by decide +kernel
  have f_settledB : settledB 4 = false := by decide +kernel
  have f_c : checkE 4 = 0 := by decide +kernel
  go_enter Try.func3, Try.ntmps3
  go_wp2_with fail
  refine (next_any _ _ _).mono ?_; rintro e w1 ⟨rfl, hb1⟩
  go_wp2_with fail
  refine (refnext_any _ _ _).mono ?_; rintro e w2 ⟨rfl, hb2⟩
  go_wp2_with fail
  refine (name_any _ _).mono ?_; rintro e w3 ⟨rfl, hb3⟩
  go_wp2_with fail
  refine (refname_any _ _).mono ?_; rintro e w4 ⟨rfl, rfl⟩
  go_wp2_with (first | (go_at_call 17; refine (fresh_any _ _).mono ?_; rintro e w' ⟨rfl, rfl⟩) | (go_at_call 18; refine (proposed_any _ _).mono ?_; rintro e w' ⟨rfl, rfl⟩) | (go_at_call 19; refine (open_any _ _).mono ?_; rintro e w' ⟨rfl, rfl⟩) | (go_at_call 20; refine (settled_any _ _).mono ?_; rintro e w' ⟨rfl, rfl⟩) | (go_at_call 16; refine (check_any _ _).mono ?_; rintro e w' ⟨rfl, rfl⟩))
  refine (awake19_any _).mono ?_; rintro e w4 ⟨rfl, hb4⟩
  go_wp2_with fail
  go_ret
  exact ⟨rfl, bt hb1 (bt hb2 (bt hb3 hb4))⟩
set_option maxHeartbeats 1000000 in
theorem tells5 (act : Int) (w : World) : Calls Try.prog 3 #[.int .i64 5, .int .i64 act] w fun e w' => e = .returned (.bool true) ∧ Below w.heap.size w w' := by
  have f_freshB : freshB 5 = false := by decide +kernel
  have f_proposedB : proposedB 5 = false := by decide +kernel
  have f_openB : openB 5 = false := by decide +kernel
  have f_settledB : settledB 5 = true := by decide +kernel
  have f_c : checkE 5 = 0 := by decide +kernel
  go_enter Try.func3, Try.ntmps3
  go_wp2_with fail
  refine (next_any _ _ _).mono ?_; rintro e w1 ⟨rfl, hb1⟩
  go_wp2_with fail
  refine (refnext_any _ _ _).mono ?_; rintro e w2 ⟨rfl, hb2⟩
  go_wp2_with fail
  refine (name_any _ _).mono ?_; rintro e w3 ⟨rfl, hb3⟩
  go_wp2_with fail
  refine (refname_any _ _).mono ?_; rintro e w4 ⟨rfl, rfl⟩
  go_wp2_with (first | (go_at_call 17; refine (fresh_any _ _).mono ?_; rintro e w' ⟨rfl, rfl⟩) | (go_at_call 18; refine (proposed_any _ _).mono ?_; rintro e w' ⟨rfl, rfl⟩) | (go_at_call 19; refine (open_any _ _).mono ?_; rintro e w' ⟨rfl, rfl⟩) | (go_at_call 20; refine (settled_any _ _).mono ?_; rintro e w' ⟨rfl, rfl⟩) | (go_at_call 16; refine (check_any _ _).mono ?_; rintro e w' ⟨rfl, rfl⟩))
  refine (awake19_any _).mono ?_; rintro e w4 ⟨rfl, hb4⟩
  go_wp2_with fail
  go_ret
  exact ⟨rfl, bt hb1 (bt hb2 (bt hb3 hb4))⟩
set_option maxHeartbeats 1000000 in
theorem tells6 (act : Int) (w : World) : Calls Try.prog 3 #[.int .i64 6, .int .i64 act] w fun e w' => e = .returned (.bool true) ∧ Below w.heap.size w w' := by
  have f_freshB : freshB 6 = false := by decide +kernel
  have f_proposedB : proposedB 6 = false := by decide +kernel
  have f_openB : openB 6 = false := by decide +kernel
  have f_settledB : settledB 6 = true := by decide +kernel
  have f_c : checkE 6 = 0 := by decide +kernel
  go_enter Try.func3, Try.ntmps3
  go_wp2_with fail
  refine (next_any _ _ _).mono ?_; rintro e w1 ⟨rfl, hb1⟩
  go_wp2_with fail
  refine (refnext_any _ _ _).mono ?_; rintro e w2 ⟨rfl, hb2⟩
  go_wp2_with fail
  refine (name_any _ _).mono ?_; rintro e w3 ⟨rfl, hb3⟩
  go_wp2_with fail
  refine (refname_any _ _).mono ?_; rintro e w4 ⟨rfl, rfl⟩
  go_wp2_with (first | (go_at_call 17; refine (fresh_any _ _).mono ?_; rintro e w' ⟨rfl, rfl⟩) | (go_at_call 18; refine (proposed_any _ _).mono ?_; rintro e w' ⟨rfl, rfl⟩) | (go_at_call 19; refine (open_any _ _).mono ?_; rintro e w' ⟨rfl, rfl⟩) | (go_at_call 20; refine (settled_any _ _).mono ?_; rintro e w' ⟨rfl, rfl⟩) | (go_at_call 16; refine (check_any _ _).mono ?_; rintro e w' ⟨rfl, rfl⟩))
  refine (awake19_any _).mono ?_; rintro e w4 ⟨rfl, hb4⟩
  go_wp2_with fail
  go_ret
  exact ⟨rfl, bt hb1 (bt hb2 (bt hb3 hb4))⟩
set_option maxHeartbeats 1000000 in
theorem tells_out (p act : Int) (h : ¬ (0 ≤ p ∧ p ≤ 6)) (w : World) : Calls Try.prog 3 #[.int .i64 p, .int .i64 act] w fun e w' => e = .returned (.bool true) ∧ Below w.heap.size w w' := by
  have f1 : freshB p = false := by unfold freshB; exact decide_eq_false (by omega)
  have f2 : proposedB p = false := by unfold proposedB; exact decide_eq_false (by omega)
  have f3 : openB p = false := by unfold openB; exact decide_eq_false (by omega)
  have f4 : settledB p = false := by unfold settledB; exact decide_eq_false (by omega)
  have f5 : (checkE p == 0) = false := by unfold checkE; rw [if_pos (by omega)]; rfl
  obtain ⟨h0, h1, h2, h3, h4, h5, h6⟩ : (p == 0) = false ∧ (p == 1) = false ∧ (p == 2) = false ∧ (p == 3) = false ∧ (p == 4) = false ∧ (p == 5) = false ∧ (p == 6) = false := by simp only [beq_eq_false_iff_ne]; omega
  rcases (by omega : p < 0 ∨ 6 < p) with hlt | hgt
  · have hn : decide (1 ≤ p) = false := by simp; omega
    have hn0 : decide (0 ≤ p) = false := by simp; omega
    go_enter Try.func3, Try.ntmps3
    go_wp2_with fail
    refine (next_any _ _ _).mono ?_; rintro e w1 ⟨rfl, hb1⟩
    go_wp2_with fail
    refine (refnext_any _ _ _).mono ?_; rintro e w2 ⟨rfl, hb2⟩
    go_wp2_with fail
    refine (name_any _ _).mono ?_; rintro e w3 ⟨rfl, hb3⟩
    go_wp2_with fail
    refine (refname_any _ _).mono ?_; rintro e w4 ⟨rfl, rfl⟩
    go_wp2_with (first | (go_at_call 17; refine (fresh_any _ _).mono ?_; rintro e w' ⟨rfl, rfl⟩) | (go_at_call 18; refine (proposed_any _ _).mono ?_; rintro e w' ⟨rfl, rfl⟩) | (go_at_call 19; refine (open_any _ _).mono ?_; rintro e w' ⟨rfl, rfl⟩) | (go_at_call 20; refine (settled_any _ _).mono ?_; rintro e w' ⟨rfl, rfl⟩) | (go_at_call 16; refine (check_any _ _).mono ?_; rintro e w' ⟨rfl, rfl⟩))
    refine (awake19_any _).mono ?_; rintro e w4 ⟨rfl, hb4⟩
    go_wp2_with fail
    go_ret
    exact ⟨rfl, bt hb1 (bt hb2 (bt hb3 hb4))⟩
  · have hn : 1 ≤ p := by omega
    have hn0 : 0 ≤ p := by omega
    have hn4 : decide (p ≤ 4) = false := by simp; omega
    have hn6 : decide (p ≤ 6) = false := by simp; omega
    go_enter Try.func3, Try.ntmps3
    go_wp2_with fail
    refine (next_any _ _ _).mono ?_; rintro e w1 ⟨rfl, hb1⟩
    go_wp2_with fail
    refine (refnext_any _ _ _).mono ?_; rintro e w2 ⟨rfl, hb2⟩
    go_wp2_with fail
    refine (name_any _ _).mono ?_; rintro e w3 ⟨rfl, hb3⟩
    go_wp2_with fail
    refine (refname_any _ _).mono ?_; rintro e w4 ⟨rfl, rfl⟩
    go_wp2_with (first | (go_at_call 17; refine (fresh_any _ _).mono ?_; rintro e w' ⟨rfl, rfl⟩) | (go_at_call 18; refine (proposed_any _ _).mono ?_; rintro e w' ⟨rfl, rfl⟩) | (go_at_call 19; refine (open_any _ _).mono ?_; rintro e w' ⟨rfl, rfl⟩) | (go_at_call 20; refine (settled_any _ _).mono ?_; rintro e w' ⟨rfl, rfl⟩) | (go_at_call 16; refine (check_any _ _).mono ?_; rintro e w' ⟨rfl, rfl⟩))
    refine (awake19_any _).mono ?_; rintro e w4 ⟨rfl, hb4⟩
    go_wp2_with fail
    go_ret
    exact ⟨rfl, bt hb1 (bt hb2 (bt hb3 hb4))⟩
theorem tells_any (p act : Int) (w : World) : Calls Try.prog 3 #[.int .i64 p, .int .i64 act] w fun e w' => e = .returned (.bool true) ∧ Below w.heap.size w w' := by
  by_cases hp : 0 ≤ p ∧ p ≤ 6
  · obtain rfl | rfl | rfl | rfl | rfl | rfl | rfl : p = 0 ∨ p = 1 ∨ p = 2 ∨ p = 3 ∨ p = 4 ∨ p = 5 ∨ p = 6 := by omega
    · exact tells0 act w
    · exact tells1 act w
    · exact tells2 act w
    · exact tells3 act w
    · exact tells4 act w
    · exact tells5 act w
    · exact tells6 act w
  · exact tells_out p act hp w
end Go.Proofs.Ytnebacomafgjjaa
