import Derived.Test.YtnebacomafgjjaaP2
namespace Go.Proofs.Ytnebacomafgjjaa
open Go.RowKit
set_option maxHeartbeats 1000000 in
theorem awake19_any (w : World) : Calls Try.prog 21 #[] w fun e w' => e = .returned (.bool true) ∧ Below w.heap.size w w' := by
  have a1 : nextP 2 3 = 3 := by decide +kernel
  have a2 : nextE 2 3 = 0 := by decide +kernel
  have a3 : nextP 1 3 = 4 := by decide +kernel
  have a4 : nextE 1 3 = 0 := by decide +kernel
  have a5 : nextE 5 2 = 33 := by decide +kernel
  have a6 : nextE 0 6 = 30 := by decide +kernel
  have a7 : nextE 7 1 = 2 := by decide +kernel
  have a8 : (nameS 3) = ⟨#[114, 101, 115, 99, 117, 101, 45, 112]⟩ := rfl
  have a9 : freshB 1 = true := by decide +kernel
  have a10 : proposedB 4 = true := by decide +kernel
  have a11 : openB 1 = true := by decide +kernel
  have a12 : openB 0 = false := by decide +kernel
  have a13 : settledB 6 = true := by decide +kernel
  have a14 : checkE 7 = 2 := by decide +kernel
  go_enter Try.func21, Try.ntmps21
  go_wp2_with fail
  refine (next_any _ _ _).mono ?_; rintro e w1 ⟨rfl, hb1⟩
  go_wp2_with fail
  refine (next_any _ _ _).mono ?_; rintro e w2 ⟨rfl, hb2⟩
  go_wp2_with fail
  refine (next_any _ _ _).mono ?_; rintro e w3 ⟨rfl, hb3⟩
  go_wp2_with fail
  refine (next_any _ _ _).mono ?_; rintro e w4 ⟨rfl, hb4⟩
  go_wp2_with fail
  refine (next_any _ _ _).mono ?_; rintro e w5 ⟨rfl, hb5⟩
  go_wp2_with fail
  refine (name_any _ _).mono ?_; rintro e w6 ⟨rfl, hb6⟩
  go_wp2_with (first | (go_at_call 17; refine (fresh_any _ _).mono ?_; rintro e w' ⟨rfl, rfl⟩) | (go_at_call 18; refine (proposed_any _ _).mono ?_; rintro e w' ⟨rfl, rfl⟩) | (go_at_call 19; refine (open_any _ _).mono ?_; rintro e w' ⟨rfl, rfl⟩) | (go_at_call 20; refine (settled_any _ _).mono ?_; rintro e w' ⟨rfl, rfl⟩) | (go_at_call 16; refine (check_any _ _).mono ?_; rintro e w' ⟨rfl, rfl⟩))
  go_ret
  exact ⟨rfl, hb1.trans ((hb2.trans ((hb3.trans ((hb4.trans ((hb5.trans (hb6.mono hb5.size)).mono hb4.size)).mono hb3.size)).mono hb2.size)).mono hb1.size)⟩
end Go.Proofs.Ytnebacomafgjjaa
