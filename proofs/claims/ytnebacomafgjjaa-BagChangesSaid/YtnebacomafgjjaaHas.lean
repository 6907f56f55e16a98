/- Membership, the document's, and which flights a cut opens. -/
import Derived.Test.YtnebacomafgjjaaBools
import Derived.Test.YtnebacomafgjjaaBagLink
namespace Go.Proofs.Ytnebacomafgjjaa
open Go.RowKit
theorem refhas_out (set r : Int) (h : ¬ (1 ≤ r ∧ r ≤ 9)) : hasB set r = false := by
  unfold hasB
  rw [show replB r = false from decide_eq_false h]
  simp
theorem refhas_bad (set r : Int) (h : ¬ (0 ≤ set ∧ set ≤ 511)) : hasB set r = false := by
  unfold hasB
  rw [show mayB set = false from decide_eq_false h]
  rfl
theorem refhas_in (set : Int) (r : Nat) (h : 0 ≤ set ∧ set ≤ 511) (h1 : 1 ≤ r) (h2 : r ≤ 9) : hasB set (r : Nat) = bkB set 10 r := by
  unfold hasB bitB bkB
  rw [show mayB set = true from decide_eq_true h, show replB (r : Nat) = true from decide_eq_true ⟨by omega, by omega⟩, if_pos ⟨h1, by omega⟩, show ((r : Int) - 1).toNat = r - 1 from by omega]
  rfl
set_option maxRecDepth 100000 in
set_option maxHeartbeats 8000000 in
theorem refhas_any (set r : Int) (w : World) : Calls Try.prog 70 #[.int .i64 set, .int .i64 r] w fun e w' => e = .returned (.bool (hasB set r)) ∧ Below w.heap.size w w' := by
  by_cases hs : 0 ≤ set ∧ set ≤ 511
  · have HB := Lib.hid (fun W => bools_good set W hs.1 hs.2)
    unfold rowK at HB
    by_cases hr : 1 ≤ r ∧ r ≤ 9
    · obtain ⟨n, rfl⟩ := Int.eq_ofNat_of_zero_le (show 0 ≤ r from by omega)
      have hn1 : 1 ≤ n := by omega
      have hn2 : n ≤ 9 := by omega
      rw [refhas_in set n hs hn1 hn2]
      clear hs hr
      obtain rfl | rfl | rfl | rfl | rfl | rfl | rfl | rfl | rfl : n = 1 ∨ n = 2 ∨ n = 3 ∨ n = 4 ∨ n = 5 ∨ n = 6 ∨ n = 7 ∨ n = 8 ∨ n = 9 := by omega
      all_goals
        clear hn1 hn2
        go_enter Try.func70, Try.ntmps70
        go_wp2_with fail
        refine (HB.out _).mono ?_; rintro e w1 ⟨rfl, hb1⟩
        go_wp2
        go_ret
        exact ⟨rfl, balloc hb1 _⟩
    · rw [refhas_out set r hr]
      clear hs
      by_cases h1 : 1 ≤ r
      · have h2 : ¬ r ≤ 9 := fun h => hr ⟨h1, h⟩
        clear hr
        go_enter Try.func70, Try.ntmps70
        go_wp2_with fail
        refine (HB.out _).mono ?_; rintro e w1 ⟨rfl, hb1⟩
        go_wp2
        go_ret
        exact ⟨rfl, balloc hb1 _⟩
      · clear hr
        go_enter Try.func70, Try.ntmps70
        go_wp2_with fail
        refine (HB.out _).mono ?_; rintro e w1 ⟨rfl, hb1⟩
        go_wp2
        go_ret
        exact ⟨rfl, balloc hb1 _⟩
  · have HB := Lib.hid (fun W => bools_bad set W hs)
    unfold bools0 at HB
    rw [refhas_bad set r hs]
    clear hs
    by_cases hr : 1 ≤ r ∧ r ≤ 9
    · obtain rfl | rfl | rfl | rfl | rfl | rfl | rfl | rfl | rfl : r = 1 ∨ r = 2 ∨ r = 3 ∨ r = 4 ∨ r = 5 ∨ r = 6 ∨ r = 7 ∨ r = 8 ∨ r = 9 := by omega
      all_goals
        clear hr
        go_enter Try.func70, Try.ntmps70
        go_wp2_with fail
        refine (HB.out _).mono ?_; rintro e w1 ⟨rfl, hb1⟩
        go_wp2
        go_ret
        exact ⟨rfl, balloc hb1 _⟩
    · by_cases h1 : 1 ≤ r
      · have h2 : ¬ r ≤ 9 := fun h => hr ⟨h1, h⟩
        clear hr
        go_enter Try.func70, Try.ntmps70
        go_wp2_with fail
        refine (HB.out _).mono ?_; rintro e w1 ⟨rfl, hb1⟩
        go_wp2
        go_ret
        exact ⟨rfl, balloc hb1 _⟩
      · clear hr
        go_enter Try.func70, Try.ntmps70
        go_wp2_with fail
        refine (HB.out _).mono ?_; rintro e w1 ⟨rfl, hb1⟩
        go_wp2
        go_ret
        exact ⟨rfl, balloc hb1 _⟩
end Go.Proofs.Ytnebacomafgjjaa
