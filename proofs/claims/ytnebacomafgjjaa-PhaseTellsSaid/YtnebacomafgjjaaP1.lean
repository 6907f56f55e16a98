/- Walks of the layer phase. -/
import Derived.Test.YtnebacomafgjjaaChecked
import Derived.WalkKit
import Derived.WalkLawsBesides
import Derived.WalkSpells
import Derived.Outline
import Derived.Lib.Hide
namespace Go.Proofs.Ytnebacomafgjjaa
open Go.RowKit

theorem ret_int {k : IntKind} {a b : Int} (h : a = b) : Ending.returned (.int k a) = .returned (.int k b) := by rw [h]
theorem ret_bool {a b : Bool} (h : a = b) : Ending.returned (.bool a) = .returned (.bool b) := by rw [h]

def checkE (p : Int) : Int := if p < 0 ∨ 6 < p then 2 else 0
def freshB (p : Int) : Bool := decide (p = 0 ∨ p = 1)
def proposedB (p : Int) : Bool := decide (2 ≤ p ∧ p ≤ 4)
def openB (p : Int) : Bool := decide (1 ≤ p ∧ p ≤ 4)
def settledB (p : Int) : Bool := decide (p = 5 ∨ p = 6)
def leadsB (p act : Int) : Bool := if act = 1 then decide (p = 0) else if act = 2 then freshB p else if act = 3 ∨ act = 4 then !settledB p else decide (p = 5)
def rescuedI (p : Int) : Int := if p = 2 then 3 else if p = 3 ∨ p = 4 then p else 4

theorem check_any (p : Int) (w : World) : Calls Try.prog 16 #[.int .i64 p] w fun e w' => e = .returned (.int .i64 (checkE p)) ∧ w = w' := by
  go_enter Try.func16, Try.ntmps16
  go_wp2
  all_goals (go_ret; exact ⟨ret_int (by unfold checkE; first | rw [if_pos (by omega)] | rw [if_neg (by omega)]), rfl⟩)
theorem fresh_any (p : Int) (w : World) : Calls Try.prog 17 #[.int .i64 p] w fun e w' => e = .returned (.bool (freshB p)) ∧ w = w' := by
  go_enter Try.func17, Try.ntmps17
  go_wp2
  all_goals (go_ret; exact ⟨ret_bool (by unfold freshB; rw [Bool.eq_iff_iff]; simp <;> omega), rfl⟩)
theorem proposed_any (p : Int) (w : World) : Calls Try.prog 18 #[.int .i64 p] w fun e w' => e = .returned (.bool (proposedB p)) ∧ w = w' := by
  go_enter Try.func18, Try.ntmps18
  go_wp2
  all_goals (go_ret; exact ⟨ret_bool (by unfold proposedB; rw [Bool.eq_iff_iff]; simp <;> omega), rfl⟩)
theorem open_any (p : Int) (w : World) : Calls Try.prog 19 #[.int .i64 p] w fun e w' => e = .returned (.bool (openB p)) ∧ w = w' := by
  go_enter Try.func19, Try.ntmps19
  go_wp2
  all_goals (go_ret; exact ⟨ret_bool (by unfold openB; rw [Bool.eq_iff_iff]; simp <;> omega), rfl⟩)
theorem settled_any (p : Int) (w : World) : Calls Try.prog 20 #[.int .i64 p] w fun e w' => e = .returned (.bool (settledB p)) ∧ w = w' := by
  go_enter Try.func20, Try.ntmps20
  go_wp2
  all_goals (go_ret; exact ⟨ret_bool (by unfold settledB; rw [Bool.eq_iff_iff]; simp <;> omega), rfl⟩)
theorem rescued_any (p : Int) (w : World) : Calls Try.prog 52 #[.int .i64 p] w fun e w' => e = .returned (.int .i64 (rescuedI p)) ∧ w = w' := by
  go_enter Try.func52, Try.ntmps52
  go_wp2
  all_goals (go_ret; refine ⟨ret_int ?_, rfl⟩; simp only [beq_iff_eq, beq_eq_false_iff_ne] at *; unfold rescuedI; split <;> (try split) <;> omega)
theorem leads_any (p act : Int) (w : World) : Calls Try.prog 51 #[.int .i64 p, .int .i64 act] w fun e w' => e = .returned (.bool (leadsB p act)) ∧ w = w' := by
  go_enter Try.func51, Try.ntmps51
  go_wp2_with (first | (go_at_call 20; refine (settled_any _ _).mono ?_; rintro e w' ⟨rfl, rfl⟩) | (go_at_call 17; refine (fresh_any _ _).mono ?_; rintro e w' ⟨rfl, rfl⟩))
  all_goals (go_ret; refine ⟨ret_bool ?_, rfl⟩; simp only [beq_iff_eq, beq_eq_false_iff_ne] at *; unfold leadsB; simp [*]; try rfl)

def nextE (p act : Int) : Int := if p < 0 ∨ 6 < p then 2 else if act < 1 ∨ 5 < act then 30 else if leadsB p act = true then 0 else 33
def nextP (p act : Int) : Int := if nextE p act = 0 then (if act = 1 then 1 else if act = 2 then 2 else if act = 3 then rescuedI p else if act = 4 then 5 else 6) else 0


theorem nextE_out (p act : Int) (h : ¬ (0 ≤ p ∧ p ≤ 6)) : nextE p act = 2 := by unfold nextE; rw [if_pos (by omega)]
theorem nextE_kind (p act : Int) (h : 0 ≤ p ∧ p ≤ 6) (g : ¬ (1 ≤ act ∧ act ≤ 5)) : nextE p act = 30 := by unfold nextE; rw [if_neg (by omega), if_pos (by omega)]
theorem nextE_in (p act : Int) (h : 0 ≤ p ∧ p ≤ 6) (g : 1 ≤ act ∧ act ≤ 5) : nextE p act = if leadsB p act = true then 0 else 33 := by unfold nextE; rw [if_neg (by omega), if_neg (by omega)]
theorem nextP_bad (p act : Int) (h : nextE p act ≠ 0) : nextP p act = 0 := by unfold nextP; rw [if_neg h]
theorem nextP_ok (p act : Int) (h : nextE p act = 0) : nextP p act = (if act = 1 then 1 else if act = 2 then 2 else if act = 3 then rescuedI p else if act = 4 then 5 else 6) := by unfold nextP; rw [if_pos h]
theorem ret_two {k l : IntKind} {a b c d : Int} (h : a = b) (g : c = d) : Ending.returned (.tuple #[.int k a, .int l c]) = .returned (.tuple #[.int k b, .int l d]) := by rw [h, g]
set_option maxHeartbeats 400000 in
theorem next_any (p act : Int) (w : World) : Calls Try.prog 12 #[.int .i64 p, .int .i64 act] w fun e w' => e = .returned (.tuple #[.int .i64 (nextP p act), .int .i64 (nextE p act)]) ∧ Below w.heap.size w w' := by
  by_cases hp : 0 ≤ p ∧ p ≤ 6
  · have hc : (checkE p != 0) = false := by unfold checkE; rw [if_neg (by omega)]; rfl
    by_cases ha : 1 ≤ act ∧ act ≤ 5
    · cases hl : leadsB p act
      · go_enter Try.func12, Try.ntmps12
        go_wp2_with (first | (go_at_call 16; refine (check_any _ _).mono ?_; rintro e w' ⟨rfl, rfl⟩) | (go_at_call 51; refine (leads_any _ _ _).mono ?_; rintro e w' ⟨rfl, rfl⟩) | (go_at_call 52; refine (rescued_any _ _).mono ?_; rintro e w' ⟨rfl, rfl⟩))
        go_ret2
        exact ⟨ret_two (nextP_bad _ _ (by rw [nextE_in p act hp ha, hl]; decide)).symm (by rw [nextE_in p act hp ha, hl]; rfl), Below.refl _ _⟩
      · obtain rfl | rfl | rfl | rfl | rfl : act = 1 ∨ act = 2 ∨ act = 3 ∨ act = 4 ∨ act = 5 := by omega
        all_goals
          go_enter Try.func12, Try.ntmps12
          go_wp2_with (first | (go_at_call 16; refine (check_any _ _).mono ?_; rintro e w' ⟨rfl, rfl⟩) | (go_at_call 51; refine (leads_any _ _ _).mono ?_; rintro e w' ⟨rfl, rfl⟩) | (go_at_call 52; refine (rescued_any _ _).mono ?_; rintro e w' ⟨rfl, rfl⟩))
          go_ret2
          exact ⟨ret_two (by rw [nextP_ok _ _ (by rw [nextE_in p _ hp ha, hl]; rfl)]; rfl) (by rw [nextE_in p _ hp ha, hl]; rfl), (Below.refl _ _).alloc (Nat.le_refl _) _⟩
    · go_enter Try.func12, Try.ntmps12
      go_wp2_with (first | (go_at_call 16; refine (check_any _ _).mono ?_; rintro e w' ⟨rfl, rfl⟩) | (go_at_call 51; refine (leads_any _ _ _).mono ?_; rintro e w' ⟨rfl, rfl⟩) | (go_at_call 52; refine (rescued_any _ _).mono ?_; rintro e w' ⟨rfl, rfl⟩))
      all_goals (go_ret2; exact ⟨ret_two (nextP_bad _ _ (by rw [nextE_kind p act hp ha]; decide)).symm (nextE_kind p act hp ha).symm, Below.refl _ _⟩)
  · have hc : (checkE p != 0) = true := by unfold checkE; rw [if_pos (by omega)]; rfl
    go_enter Try.func12, Try.ntmps12
    go_wp2_with (first | (go_at_call 16; refine (check_any _ _).mono ?_; rintro e w' ⟨rfl, rfl⟩) | (go_at_call 51; refine (leads_any _ _ _).mono ?_; rintro e w' ⟨rfl, rfl⟩) | (go_at_call 52; refine (rescued_any _ _).mono ?_; rintro e w' ⟨rfl, rfl⟩))
    go_ret2
    exact ⟨ret_two (nextP_bad _ _ (by rw [nextE_out p act hp]; decide)).symm (nextE_out p act hp).symm, Below.refl _ _⟩


def nameS (p : Int) : ByteArray := if p = 0 then ⟨#[115, 116, 97, 114, 116]⟩ else if p = 1 then ⟨#[112, 97, 121, 108, 111, 97, 100]⟩ else if p = 2 then ⟨#[112, 114, 111, 112, 111, 115, 101]⟩ else if p = 3 then ⟨#[114, 101, 115, 99, 117, 101, 45, 112]⟩ else if p = 4 then ⟨#[114, 101, 115, 99, 117, 101, 45, 114]⟩ else if p = 5 then ⟨#[99, 111, 109, 109, 105, 116]⟩ else if p = 6 then ⟨#[101, 120, 101, 99, 117, 116, 101]⟩ else ⟨#[]⟩
theorem nameS_out (p : Int) (h : ¬ (0 ≤ p ∧ p ≤ 6)) : nameS p = ⟨#[]⟩ := by
  unfold nameS
  rw [if_neg (by omega), if_neg (by omega), if_neg (by omega), if_neg (by omega), if_neg (by omega), if_neg (by omega), if_neg (by omega)]
theorem ret_str {a b : ByteArray} (h : a = b) : Ending.returned (.string a) = .returned (.string b) := by rw [h]
set_option maxHeartbeats 400000 in
-- T1
theorem name_any (p : Int) (w : World) : Calls Try.prog 14 #[.int .i64 p] w fun e w' => e = .returned (.string (nameS p)) ∧ Below w.heap.size w w' := by
  by_cases hp : 0 ≤ p ∧ p ≤ 6
  · obtain rfl | rfl | rfl | rfl | rfl | rfl | rfl : p = 0 ∨ p = 1 ∨ p = 2 ∨ p = 3 ∨ p = 4 ∨ p = 5 ∨ p = 6 := by omega
    all_goals
      go_enter Try.func14, Try.ntmps14
      go_wp2
      go_ret
      exact ⟨rfl, (Below.refl _ _).alloc (Nat.le_refl _) _⟩
  · have hc : (checkE p != 0) = true := by unfold checkE; rw [if_pos (by omega)]; rfl
    rw [nameS_out p hp]
    go_enter Try.func14, Try.ntmps14
    go_wp2_with (go_at_call 16; refine (check_any _ _).mono ?_; rintro e w' ⟨rfl, rfl⟩)
    go_ret
    exact ⟨rfl, (Below.refl _ _).alloc (Nat.le_refl _) _⟩
theorem refname_any (p : Int) (w : World) : Calls Try.prog 15 #[.int .i64 p] w fun e w' => e = .returned (.string (nameS p)) ∧ w = w' := by
  by_cases hp : 0 ≤ p ∧ p ≤ 6
  · obtain rfl | rfl | rfl | rfl | rfl | rfl | rfl : p = 0 ∨ p = 1 ∨ p = 2 ∨ p = 3 ∨ p = 4 ∨ p = 5 ∨ p = 6 := by omega
    all_goals
      go_enter Try.func15, Try.ntmps15
      go_wp2
      go_ret
      exact ⟨rfl, rfl⟩
  · rw [nameS_out p hp]
    obtain ⟨h0, h1, h2, h3, h4, h5, h6⟩ : (p == 0) = false ∧ (p == 1) = false ∧ (p == 2) = false ∧ (p == 3) = false ∧ (p == 4) = false ∧ (p == 5) = false ∧ (p == 6) = false := by simp only [beq_eq_false_iff_ne]; omega
    go_enter Try.func15, Try.ntmps15
    go_wp2
    go_ret
    exact ⟨rfl, rfl⟩

end Go.Proofs.Ytnebacomafgjjaa
