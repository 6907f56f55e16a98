/- Numbers of commands. -/
import Derived.Test.YtnebacomafgjjaaBase
namespace Go.Proofs.Ytnebacomafgjjaa
open Go.RowKit

def idOk (id : Int) : Bool := decide (10 ≤ id ∧ id ≤ 999999 ∧ id % 10 ≠ 0)
theorem idOk_iff {id : Int} : idOk id = true ↔ 10 ≤ id ∧ id ≤ 999999 ∧ id % 10 ≠ 0 := by unfold idOk; simp
theorem idOk_not {id : Int} (h : ¬ (10 ≤ id ∧ id ≤ 999999 ∧ id % 10 ≠ 0)) : idOk id = false := by unfold idOk; exact decide_eq_false h
theorem idcheck_any (id : Int) (w : World) : Calls Try.prog 56 #[.int .i64 id] w fun e w' => e = .returned (.int .i64 (errI (idOk id) 31)) ∧ w = w' := by
  by_cases h0 : id < 10
  · rw [idOk_not (by omega)]
    go_enter Try.func56, Try.ntmps56
    go_wp2
    go_ret
    exact ⟨rfl, rfl⟩
  · by_cases h1 : 999999 < id
    · rw [idOk_not (by omega)]
      go_enter Try.func56, Try.ntmps56
      go_wp2
      go_ret
      exact ⟨rfl, rfl⟩
    · by_cases h2 : id % 10 = 0
      · rw [idOk_not (by omega)]
        have h3 : (id % 10 == 0) = true := beq_iff_eq.2 h2
        clear h2
        go_enter Try.func56, Try.ntmps56
        go_wp2
        go_ret
        exact ⟨rfl, rfl⟩
      · rw [idOk_iff.2 ⟨by omega, by omega, h2⟩]
        have h3 : (id % 10 == 0) = false := beq_eq_false_iff_ne.2 h2
        clear h2
        go_enter Try.func56, Try.ntmps56
        go_wp2
        go_ret
        exact ⟨rfl, rfl⟩
def splitS (id : Int) : Int := if idOk id then id % 10 else 0
def splitQ (id : Int) : Int := if idOk id then id / 10 else 0
theorem split_any (id : Int) (w : World) : Calls Try.prog 60 #[.int .i64 id] w fun e w' => e = .returned (.tuple #[.int .i64 (splitS id), .int .i64 (splitQ id)]) ∧ w = w' := by
  unfold splitS splitQ
  by_cases h0 : id < 11
  · rw [idOk_not (by omega)]
    go_enter Try.func60, Try.ntmps60
    go_wp2
    go_ret2
    exact ⟨rfl, rfl⟩
  · by_cases h1 : 999999 < id
    · rw [idOk_not (by omega)]
      go_enter Try.func60, Try.ntmps60
      go_wp2
      go_ret2
      exact ⟨rfl, rfl⟩
    · by_cases h2 : id % 10 = 0
      · rw [idOk_not (by omega)]
        have h3 : (id % 10 == 0) = true := beq_iff_eq.2 h2
        clear h2
        go_enter Try.func60, Try.ntmps60
        go_wp2
        go_ret2
        exact ⟨rfl, rfl⟩
      · rw [idOk_iff.2 ⟨by omega, by omega, h2⟩]
        have h3 : (id % 10 == 0) = false := beq_eq_false_iff_ne.2 h2
        clear h2
        go_enter Try.func60, Try.ntmps60
        go_wp2
        go_ret2
        exact ⟨rfl, rfl⟩
end Go.Proofs.Ytnebacomafgjjaa
