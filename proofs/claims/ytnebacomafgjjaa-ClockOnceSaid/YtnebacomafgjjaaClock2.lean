/- What the functions of the layer clock compute: the rest. -/
import Derived.Test.YtnebacomafgjjaaClockRef
import Derived.Test.YtnebacomafgjjaaLAttContains
import Derived.Test.YtnebacomafgjjaaLAttClone
namespace Go.Proofs.Ytnebacomafgjjaa
open Go.RowKit

set_option maxHeartbeats 1000000 in
theorem clockcheck_any (now floor : Int) (A : Option Addr) (c : Nat) (own : List Att) (w : World) (hm : c ≤ maxLen) (hl : own.length ≤ c) (hx : Row w A (attE.flat own)) :
    Calls Try.prog 26 #[.int .i64 now, .int .i64 floor, .slice A own.length c] w fun e w' => e = .returned (.int .i64 (errI (clockOk now floor own) 2)) ∧ Below w.heap.size w w' := by
  by_cases hf : 0 ≤ floor ∧ floor ≤ now ∧ now ≤ 1000000
  · have e : clockOk now floor own = attsFrom now floor [] own := by unfold clockOk; rw [decide_eq_true hf]; rfl
    rw [e]
    exact clockcheck_row now floor A c own w hm hl hx hf
  · have e : clockOk now floor own = false := by unfold clockOk; rw [decide_eq_false hf]; rfl
    rw [e]
    by_cases h0 : 0 ≤ floor
    · by_cases h1 : floor ≤ now
      · have h2 : 1000000 < now := by omega
        clear hf e
        go_enter Try.func26, Try.ntmps26
        go_wp2
        go_ret
        exact ⟨rfl, Below.refl _ _⟩
      · clear hf e
        go_enter Try.func26, Try.ntmps26
        go_wp2
        go_ret
        exact ⟨rfl, Below.refl _ _⟩
    · clear hf e
      go_enter Try.func26, Try.ntmps26
      go_wp2
      go_ret
      exact ⟨rfl, Below.refl _ _⟩
set_option maxHeartbeats 1000000 in
theorem refclockcheck_any (now floor : Int) (A : Option Addr) (c : Nat) (own : List Att) (w : World) (hm : c ≤ maxLen) (hl : own.length ≤ c) (hx : Row w A (attE.flat own)) :
    Calls Try.prog 27 #[.int .i64 now, .int .i64 floor, .slice A own.length c] w fun e w' => e = .returned (.int .i64 (errI (clockOk now floor own) 2)) ∧ Below w.heap.size w w' := by
  by_cases hf : 0 ≤ floor ∧ floor ≤ now ∧ now ≤ 1000000
  · have e : clockOk now floor own = attsFrom now floor [] own := by unfold clockOk; rw [decide_eq_true hf]; rfl
    rw [e]
    exact refclockcheck_row now floor A c own w hm hl hx hf
  · have e : clockOk now floor own = false := by unfold clockOk; rw [decide_eq_false hf]; rfl
    rw [e]
    by_cases h0 : 0 ≤ floor
    · by_cases h1 : floor ≤ now
      · have h2 : 1000000 < now := by omega
        clear hf e
        go_enter Try.func27, Try.ntmps27
        go_wp2
        go_ret
        exact ⟨rfl, Below.refl _ _⟩
      · clear hf e
        go_enter Try.func27, Try.ntmps27
        go_wp2
        go_ret
        exact ⟨rfl, Below.refl _ _⟩
    · clear hf e
      go_enter Try.func27, Try.ntmps27
      go_wp2
      go_ret
      exact ⟨rfl, Below.refl _ _⟩

theorem of_any (id : Int) (w : World) : Calls Try.prog 58 #[.int .i64 id] w fun e w' => e = .returned (.func (.func 74) #[] #[.pointer (some ⟨w.heap.size, 0, none⟩)]) ∧ w' = w.alloc (.cells #[.int .i64 id] 3) := by
  go_enter Try.func58, Try.ntmps58
  go_wp2
  go_ret
  exact ⟨rfl, rfl⟩
theorem of1_any (T Id id : Int) (bx : Addr) (w : World) (hc : w.cell? bx = some (.int .i64 id)) :
    Calls Try.prog 74 #[.agg #[.int .i64 T, .int .i64 Id], .pointer (some bx)] w fun e w' => e = .returned (.bool (decide (Id = id))) ∧ Below w.heap.size w w' := by
  have hca := fun o => cell_alloc hc o
  by_cases h : Id = id
  · have H := Lib.hid (decide_eq_true h)
    have hb := beq_iff_eq.2 h
    clear h
    go_enter Try.func74, Try.ntmps74
    go_wp2
    go_ret
    exact ⟨by rw [H.out]; rfl, (Below.refl _ _).alloc (Nat.le_refl _) _⟩
  · have H := Lib.hid (decide_eq_false h)
    have hb := beq_eq_false_iff_ne.2 h
    clear h
    go_enter Try.func74, Try.ntmps74
    go_wp2
    go_ret
    exact ⟨by rw [H.out]; rfl, (Below.refl _ _).alloc (Nat.le_refl _) _⟩
theorem of_pred (id : Int) (w : World) : IsPred Try.prog (w.alloc (.cells #[.int .i64 id] 3)) (.func (.func 74) #[] #[.pointer (some ⟨w.heap.size, 0, none⟩)]) attV (fun a => decide (a.Id = id)) := by
  refine ⟨74, #[], #[.pointer (some ⟨w.heap.size, 0, none⟩)], rfl, enters_of Try.func74 (by kernel_rfl) (by kernel_rfl), fun a w1 hb => ?_⟩
  exact of1_any a.T a.Id id _ w1 (cell_later hb (by rw [World.cell?_alloc_new]; rfl))

theorem any_id (own : List Att) (id : Int) : own.any (fun a => decide (a.Id = id)) = decide (id ∈ own.map Att.Id) := by
  rw [Bool.eq_iff_iff, List.any_eq_true, decide_eq_true_iff, List.mem_map]
  constructor
  · rintro ⟨a, h, g⟩
    exact ⟨a, h, of_decide_eq_true g⟩
  · rintro ⟨a, h, g⟩
    exact ⟨a, h, decide_eq_true g⟩
end Go.Proofs.Ytnebacomafgjjaa
