import Derived.Test.YtnebacomafgjjaaP1
namespace Go.Proofs.Ytnebacomafgjjaa
open Go.RowKit
def edges : List (Int × Int × Int) := [(0, 1, 1), (0, 2, 2), (0, 3, 4), (0, 4, 5), (1, 2, 2), (1, 3, 4), (1, 4, 5), (2, 3, 3), (2, 4, 5), (3, 3, 3), (3, 4, 5), (4, 3, 4), (4, 4, 5), (5, 5, 6)]
def edgeCells : Array Value := ((edges.flatMap fun x => [Value.int .i64 x.1, Value.int .i64 x.2.1, Value.int .i64 x.2.2])).toArray
theorem edges_any (w : World) : Calls Try.prog 53 #[] w fun e w' => e = .returned (.slice (some ⟨w.heap.size, 0, none⟩) 14 14) ∧ w' = w.alloc (.cells edgeCells 35) := by
  go_enter Try.func53, Try.ntmps53
  go_wp2
  go_ret
  exact ⟨rfl, rfl⟩
def noMatch (k : Nat) (p act : Int) : Bool := (edges.take k).all fun x => ! (x.1 == p && x.2.1 == act)
theorem nm_step (k : Nat) (x y z p act : Int) (he : edges[k]? = some (x, y, z)) (h : noMatch k p act = true) (g : ¬ (p = x ∧ act = y)) : noMatch (k + 1) p act = true := by
  unfold noMatch at h ⊢
  rw [List.take_add_one, he, List.all_append, h]
  have e : (x == p && y == act) = false := by
    rw [Bool.and_eq_false_iff, beq_eq_false_iff_ne, beq_eq_false_iff_ne]
    by_cases hx : x = p
    · exact .inr fun hy => g ⟨hx.symm, hy.symm⟩
    · exact .inl hx
  simp only [Option.toList_some, List.all_cons, List.all_nil, e]
  rfl
theorem nm0 (p act : Int) (h : noMatch 0 p act = true) (g : ¬ (p = 0 ∧ act = 1)) : noMatch 1 p act = true := nm_step 0 0 1 1 p act rfl h g
theorem nm1 (p act : Int) (h : noMatch 1 p act = true) (g : ¬ (p = 0 ∧ act = 2)) : noMatch 2 p act = true := nm_step 1 0 2 2 p act rfl h g
theorem nm2 (p act : Int) (h : noMatch 2 p act = true) (g : ¬ (p = 0 ∧ act = 3)) : noMatch 3 p act = true := nm_step 2 0 3 4 p act rfl h g
theorem nm3 (p act : Int) (h : noMatch 3 p act = true) (g : ¬ (p = 0 ∧ act = 4)) : noMatch 4 p act = true := nm_step 3 0 4 5 p act rfl h g
theorem nm4 (p act : Int) (h : noMatch 4 p act = true) (g : ¬ (p = 1 ∧ act = 2)) : noMatch 5 p act = true := nm_step 4 1 2 2 p act rfl h g
theorem nm5 (p act : Int) (h : noMatch 5 p act = true) (g : ¬ (p = 1 ∧ act = 3)) : noMatch 6 p act = true := nm_step 5 1 3 4 p act rfl h g
theorem nm6 (p act : Int) (h : noMatch 6 p act = true) (g : ¬ (p = 1 ∧ act = 4)) : noMatch 7 p act = true := nm_step 6 1 4 5 p act rfl h g
theorem nm7 (p act : Int) (h : noMatch 7 p act = true) (g : ¬ (p = 2 ∧ act = 3)) : noMatch 8 p act = true := nm_step 7 2 3 3 p act rfl h g
theorem nm8 (p act : Int) (h : noMatch 8 p act = true) (g : ¬ (p = 2 ∧ act = 4)) : noMatch 9 p act = true := nm_step 8 2 4 5 p act rfl h g
theorem nm9 (p act : Int) (h : noMatch 9 p act = true) (g : ¬ (p = 3 ∧ act = 3)) : noMatch 10 p act = true := nm_step 9 3 3 3 p act rfl h g
theorem nm10 (p act : Int) (h : noMatch 10 p act = true) (g : ¬ (p = 3 ∧ act = 4)) : noMatch 11 p act = true := nm_step 10 3 4 5 p act rfl h g
theorem nm11 (p act : Int) (h : noMatch 11 p act = true) (g : ¬ (p = 4 ∧ act = 3)) : noMatch 12 p act = true := nm_step 11 4 3 4 p act rfl h g
theorem nm12 (p act : Int) (h : noMatch 12 p act = true) (g : ¬ (p = 4 ∧ act = 4)) : noMatch 13 p act = true := nm_step 12 4 4 5 p act rfl h g
theorem nm13 (p act : Int) (h : noMatch 13 p act = true) (g : ¬ (p = 5 ∧ act = 5)) : noMatch 14 p act = true := nm_step 13 5 5 6 p act rfl h g
theorem nm_all (p act : Int) (hp : 0 ≤ p ∧ p ≤ 6) (ha : 1 ≤ act ∧ act ≤ 5) (h : noMatch 14 p act = true) : 0 = nextP p act ∧ 33 = nextE p act := by
  obtain rfl | rfl | rfl | rfl | rfl | rfl | rfl : p = 0 ∨ p = 1 ∨ p = 2 ∨ p = 3 ∨ p = 4 ∨ p = 5 ∨ p = 6 := by omega
  all_goals
    obtain rfl | rfl | rfl | rfl | rfl : act = 1 ∨ act = 2 ∨ act = 3 ∨ act = 4 ∨ act = 5 := by omega
    all_goals first | (exact absurd h (by decide +kernel)) | decide +kernel
set_option maxHeartbeats 4000000 in
theorem refnext_any (p act : Int) (w : World) : Calls Try.prog 13 #[.int .i64 p, .int .i64 act] w fun e w' => e = .returned (.tuple #[.int .i64 (nextP p act), .int .i64 (nextE p act)]) ∧ Below w.heap.size w w' := by
  by_cases hp : 0 ≤ p ∧ p ≤ 6
  · by_cases ha : 1 ≤ act ∧ act ≤ 5
    · go_enter Try.func13, Try.ntmps13
      go_wp2_with (go_at_call 53; refine (edges_any _).mono ?_; rintro e w' ⟨rfl, rfl⟩)
      go_loop [7] (fun i => ∃ k : Nat, k ≤ 14 ∧ i = .int .i64 k ∧ noMatch k p act = true) (fun i => 14 - (intOf i).toNat)
      case atStart => exact ⟨0, by omega, rfl, rfl⟩
      case round =>
        obtain ⟨k, hk, rfl, hm⟩ := hrel
        have HM := Lib.hid hm
        clear hm
        have hc : ∀ (j : Nat) (v : Value), edgeCells[j]? = some v → (w.alloc (.cells edgeCells 35)).cell? ⟨w.heap.size, j, none⟩ = some v := by
          intro j v hv
          rw [World.cell?_alloc_new]
          exact hv
        obtain rfl | rfl | rfl | rfl | rfl | rfl | rfl | rfl | rfl | rfl | rfl | rfl | rfl | rfl | rfl : k = 0 ∨ k = 1 ∨ k = 2 ∨ k = 3 ∨ k = 4 ∨ k = 5 ∨ k = 6 ∨ k = 7 ∨ k = 8 ∨ k = 9 ∨ k = 10 ∨ k = 11 ∨ k = 12 ∨ k = 13 ∨ k = 14 := by omega
        · have h0 := hc 0 (.int .i64 0) rfl
          have h1 := hc 1 (.int .i64 1) rfl
          have h2 := hc 2 (.int .i64 1) rfl
          clear hc
          by_cases hpx : p = 0
          · by_cases hax : act = 1
            · subst hpx hax
              go_wp2
              go_ret2
              exact ⟨ret_two (by decide +kernel) (by decide +kernel), (Below.refl _ _).alloc (Nat.le_refl _) _⟩
            · go_wp2
              go_round
              case rel => exact ⟨1, by omega, rfl, nm0 p act HM.out (fun h => hax h.2)⟩
              case measure => simp [intOf]
          · go_wp2
            go_round
            case rel => exact ⟨1, by omega, rfl, nm0 p act HM.out (fun h => hpx h.1)⟩
            case measure => simp [intOf]
        · have h0 := hc 3 (.int .i64 0) rfl
          have h1 := hc 4 (.int .i64 2) rfl
          have h2 := hc 5 (.int .i64 2) rfl
          clear hc
          by_cases hpx : p = 0
          · by_cases hax : act = 2
            · subst hpx hax
              go_wp2
              go_ret2
              exact ⟨ret_two (by decide +kernel) (by decide +kernel), (Below.refl _ _).alloc (Nat.le_refl _) _⟩
            · go_wp2
              go_round
              case rel => exact ⟨2, by omega, rfl, nm1 p act HM.out (fun h => hax h.2)⟩
              case measure => simp [intOf]
          · go_wp2
            go_round
            case rel => exact ⟨2, by omega, rfl, nm1 p act HM.out (fun h => hpx h.1)⟩
            case measure => simp [intOf]
        · have h0 := hc 6 (.int .i64 0) rfl
          have h1 := hc 7 (.int .i64 3) rfl
          have h2 := hc 8 (.int .i64 4) rfl
          clear hc
          by_cases hpx : p = 0
          · by_cases hax : act = 3
            · subst hpx hax
              go_wp2
              go_ret2
              exact ⟨ret_two (by decide +kernel) (by decide +kernel), (Below.refl _ _).alloc (Nat.le_refl _) _⟩
            · go_wp2
              go_round
              case rel => exact ⟨3, by omega, rfl, nm2 p act HM.out (fun h => hax h.2)⟩
              case measure => simp [intOf]
          · go_wp2
            go_round
            case rel => exact ⟨3, by omega, rfl, nm2 p act HM.out (fun h => hpx h.1)⟩
            case measure => simp [intOf]
        · have h0 := hc 9 (.int .i64 0) rfl
          have h1 := hc 10 (.int .i64 4) rfl
          have h2 := hc 11 (.int .i64 5) rfl
          clear hc
          by_cases hpx : p = 0
          · by_cases hax : act = 4
            · subst hpx hax
              go_wp2
              go_ret2
              exact ⟨ret_two (by decide +kernel) (by decide +kernel), (Below.refl _ _).alloc (Nat.le_refl _) _⟩
            · go_wp2
              go_round
              case rel => exact ⟨4, by omega, rfl, nm3 p act HM.out (fun h => hax h.2)⟩
              case measure => simp [intOf]
          · go_wp2
            go_round
            case rel => exact ⟨4, by omega, rfl, nm3 p act HM.out (fun h => hpx h.1)⟩
            case measure => simp [intOf]
        · have h0 := hc 12 (.int .i64 1) rfl
          have h1 := hc 13 (.int .i64 2) rfl
          have h2 := hc 14 (.int .i64 2) rfl
          clear hc
          by_cases hpx : p = 1
          · by_cases hax : act = 2
            · subst hpx hax
              go_wp2
              go_ret2
              exact ⟨ret_two (by decide +kernel) (by decide +kernel), (Below.refl _ _).alloc (Nat.le_refl _) _⟩
            · go_wp2
              go_round
              case rel => exact ⟨5, by omega, rfl, nm4 p act HM.out (fun h => hax h.2)⟩
              case measure => simp [intOf]
          · go_wp2
            go_round
            case rel => exact ⟨5, by omega, rfl, nm4 p act HM.out (fun h => hpx h.1)⟩
            case measure => simp [intOf]
        · have h0 := hc 15 (.int .i64 1) rfl
          have h1 := hc 16 (.int .i64 3) rfl
          have h2 := hc 17 (.int .i64 4) rfl
          clear hc
          by_cases hpx : p = 1
          · by_cases hax : act = 3
            · subst hpx hax
              go_wp2
              go_ret2
              exact ⟨ret_two (by decide +kernel) (by decide +kernel), (Below.refl _ _).alloc (Nat.le_refl _) _⟩
            · go_wp2
              go_round
              case rel => exact ⟨6, by omega, rfl, nm5 p act HM.out (fun h => hax h.2)⟩
              case measure => simp [intOf]
          · go_wp2
            go_round
            case rel => exact ⟨6, by omega, rfl, nm5 p act HM.out (fun h => hpx h.1)⟩
            case measure => simp [intOf]
        · have h0 := hc 18 (.int .i64 1) rfl
          have h1 := hc 19 (.int .i64 4) rfl
          have h2 := hc 20 (.int .i64 5) rfl
          clear hc
          by_cases hpx : p = 1
          · by_cases hax : act = 4
            · subst hpx hax
              go_wp2
              go_ret2
              exact ⟨ret_two (by decide +kernel) (by decide +kernel), (Below.refl _ _).alloc (Nat.le_refl _) _⟩
            · go_wp2
              go_round
              case rel => exact ⟨7, by omega, rfl, nm6 p act HM.out (fun h => hax h.2)⟩
              case measure => simp [intOf]
          · go_wp2
            go_round
            case rel => exact ⟨7, by omega, rfl, nm6 p act HM.out (fun h => hpx h.1)⟩
            case measure => simp [intOf]
        · have h0 := hc 21 (.int .i64 2) rfl
          have h1 := hc 22 (.int .i64 3) rfl
          have h2 := hc 23 (.int .i64 3) rfl
          clear hc
          by_cases hpx : p = 2
          · by_cases hax : act = 3
            · subst hpx hax
              go_wp2
              go_ret2
              exact ⟨ret_two (by decide +kernel) (by decide +kernel), (Below.refl _ _).alloc (Nat.le_refl _) _⟩
            · go_wp2
              go_round
              case rel => exact ⟨8, by omega, rfl, nm7 p act HM.out (fun h => hax h.2)⟩
              case measure => simp [intOf]
          · go_wp2
            go_round
            case rel => exact ⟨8, by omega, rfl, nm7 p act HM.out (fun h => hpx h.1)⟩
            case measure => simp [intOf]
        · have h0 := hc 24 (.int .i64 2) rfl
          have h1 := hc 25 (.int .i64 4) rfl
          have h2 := hc 26 (.int .i64 5) rfl
          clear hc
          by_cases hpx : p = 2
          · by_cases hax : act = 4
            · subst hpx hax
              go_wp2
              go_ret2
              exact ⟨ret_two (by decide +kernel) (by decide +kernel), (Below.refl _ _).alloc (Nat.le_refl _) _⟩
            · go_wp2
              go_round
              case rel => exact ⟨9, by omega, rfl, nm8 p act HM.out (fun h => hax h.2)⟩
              case measure => simp [intOf]
          · go_wp2
            go_round
            case rel => exact ⟨9, by omega, rfl, nm8 p act HM.out (fun h => hpx h.1)⟩
            case measure => simp [intOf]
        · have h0 := hc 27 (.int .i64 3) rfl
          have h1 := hc 28 (.int .i64 3) rfl
          have h2 := hc 29 (.int .i64 3) rfl
          clear hc
          by_cases hpx : p = 3
          · by_cases hax : act = 3
            · subst hpx hax
              go_wp2
              go_ret2
              exact ⟨ret_two (by decide +kernel) (by decide +kernel), (Below.refl _ _).alloc (Nat.le_refl _) _⟩
            · go_wp2
              go_round
              case rel => exact ⟨10, by omega, rfl, nm9 p act HM.out (fun h => hax h.2)⟩
              case measure => simp [intOf]
          · go_wp2
            go_round
            case rel => exact ⟨10, by omega, rfl, nm9 p act HM.out (fun h => hpx h.1)⟩
            case measure => simp [intOf]
        · have h0 := hc 30 (.int .i64 3) rfl
          have h1 := hc 31 (.int .i64 4) rfl
          have h2 := hc 32 (.int .i64 5) rfl
          clear hc
          by_cases hpx : p = 3
          · by_cases hax : act = 4
            · subst hpx hax
              go_wp2
              go_ret2
              exact ⟨ret_two (by decide +kernel) (by decide +kernel), (Below.refl _ _).alloc (Nat.le_refl _) _⟩
            · go_wp2
              go_round
              case rel => exact ⟨11, by omega, rfl, nm10 p act HM.out (fun h => hax h.2)⟩
              case measure => simp [intOf]
          · go_wp2
            go_round
            case rel => exact ⟨11, by omega, rfl, nm10 p act HM.out (fun h => hpx h.1)⟩
            case measure => simp [intOf]
        · have h0 := hc 33 (.int .i64 4) rfl
          have h1 := hc 34 (.int .i64 3) rfl
          have h2 := hc 35 (.int .i64 4) rfl
          clear hc
          by_cases hpx : p = 4
          · by_cases hax : act = 3
            · subst hpx hax
              go_wp2
              go_ret2
              exact ⟨ret_two (by decide +kernel) (by decide +kernel), (Below.refl _ _).alloc (Nat.le_refl _) _⟩
            · go_wp2
              go_round
              case rel => exact ⟨12, by omega, rfl, nm11 p act HM.out (fun h => hax h.2)⟩
              case measure => simp [intOf]
          · go_wp2
            go_round
            case rel => exact ⟨12, by omega, rfl, nm11 p act HM.out (fun h => hpx h.1)⟩
            case measure => simp [intOf]
        · have h0 := hc 36 (.int .i64 4) rfl
          have h1 := hc 37 (.int .i64 4) rfl
          have h2 := hc 38 (.int .i64 5) rfl
          clear hc
          by_cases hpx : p = 4
          · by_cases hax : act = 4
            · subst hpx hax
              go_wp2
              go_ret2
              exact ⟨ret_two (by decide +kernel) (by decide +kernel), (Below.refl _ _).alloc (Nat.le_refl _) _⟩
            · go_wp2
              go_round
              case rel => exact ⟨13, by omega, rfl, nm12 p act HM.out (fun h => hax h.2)⟩
              case measure => simp [intOf]
          · go_wp2
            go_round
            case rel => exact ⟨13, by omega, rfl, nm12 p act HM.out (fun h => hpx h.1)⟩
            case measure => simp [intOf]
        · have h0 := hc 39 (.int .i64 5) rfl
          have h1 := hc 40 (.int .i64 5) rfl
          have h2 := hc 41 (.int .i64 6) rfl
          clear hc
          by_cases hpx : p = 5
          · by_cases hax : act = 5
            · subst hpx hax
              go_wp2
              go_ret2
              exact ⟨ret_two (by decide +kernel) (by decide +kernel), (Below.refl _ _).alloc (Nat.le_refl _) _⟩
            · go_wp2
              go_round
              case rel => exact ⟨14, by omega, rfl, nm13 p act HM.out (fun h => hax h.2)⟩
              case measure => simp [intOf]
          · go_wp2
            go_round
            case rel => exact ⟨14, by omega, rfl, nm13 p act HM.out (fun h => hpx h.1)⟩
            case measure => simp [intOf]
        · go_wp2
          go_ret2
          have h := nm_all p act hp ha HM.out
          exact ⟨ret_two h.1 h.2, (Below.refl _ _).alloc (Nat.le_refl _) _⟩
    · go_enter Try.func13, Try.ntmps13
      go_wp2
      all_goals (go_ret2; exact ⟨ret_two (nextP_bad _ _ (by rw [nextE_kind p act hp ha]; decide)).symm (nextE_kind p act hp ha).symm, Below.refl _ _⟩)
  · go_enter Try.func13, Try.ntmps13
    go_wp2
    all_goals (go_ret2; exact ⟨ret_two (nextP_bad _ _ (by rw [nextE_out p act hp]; decide)).symm (nextE_out p act hp).symm, Below.refl _ _⟩)
end Go.Proofs.Ytnebacomafgjjaa
