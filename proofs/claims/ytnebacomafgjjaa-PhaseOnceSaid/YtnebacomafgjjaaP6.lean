import Derived.Test.YtnebacomafgjjaaP3
namespace Go.Proofs.Ytnebacomafgjjaa
open Go.RowKit
/-- The states that a command comes to: its phase, how often it was proposed for, whether ahead of a rescue, whether rescued. -/
def St (p t : Int) (a r : Bool) : Prop :=
  (p = 0 ∧ t = 0 ∧ a = false ∧ r = false) ∨ (p = 1 ∧ t = 0 ∧ a = false ∧ r = false) ∨ (p = 2 ∧ t = 1 ∧ a = true ∧ r = false) ∨ (p = 3 ∧ t = 1 ∧ a = true ∧ r = true) ∨ (p = 4 ∧ t = 1 ∧ a = false ∧ r = true) ∨ (p = 5 ∧ 0 ≤ t ∧ t ≤ 1) ∨ (p = 6 ∧ 0 ≤ t ∧ t ≤ 1)
def IsRow (k : IntKind) (w : World) (a : Option Addr) (len cap : Nat) (zs : List Int) : Prop :=
  (a = none ∧ len = 0 ∧ cap = 0 ∧ zs = []) ∨
  ∃ x, a = some x ∧ len ≤ cap ∧ cap ≤ maxLen ∧ zs.length = cap ∧ (∀ i, i < zs.length → w.cell? (x.add i) = some (.int k (zs.getD i 0))) ∧ ∀ n ∈ zs, (Lit.int k n).wf = true
theorem cell_later {w wx : World} {a : Addr} {v : Value} (hb : Below w.heap.size w wx) (h : w.cell? a = some v) : wx.cell? a = some v := (hb.cell (World.block_lt_of_cell? _ _ h)).trans h
theorem btt {a b c : World} (h : Below a.heap.size a b) (k : Below b.heap.size b c) : Below a.heap.size a c := h.trans (k.mono h.size)
set_option maxHeartbeats 8000000 in
theorem once_row (x : Addr) (len cap : Nat) (zs : List Int) (w : World) (hl : len ≤ cap) (hm : cap ≤ maxLen) (hz : zs.length = cap) (hc : ∀ i, i < zs.length → w.cell? (x.add i) = some (.int .i64 (zs.getD i 0))) :
    Calls Try.prog 4 #[.slice (some x) len cap] w fun e w' => e = .returned (.bool true) ∧ Below w.heap.size w w' := by
  unfold maxLen at hm
  have HZ := Lib.hid hz
  clear hz
  by_cases hbig : 1000 < len
  · go_enter Try.func4, Try.ntmps4
    go_wp2_with fail
    refine (awake19_any _).mono ?_; rintro e w1 ⟨rfl, hb1⟩
    go_wp2_with fail
    go_ret
    exact ⟨rfl, hb1⟩
  · go_enter Try.func4, Try.ntmps4
    go_wp2_with fail
    go_loopw [3, 4, 5, 6, 7] (fun p t a r i wr => ∃ (k : Nat) (p' t' : Int) (a' r' : Bool), k ≤ len ∧ p = .int .i64 p' ∧ t = .int .i64 t' ∧ a = .bool a' ∧ r = .bool r' ∧ i = .int .i64 k ∧ St p' t' a' r' ∧ Below w.heap.size w wr) (fun _ _ _ _ i _ => len - (intOf i).toNat)
    case atStart => exact ⟨0, 0, 0, false, false, by omega, rfl, rfl, rfl, rfl, rfl, .inl ⟨rfl, rfl, rfl, rfl⟩, Below.refl _ _⟩
    case round =>
      obtain ⟨k, p, t, a, r, hk, rfl, rfl, rfl, rfl, rfl, hst, hb⟩ := hrel
      by_cases hlt : k < len
      · have hcell := cell_later hb (hc k (by rw [HZ.out]; omega))
        generalize zs.getD k 0 = act at hcell
        have hs := hb.size
        clear hc
        rcases hst with ⟨rfl, rfl, rfl, rfl⟩ | ⟨rfl, rfl, rfl, rfl⟩ | ⟨rfl, rfl, rfl, rfl⟩ | ⟨rfl, rfl, rfl, rfl⟩ | ⟨rfl, rfl, rfl, rfl⟩ | ⟨rfl, ht0, ht1⟩ | ⟨rfl, ht0, ht1⟩
        · by_cases hact : 1 ≤ act ∧ act ≤ 5
          · obtain rfl | rfl | rfl | rfl | rfl : act = 1 ∨ act = 2 ∨ act = 3 ∨ act = 4 ∨ act = 5 := by omega
            · have f1 : nextE 0 1 = 0 := by decide +kernel
              have f2 : nextP 0 1 = 1 := by decide +kernel
              have f3 : freshB 0 = true := by decide +kernel
              have f4 : proposedB 1 = false := by decide +kernel
              have f5 : openB 1 = true := by decide +kernel
              go_wp2_with (first | (go_at_call 12; refine (next_any _ _ _).mono ?_; rintro e w2 ⟨rfl, hb2⟩; have hcell2 := cell_later hb2 hcell) | (go_at_call 17; refine (fresh_any _ _).mono ?_; rintro e w' ⟨rfl, rfl⟩) | (go_at_call 18; refine (proposed_any _ _).mono ?_; rintro e w' ⟨rfl, rfl⟩) | (go_at_call 19; refine (open_any _ _).mono ?_; rintro e w' ⟨rfl, rfl⟩) | (go_at_call 20; refine (settled_any _ _).mono ?_; rintro e w' ⟨rfl, rfl⟩) | (go_at_call 16; refine (check_any _ _).mono ?_; rintro e w' ⟨rfl, rfl⟩))
              go_roundw
              case rel => exact ⟨k + 1, 1, 0, false, false, by omega, rfl, rfl, rfl, rfl, by go_num, .inr (.inl ⟨rfl, rfl, rfl, rfl⟩), btt hb hb2⟩
              case measure => simp [intOf]; omega
            · have f1 : nextE 0 2 = 0 := by decide +kernel
              have f2 : nextP 0 2 = 2 := by decide +kernel
              have f3 : freshB 0 = true := by decide +kernel
              have f4 : proposedB 2 = true := by decide +kernel
              have f5 : openB 2 = true := by decide +kernel
              go_wp2_with (first | (go_at_call 12; refine (next_any _ _ _).mono ?_; rintro e w2 ⟨rfl, hb2⟩; have hcell2 := cell_later hb2 hcell) | (go_at_call 17; refine (fresh_any _ _).mono ?_; rintro e w' ⟨rfl, rfl⟩) | (go_at_call 18; refine (proposed_any _ _).mono ?_; rintro e w' ⟨rfl, rfl⟩) | (go_at_call 19; refine (open_any _ _).mono ?_; rintro e w' ⟨rfl, rfl⟩) | (go_at_call 20; refine (settled_any _ _).mono ?_; rintro e w' ⟨rfl, rfl⟩) | (go_at_call 16; refine (check_any _ _).mono ?_; rintro e w' ⟨rfl, rfl⟩))
              go_roundw
              case rel => exact ⟨k + 1, 2, 1, true, false, by omega, rfl, rfl, rfl, rfl, by go_num, .inr (.inr (.inl ⟨rfl, rfl, rfl, rfl⟩)), btt hb hb2⟩
              case measure => simp [intOf]; omega
            · have f1 : nextE 0 3 = 0 := by decide +kernel
              have f2 : nextP 0 3 = 4 := by decide +kernel
              have f3 : freshB 0 = true := by decide +kernel
              have f4 : proposedB 4 = true := by decide +kernel
              have f5 : openB 4 = true := by decide +kernel
              go_wp2_with (first | (go_at_call 12; refine (next_any _ _ _).mono ?_; rintro e w2 ⟨rfl, hb2⟩; have hcell2 := cell_later hb2 hcell) | (go_at_call 17; refine (fresh_any _ _).mono ?_; rintro e w' ⟨rfl, rfl⟩) | (go_at_call 18; refine (proposed_any _ _).mono ?_; rintro e w' ⟨rfl, rfl⟩) | (go_at_call 19; refine (open_any _ _).mono ?_; rintro e w' ⟨rfl, rfl⟩) | (go_at_call 20; refine (settled_any _ _).mono ?_; rintro e w' ⟨rfl, rfl⟩) | (go_at_call 16; refine (check_any _ _).mono ?_; rintro e w' ⟨rfl, rfl⟩))
              go_roundw
              case rel => exact ⟨k + 1, 4, 1, false, true, by omega, rfl, rfl, rfl, rfl, by go_num, .inr (.inr (.inr (.inr (.inl ⟨rfl, rfl, rfl, rfl⟩)))), btt hb hb2⟩
              case measure => simp [intOf]; omega
            · have f1 : nextE 0 4 = 0 := by decide +kernel
              have f2 : nextP 0 4 = 5 := by decide +kernel
              have f3 : freshB 0 = true := by decide +kernel
              have f4 : proposedB 5 = false := by decide +kernel
              have f5 : openB 5 = false := by decide +kernel
              go_wp2_with (first | (go_at_call 12; refine (next_any _ _ _).mono ?_; rintro e w2 ⟨rfl, hb2⟩; have hcell2 := cell_later hb2 hcell) | (go_at_call 17; refine (fresh_any _ _).mono ?_; rintro e w' ⟨rfl, rfl⟩) | (go_at_call 18; refine (proposed_any _ _).mono ?_; rintro e w' ⟨rfl, rfl⟩) | (go_at_call 19; refine (open_any _ _).mono ?_; rintro e w' ⟨rfl, rfl⟩) | (go_at_call 20; refine (settled_any _ _).mono ?_; rintro e w' ⟨rfl, rfl⟩) | (go_at_call 16; refine (check_any _ _).mono ?_; rintro e w' ⟨rfl, rfl⟩))
              go_roundw
              case rel => exact ⟨k + 1, 5, 0, false, false, by omega, rfl, rfl, rfl, rfl, by go_num, .inr (.inr (.inr (.inr (.inr (.inl ⟨rfl, by decide, by decide⟩))))), btt hb hb2⟩
              case measure => simp [intOf]; omega
            · have f1 : nextE 0 5 = 33 := by decide +kernel
              go_wp2_with (first | (go_at_call 12; refine (next_any _ _ _).mono ?_; rintro e w2 ⟨rfl, hb2⟩; have hcell2 := cell_later hb2 hcell) | (go_at_call 17; refine (fresh_any _ _).mono ?_; rintro e w' ⟨rfl, rfl⟩) | (go_at_call 18; refine (proposed_any _ _).mono ?_; rintro e w' ⟨rfl, rfl⟩) | (go_at_call 19; refine (open_any _ _).mono ?_; rintro e w' ⟨rfl, rfl⟩) | (go_at_call 20; refine (settled_any _ _).mono ?_; rintro e w' ⟨rfl, rfl⟩) | (go_at_call 16; refine (check_any _ _).mono ?_; rintro e w' ⟨rfl, rfl⟩))
              go_roundw
              case rel => exact ⟨k + 1, 0, 0, false, false, by omega, rfl, rfl, rfl, rfl, by go_num, .inl ⟨rfl, rfl, rfl, rfl⟩, btt hb hb2⟩
              case measure => simp [intOf]; omega
          · have f1 : nextE 0 act = 30 := by unfold nextE; rw [if_neg (by decide), if_pos (by omega)]
            clear hact
            go_wp2_with (first | (go_at_call 12; refine (next_any _ _ _).mono ?_; rintro e w2 ⟨rfl, hb2⟩; have hcell2 := cell_later hb2 hcell) | (go_at_call 17; refine (fresh_any _ _).mono ?_; rintro e w' ⟨rfl, rfl⟩) | (go_at_call 18; refine (proposed_any _ _).mono ?_; rintro e w' ⟨rfl, rfl⟩) | (go_at_call 19; refine (open_any _ _).mono ?_; rintro e w' ⟨rfl, rfl⟩) | (go_at_call 20; refine (settled_any _ _).mono ?_; rintro e w' ⟨rfl, rfl⟩) | (go_at_call 16; refine (check_any _ _).mono ?_; rintro e w' ⟨rfl, rfl⟩))
            go_roundw
            case rel => exact ⟨k + 1, 0, 0, false, false, by omega, rfl, rfl, rfl, rfl, by go_num, .inl ⟨rfl, rfl, rfl, rfl⟩, btt hb hb2⟩
            case measure => simp [intOf]; omega
        · by_cases hact : 1 ≤ act ∧ act ≤ 5
          · obtain rfl | rfl | rfl | rfl | rfl : act = 1 ∨ act = 2 ∨ act = 3 ∨ act = 4 ∨ act = 5 := by omega
            · have f1 : nextE 1 1 = 33 := by decide +kernel
              go_wp2_with (first | (go_at_call 12; refine (next_any _ _ _).mono ?_; rintro e w2 ⟨rfl, hb2⟩; have hcell2 := cell_later hb2 hcell) | (go_at_call 17; refine (fresh_any _ _).mono ?_; rintro e w' ⟨rfl, rfl⟩) | (go_at_call 18; refine (proposed_any _ _).mono ?_; rintro e w' ⟨rfl, rfl⟩) | (go_at_call 19; refine (open_any _ _).mono ?_; rintro e w' ⟨rfl, rfl⟩) | (go_at_call 20; refine (settled_any _ _).mono ?_; rintro e w' ⟨rfl, rfl⟩) | (go_at_call 16; refine (check_any _ _).mono ?_; rintro e w' ⟨rfl, rfl⟩))
              go_roundw
              case rel => exact ⟨k + 1, 1, 0, false, false, by omega, rfl, rfl, rfl, rfl, by go_num, .inr (.inl ⟨rfl, rfl, rfl, rfl⟩), btt hb hb2⟩
              case measure => simp [intOf]; omega
            · have f1 : nextE 1 2 = 0 := by decide +kernel
              have f2 : nextP 1 2 = 2 := by decide +kernel
              have f3 : freshB 1 = true := by decide +kernel
              have f4 : proposedB 2 = true := by decide +kernel
              have f5 : openB 2 = true := by decide +kernel
              go_wp2_with (first | (go_at_call 12; refine (next_any _ _ _).mono ?_; rintro e w2 ⟨rfl, hb2⟩; have hcell2 := cell_later hb2 hcell) | (go_at_call 17; refine (fresh_any _ _).mono ?_; rintro e w' ⟨rfl, rfl⟩) | (go_at_call 18; refine (proposed_any _ _).mono ?_; rintro e w' ⟨rfl, rfl⟩) | (go_at_call 19; refine (open_any _ _).mono ?_; rintro e w' ⟨rfl, rfl⟩) | (go_at_call 20; refine (settled_any _ _).mono ?_; rintro e w' ⟨rfl, rfl⟩) | (go_at_call 16; refine (check_any _ _).mono ?_; rintro e w' ⟨rfl, rfl⟩))
              go_roundw
              case rel => exact ⟨k + 1, 2, 1, true, false, by omega, rfl, rfl, rfl, rfl, by go_num, .inr (.inr (.inl ⟨rfl, rfl, rfl, rfl⟩)), btt hb hb2⟩
              case measure => simp [intOf]; omega
            · have f1 : nextE 1 3 = 0 := by decide +kernel
              have f2 : nextP 1 3 = 4 := by decide +kernel
              have f3 : freshB 1 = true := by decide +kernel
              have f4 : proposedB 4 = true := by decide +kernel
              have f5 : openB 4 = true := by decide +kernel
              go_wp2_with (first | (go_at_call 12; refine (next_any _ _ _).mono ?_; rintro e w2 ⟨rfl, hb2⟩; have hcell2 := cell_later hb2 hcell) | (go_at_call 17; refine (fresh_any _ _).mono ?_; rintro e w' ⟨rfl, rfl⟩) | (go_at_call 18; refine (proposed_any _ _).mono ?_; rintro e w' ⟨rfl, rfl⟩) | (go_at_call 19; refine (open_any _ _).mono ?_; rintro e w' ⟨rfl, rfl⟩) | (go_at_call 20; refine (settled_any _ _).mono ?_; rintro e w' ⟨rfl, rfl⟩) | (go_at_call 16; refine (check_any _ _).mono ?_; rintro e w' ⟨rfl, rfl⟩))
              go_roundw
              case rel => exact ⟨k + 1, 4, 1, false, true, by omega, rfl, rfl, rfl, rfl, by go_num, .inr (.inr (.inr (.inr (.inl ⟨rfl, rfl, rfl, rfl⟩)))), btt hb hb2⟩
              case measure => simp [intOf]; omega
            · have f1 : nextE 1 4 = 0 := by decide +kernel
              have f2 : nextP 1 4 = 5 := by decide +kernel
              have f3 : freshB 1 = true := by decide +kernel
              have f4 : proposedB 5 = false := by decide +kernel
              have f5 : openB 5 = false := by decide +kernel
              go_wp2_with (first | (go_at_call 12; refine (next_any _ _ _).mono ?_; rintro e w2 ⟨rfl, hb2⟩; have hcell2 := cell_later hb2 hcell) | (go_at_call 17; refine (fresh_any _ _).mono ?_; rintro e w' ⟨rfl, rfl⟩) | (go_at_call 18; refine (proposed_any _ _).mono ?_; rintro e w' ⟨rfl, rfl⟩) | (go_at_call 19; refine (open_any _ _).mono ?_; rintro e w' ⟨rfl, rfl⟩) | (go_at_call 20; refine (settled_any _ _).mono ?_; rintro e w' ⟨rfl, rfl⟩) | (go_at_call 16; refine (check_any _ _).mono ?_; rintro e w' ⟨rfl, rfl⟩))
              go_roundw
              case rel => exact ⟨k + 1, 5, 0, false, false, by omega, rfl, rfl, rfl, rfl, by go_num, .inr (.inr (.inr (.inr (.inr (.inl ⟨rfl, by decide, by decide⟩))))), btt hb hb2⟩
              case measure => simp [intOf]; omega
            · have f1 : nextE 1 5 = 33 := by decide +kernel
              go_wp2_with (first | (go_at_call 12; refine (next_any _ _ _).mono ?_; rintro e w2 ⟨rfl, hb2⟩; have hcell2 := cell_later hb2 hcell) | (go_at_call 17; refine (fresh_any _ _).mono ?_; rintro e w' ⟨rfl, rfl⟩) | (go_at_call 18; refine (proposed_any _ _).mono ?_; rintro e w' ⟨rfl, rfl⟩) | (go_at_call 19; refine (open_any _ _).mono ?_; rintro e w' ⟨rfl, rfl⟩) | (go_at_call 20; refine (settled_any _ _).mono ?_; rintro e w' ⟨rfl, rfl⟩) | (go_at_call 16; refine (check_any _ _).mono ?_; rintro e w' ⟨rfl, rfl⟩))
              go_roundw
              case rel => exact ⟨k + 1, 1, 0, false, false, by omega, rfl, rfl, rfl, rfl, by go_num, .inr (.inl ⟨rfl, rfl, rfl, rfl⟩), btt hb hb2⟩
              case measure => simp [intOf]; omega
          · have f1 : nextE 1 act = 30 := by unfold nextE; rw [if_neg (by decide), if_pos (by omega)]
            clear hact
            go_wp2_with (first | (go_at_call 12; refine (next_any _ _ _).mono ?_; rintro e w2 ⟨rfl, hb2⟩; have hcell2 := cell_later hb2 hcell) | (go_at_call 17; refine (fresh_any _ _).mono ?_; rintro e w' ⟨rfl, rfl⟩) | (go_at_call 18; refine (proposed_any _ _).mono ?_; rintro e w' ⟨rfl, rfl⟩) | (go_at_call 19; refine (open_any _ _).mono ?_; rintro e w' ⟨rfl, rfl⟩) | (go_at_call 20; refine (settled_any _ _).mono ?_; rintro e w' ⟨rfl, rfl⟩) | (go_at_call 16; refine (check_any _ _).mono ?_; rintro e w' ⟨rfl, rfl⟩))
            go_roundw
            case rel => exact ⟨k + 1, 1, 0, false, false, by omega, rfl, rfl, rfl, rfl, by go_num, .inr (.inl ⟨rfl, rfl, rfl, rfl⟩), btt hb hb2⟩
            case measure => simp [intOf]; omega
        · by_cases hact : 1 ≤ act ∧ act ≤ 5
          · obtain rfl | rfl | rfl | rfl | rfl : act = 1 ∨ act = 2 ∨ act = 3 ∨ act = 4 ∨ act = 5 := by omega
            · have f1 : nextE 2 1 = 33 := by decide +kernel
              go_wp2_with (first | (go_at_call 12; refine (next_any _ _ _).mono ?_; rintro e w2 ⟨rfl, hb2⟩; have hcell2 := cell_later hb2 hcell) | (go_at_call 17; refine (fresh_any _ _).mono ?_; rintro e w' ⟨rfl, rfl⟩) | (go_at_call 18; refine (proposed_any _ _).mono ?_; rintro e w' ⟨rfl, rfl⟩) | (go_at_call 19; refine (open_any _ _).mono ?_; rintro e w' ⟨rfl, rfl⟩) | (go_at_call 20; refine (settled_any _ _).mono ?_; rintro e w' ⟨rfl, rfl⟩) | (go_at_call 16; refine (check_any _ _).mono ?_; rintro e w' ⟨rfl, rfl⟩))
              go_roundw
              case rel => exact ⟨k + 1, 2, 1, true, false, by omega, rfl, rfl, rfl, rfl, by go_num, .inr (.inr (.inl ⟨rfl, rfl, rfl, rfl⟩)), btt hb hb2⟩
              case measure => simp [intOf]; omega
            · have f1 : nextE 2 2 = 33 := by decide +kernel
              go_wp2_with (first | (go_at_call 12; refine (next_any _ _ _).mono ?_; rintro e w2 ⟨rfl, hb2⟩; have hcell2 := cell_later hb2 hcell) | (go_at_call 17; refine (fresh_any _ _).mono ?_; rintro e w' ⟨rfl, rfl⟩) | (go_at_call 18; refine (proposed_any _ _).mono ?_; rintro e w' ⟨rfl, rfl⟩) | (go_at_call 19; refine (open_any _ _).mono ?_; rintro e w' ⟨rfl, rfl⟩) | (go_at_call 20; refine (settled_any _ _).mono ?_; rintro e w' ⟨rfl, rfl⟩) | (go_at_call 16; refine (check_any _ _).mono ?_; rintro e w' ⟨rfl, rfl⟩))
              go_roundw
              case rel => exact ⟨k + 1, 2, 1, true, false, by omega, rfl, rfl, rfl, rfl, by go_num, .inr (.inr (.inl ⟨rfl, rfl, rfl, rfl⟩)), btt hb hb2⟩
              case measure => simp [intOf]; omega
            · have f1 : nextE 2 3 = 0 := by decide +kernel
              have f2 : nextP 2 3 = 3 := by decide +kernel
              have f3 : freshB 2 = false := by decide +kernel
              have f4 : proposedB 3 = true := by decide +kernel
              have f5 : openB 3 = true := by decide +kernel
              go_wp2_with (first | (go_at_call 12; refine (next_any _ _ _).mono ?_; rintro e w2 ⟨rfl, hb2⟩; have hcell2 := cell_later hb2 hcell) | (go_at_call 17; refine (fresh_any _ _).mono ?_; rintro e w' ⟨rfl, rfl⟩) | (go_at_call 18; refine (proposed_any _ _).mono ?_; rintro e w' ⟨rfl, rfl⟩) | (go_at_call 19; refine (open_any _ _).mono ?_; rintro e w' ⟨rfl, rfl⟩) | (go_at_call 20; refine (settled_any _ _).mono ?_; rintro e w' ⟨rfl, rfl⟩) | (go_at_call 16; refine (check_any _ _).mono ?_; rintro e w' ⟨rfl, rfl⟩))
              go_roundw
              case rel => exact ⟨k + 1, 3, 1, true, true, by omega, rfl, rfl, rfl, rfl, by go_num, .inr (.inr (.inr (.inl ⟨rfl, rfl, rfl, rfl⟩))), btt hb hb2⟩
              case measure => simp [intOf]; omega
            · have f1 : nextE 2 4 = 0 := by decide +kernel
              have f2 : nextP 2 4 = 5 := by decide +kernel
              have f3 : freshB 2 = false := by decide +kernel
              have f4 : proposedB 5 = false := by decide +kernel
              have f5 : openB 5 = false := by decide +kernel
              go_wp2_with (first | (go_at_call 12; refine (next_any _ _ _).mono ?_; rintro e w2 ⟨rfl, hb2⟩; have hcell2 := cell_later hb2 hcell) | (go_at_call 17; refine (fresh_any _ _).mono ?_; rintro e w' ⟨rfl, rfl⟩) | (go_at_call 18; refine (proposed_any _ _).mono ?_; rintro e w' ⟨rfl, rfl⟩) | (go_at_call 19; refine (open_any _ _).mono ?_; rintro e w' ⟨rfl, rfl⟩) | (go_at_call 20; refine (settled_any _ _).mono ?_; rintro e w' ⟨rfl, rfl⟩) | (go_at_call 16; refine (check_any _ _).mono ?_; rintro e w' ⟨rfl, rfl⟩))
              go_roundw
              case rel => exact ⟨k + 1, 5, 1, true, false, by omega, rfl, rfl, rfl, rfl, by go_num, .inr (.inr (.inr (.inr (.inr (.inl ⟨rfl, by decide, by decide⟩))))), btt hb hb2⟩
              case measure => simp [intOf]; omega
            · have f1 : nextE 2 5 = 33 := by decide +kernel
              go_wp2_with (first | (go_at_call 12; refine (next_any _ _ _).mono ?_; rintro e w2 ⟨rfl, hb2⟩; have hcell2 := cell_later hb2 hcell) | (go_at_call 17; refine (fresh_any _ _).mono ?_; rintro e w' ⟨rfl, rfl⟩) | (go_at_call 18; refine (proposed_any _ _).mono ?_; rintro e w' ⟨rfl, rfl⟩) | (go_at_call 19; refine (open_any _ _).mono ?_; rintro e w' ⟨rfl, rfl⟩) | (go_at_call 20; refine (settled_any _ _).mono ?_; rintro e w' ⟨rfl, rfl⟩) | (go_at_call 16; refine (check_any _ _).mono ?_; rintro e w' ⟨rfl, rfl⟩))
              go_roundw
              case rel => exact ⟨k + 1, 2, 1, true, false, by omega, rfl, rfl, rfl, rfl, by go_num, .inr (.inr (.inl ⟨rfl, rfl, rfl, rfl⟩)), btt hb hb2⟩
              case measure => simp [intOf]; omega
          · have f1 : nextE 2 act = 30 := by unfold nextE; rw [if_neg (by decide), if_pos (by omega)]
            clear hact
            go_wp2_with (first | (go_at_call 12; refine (next_any _ _ _).mono ?_; rintro e w2 ⟨rfl, hb2⟩; have hcell2 := cell_later hb2 hcell) | (go_at_call 17; refine (fresh_any _ _).mono ?_; rintro e w' ⟨rfl, rfl⟩) | (go_at_call 18; refine (proposed_any _ _).mono ?_; rintro e w' ⟨rfl, rfl⟩) | (go_at_call 19; refine (open_any _ _).mono ?_; rintro e w' ⟨rfl, rfl⟩) | (go_at_call 20; refine (settled_any _ _).mono ?_; rintro e w' ⟨rfl, rfl⟩) | (go_at_call 16; refine (check_any _ _).mono ?_; rintro e w' ⟨rfl, rfl⟩))
            go_roundw
            case rel => exact ⟨k + 1, 2, 1, true, false, by omega, rfl, rfl, rfl, rfl, by go_num, .inr (.inr (.inl ⟨rfl, rfl, rfl, rfl⟩)), btt hb hb2⟩
            case measure => simp [intOf]; omega
        · by_cases hact : 1 ≤ act ∧ act ≤ 5
          · obtain rfl | rfl | rfl | rfl | rfl : act = 1 ∨ act = 2 ∨ act = 3 ∨ act = 4 ∨ act = 5 := by omega
            · have f1 : nextE 3 1 = 33 := by decide +kernel
              go_wp2_with (first | (go_at_call 12; refine (next_any _ _ _).mono ?_; rintro e w2 ⟨rfl, hb2⟩; have hcell2 := cell_later hb2 hcell) | (go_at_call 17; refine (fresh_any _ _).mono ?_; rintro e w' ⟨rfl, rfl⟩) | (go_at_call 18; refine (proposed_any _ _).mono ?_; rintro e w' ⟨rfl, rfl⟩) | (go_at_call 19; refine (open_any _ _).mono ?_; rintro e w' ⟨rfl, rfl⟩) | (go_at_call 20; refine (settled_any _ _).mono ?_; rintro e w' ⟨rfl, rfl⟩) | (go_at_call 16; refine (check_any _ _).mono ?_; rintro e w' ⟨rfl, rfl⟩))
              go_roundw
              case rel => exact ⟨k + 1, 3, 1, true, true, by omega, rfl, rfl, rfl, rfl, by go_num, .inr (.inr (.inr (.inl ⟨rfl, rfl, rfl, rfl⟩))), btt hb hb2⟩
              case measure => simp [intOf]; omega
            · have f1 : nextE 3 2 = 33 := by decide +kernel
              go_wp2_with (first | (go_at_call 12; refine (next_any _ _ _).mono ?_; rintro e w2 ⟨rfl, hb2⟩; have hcell2 := cell_later hb2 hcell) | (go_at_call 17; refine (fresh_any _ _).mono ?_; rintro e w' ⟨rfl, rfl⟩) | (go_at_call 18; refine (proposed_any _ _).mono ?_; rintro e w' ⟨rfl, rfl⟩) | (go_at_call 19; refine (open_any _ _).mono ?_; rintro e w' ⟨rfl, rfl⟩) | (go_at_call 20; refine (settled_any _ _).mono ?_; rintro e w' ⟨rfl, rfl⟩) | (go_at_call 16; refine (check_any _ _).mono ?_; rintro e w' ⟨rfl, rfl⟩))
              go_roundw
              case rel => exact ⟨k + 1, 3, 1, true, true, by omega, rfl, rfl, rfl, rfl, by go_num, .inr (.inr (.inr (.inl ⟨rfl, rfl, rfl, rfl⟩))), btt hb hb2⟩
              case measure => simp [intOf]; omega
            · have f1 : nextE 3 3 = 0 := by decide +kernel
              have f2 : nextP 3 3 = 3 := by decide +kernel
              have f3 : freshB 3 = false := by decide +kernel
              have f4 : proposedB 3 = true := by decide +kernel
              have f5 : openB 3 = true := by decide +kernel
              go_wp2_with (first | (go_at_call 12; refine (next_any _ _ _).mono ?_; rintro e w2 ⟨rfl, hb2⟩; have hcell2 := cell_later hb2 hcell) | (go_at_call 17; refine (fresh_any _ _).mono ?_; rintro e w' ⟨rfl, rfl⟩) | (go_at_call 18; refine (proposed_any _ _).mono ?_; rintro e w' ⟨rfl, rfl⟩) | (go_at_call 19; refine (open_any _ _).mono ?_; rintro e w' ⟨rfl, rfl⟩) | (go_at_call 20; refine (settled_any _ _).mono ?_; rintro e w' ⟨rfl, rfl⟩) | (go_at_call 16; refine (check_any _ _).mono ?_; rintro e w' ⟨rfl, rfl⟩))
              go_roundw
              case rel => exact ⟨k + 1, 3, 1, true, true, by omega, rfl, rfl, rfl, rfl, by go_num, .inr (.inr (.inr (.inl ⟨rfl, rfl, rfl, rfl⟩))), btt hb hb2⟩
              case measure => simp [intOf]; omega
            · have f1 : nextE 3 4 = 0 := by decide +kernel
              have f2 : nextP 3 4 = 5 := by decide +kernel
              have f3 : freshB 3 = false := by decide +kernel
              have f4 : proposedB 5 = false := by decide +kernel
              have f5 : openB 5 = false := by decide +kernel
              go_wp2_with (first | (go_at_call 12; refine (next_any _ _ _).mono ?_; rintro e w2 ⟨rfl, hb2⟩; have hcell2 := cell_later hb2 hcell) | (go_at_call 17; refine (fresh_any _ _).mono ?_; rintro e w' ⟨rfl, rfl⟩) | (go_at_call 18; refine (proposed_any _ _).mono ?_; rintro e w' ⟨rfl, rfl⟩) | (go_at_call 19; refine (open_any _ _).mono ?_; rintro e w' ⟨rfl, rfl⟩) | (go_at_call 20; refine (settled_any _ _).mono ?_; rintro e w' ⟨rfl, rfl⟩) | (go_at_call 16; refine (check_any _ _).mono ?_; rintro e w' ⟨rfl, rfl⟩))
              go_roundw
              case rel => exact ⟨k + 1, 5, 1, true, true, by omega, rfl, rfl, rfl, rfl, by go_num, .inr (.inr (.inr (.inr (.inr (.inl ⟨rfl, by decide, by decide⟩))))), btt hb hb2⟩
              case measure => simp [intOf]; omega
            · have f1 : nextE 3 5 = 33 := by decide +kernel
              go_wp2_with (first | (go_at_call 12; refine (next_any _ _ _).mono ?_; rintro e w2 ⟨rfl, hb2⟩; have hcell2 := cell_later hb2 hcell) | (go_at_call 17; refine (fresh_any _ _).mono ?_; rintro e w' ⟨rfl, rfl⟩) | (go_at_call 18; refine (proposed_any _ _).mono ?_; rintro e w' ⟨rfl, rfl⟩) | (go_at_call 19; refine (open_any _ _).mono ?_; rintro e w' ⟨rfl, rfl⟩) | (go_at_call 20; refine (settled_any _ _).mono ?_; rintro e w' ⟨rfl, rfl⟩) | (go_at_call 16; refine (check_any _ _).mono ?_; rintro e w' ⟨rfl, rfl⟩))
              go_roundw
              case rel => exact ⟨k + 1, 3, 1, true, true, by omega, rfl, rfl, rfl, rfl, by go_num, .inr (.inr (.inr (.inl ⟨rfl, rfl, rfl, rfl⟩))), btt hb hb2⟩
              case measure => simp [intOf]; omega
          · have f1 : nextE 3 act = 30 := by unfold nextE; rw [if_neg (by decide), if_pos (by omega)]
            clear hact
            go_wp2_with (first | (go_at_call 12; refine (next_any _ _ _).mono ?_; rintro e w2 ⟨rfl, hb2⟩; have hcell2 := cell_later hb2 hcell) | (go_at_call 17; refine (fresh_any _ _).mono ?_; rintro e w' ⟨rfl, rfl⟩) | (go_at_call 18; refine (proposed_any _ _).mono ?_; rintro e w' ⟨rfl, rfl⟩) | (go_at_call 19; refine (open_any _ _).mono ?_; rintro e w' ⟨rfl, rfl⟩) | (go_at_call 20; refine (settled_any _ _).mono ?_; rintro e w' ⟨rfl, rfl⟩) | (go_at_call 16; refine (check_any _ _).mono ?_; rintro e w' ⟨rfl, rfl⟩))
            go_roundw
            case rel => exact ⟨k + 1, 3, 1, true, true, by omega, rfl, rfl, rfl, rfl, by go_num, .inr (.inr (.inr (.inl ⟨rfl, rfl, rfl, rfl⟩))), btt hb hb2⟩
            case measure => simp [intOf]; omega
        · by_cases hact : 1 ≤ act ∧ act ≤ 5
          · obtain rfl | rfl | rfl | rfl | rfl : act = 1 ∨ act = 2 ∨ act = 3 ∨ act = 4 ∨ act = 5 := by omega
            · have f1 : nextE 4 1 = 33 := by decide +kernel
              go_wp2_with (first | (go_at_call 12; refine (next_any _ _ _).mono ?_; rintro e w2 ⟨rfl, hb2⟩; have hcell2 := cell_later hb2 hcell) | (go_at_call 17; refine (fresh_any _ _).mono ?_; rintro e w' ⟨rfl, rfl⟩) | (go_at_call 18; refine (proposed_any _ _).mono ?_; rintro e w' ⟨rfl, rfl⟩) | (go_at_call 19; refine (open_any _ _).mono ?_; rintro e w' ⟨rfl, rfl⟩) | (go_at_call 20; refine (settled_any _ _).mono ?_; rintro e w' ⟨rfl, rfl⟩) | (go_at_call 16; refine (check_any _ _).mono ?_; rintro e w' ⟨rfl, rfl⟩))
              go_roundw
              case rel => exact ⟨k + 1, 4, 1, false, true, by omega, rfl, rfl, rfl, rfl, by go_num, .inr (.inr (.inr (.inr (.inl ⟨rfl, rfl, rfl, rfl⟩)))), btt hb hb2⟩
              case measure => simp [intOf]; omega
            · have f1 : nextE 4 2 = 33 := by decide +kernel
              go_wp2_with (first | (go_at_call 12; refine (next_any _ _ _).mono ?_; rintro e w2 ⟨rfl, hb2⟩; have hcell2 := cell_later hb2 hcell) | (go_at_call 17; refine (fresh_any _ _).mono ?_; rintro e w' ⟨rfl, rfl⟩) | (go_at_call 18; refine (proposed_any _ _).mono ?_; rintro e w' ⟨rfl, rfl⟩) | (go_at_call 19; refine (open_any _ _).mono ?_; rintro e w' ⟨rfl, rfl⟩) | (go_at_call 20; refine (settled_any _ _).mono ?_; rintro e w' ⟨rfl, rfl⟩) | (go_at_call 16; refine (check_any _ _).mono ?_; rintro e w' ⟨rfl, rfl⟩))
              go_roundw
              case rel => exact ⟨k + 1, 4, 1, false, true, by omega, rfl, rfl, rfl, rfl, by go_num, .inr (.inr (.inr (.inr (.inl ⟨rfl, rfl, rfl, rfl⟩)))), btt hb hb2⟩
              case measure => simp [intOf]; omega
            · have f1 : nextE 4 3 = 0 := by decide +kernel
              have f2 : nextP 4 3 = 4 := by decide +kernel
              have f3 : freshB 4 = false := by decide +kernel
              have f4 : proposedB 4 = true := by decide +kernel
              have f5 : openB 4 = true := by decide +kernel
              go_wp2_with (first | (go_at_call 12; refine (next_any _ _ _).mono ?_; rintro e w2 ⟨rfl, hb2⟩; have hcell2 := cell_later hb2 hcell) | (go_at_call 17; refine (fresh_any _ _).mono ?_; rintro e w' ⟨rfl, rfl⟩) | (go_at_call 18; refine (proposed_any _ _).mono ?_; rintro e w' ⟨rfl, rfl⟩) | (go_at_call 19; refine (open_any _ _).mono ?_; rintro e w' ⟨rfl, rfl⟩) | (go_at_call 20; refine (settled_any _ _).mono ?_; rintro e w' ⟨rfl, rfl⟩) | (go_at_call 16; refine (check_any _ _).mono ?_; rintro e w' ⟨rfl, rfl⟩))
              go_roundw
              case rel => exact ⟨k + 1, 4, 1, false, true, by omega, rfl, rfl, rfl, rfl, by go_num, .inr (.inr (.inr (.inr (.inl ⟨rfl, rfl, rfl, rfl⟩)))), btt hb hb2⟩
              case measure => simp [intOf]; omega
            · have f1 : nextE 4 4 = 0 := by decide +kernel
              have f2 : nextP 4 4 = 5 := by decide +kernel
              have f3 : freshB 4 = false := by decide +kernel
              have f4 : proposedB 5 = false := by decide +kernel
              have f5 : openB 5 = false := by decide +kernel
              go_wp2_with (first | (go_at_call 12; refine (next_any _ _ _).mono ?_; rintro e w2 ⟨rfl, hb2⟩; have hcell2 := cell_later hb2 hcell) | (go_at_call 17; refine (fresh_any _ _).mono ?_; rintro e w' ⟨rfl, rfl⟩) | (go_at_call 18; refine (proposed_any _ _).mono ?_; rintro e w' ⟨rfl, rfl⟩) | (go_at_call 19; refine (open_any _ _).mono ?_; rintro e w' ⟨rfl, rfl⟩) | (go_at_call 20; refine (settled_any _ _).mono ?_; rintro e w' ⟨rfl, rfl⟩) | (go_at_call 16; refine (check_any _ _).mono ?_; rintro e w' ⟨rfl, rfl⟩))
              go_roundw
              case rel => exact ⟨k + 1, 5, 1, false, true, by omega, rfl, rfl, rfl, rfl, by go_num, .inr (.inr (.inr (.inr (.inr (.inl ⟨rfl, by decide, by decide⟩))))), btt hb hb2⟩
              case measure => simp [intOf]; omega
            · have f1 : nextE 4 5 = 33 := by decide +kernel
              go_wp2_with (first | (go_at_call 12; refine (next_any _ _ _).mono ?_; rintro e w2 ⟨rfl, hb2⟩; have hcell2 := cell_later hb2 hcell) | (go_at_call 17; refine (fresh_any _ _).mono ?_; rintro e w' ⟨rfl, rfl⟩) | (go_at_call 18; refine (proposed_any _ _).mono ?_; rintro e w' ⟨rfl, rfl⟩) | (go_at_call 19; refine (open_any _ _).mono ?_; rintro e w' ⟨rfl, rfl⟩) | (go_at_call 20; refine (settled_any _ _).mono ?_; rintro e w' ⟨rfl, rfl⟩) | (go_at_call 16; refine (check_any _ _).mono ?_; rintro e w' ⟨rfl, rfl⟩))
              go_roundw
              case rel => exact ⟨k + 1, 4, 1, false, true, by omega, rfl, rfl, rfl, rfl, by go_num, .inr (.inr (.inr (.inr (.inl ⟨rfl, rfl, rfl, rfl⟩)))), btt hb hb2⟩
              case measure => simp [intOf]; omega
          · have f1 : nextE 4 act = 30 := by unfold nextE; rw [if_neg (by decide), if_pos (by omega)]
            clear hact
            go_wp2_with (first | (go_at_call 12; refine (next_any _ _ _).mono ?_; rintro e w2 ⟨rfl, hb2⟩; have hcell2 := cell_later hb2 hcell) | (go_at_call 17; refine (fresh_any _ _).mono ?_; rintro e w' ⟨rfl, rfl⟩) | (go_at_call 18; refine (proposed_any _ _).mono ?_; rintro e w' ⟨rfl, rfl⟩) | (go_at_call 19; refine (open_any _ _).mono ?_; rintro e w' ⟨rfl, rfl⟩) | (go_at_call 20; refine (settled_any _ _).mono ?_; rintro e w' ⟨rfl, rfl⟩) | (go_at_call 16; refine (check_any _ _).mono ?_; rintro e w' ⟨rfl, rfl⟩))
            go_roundw
            case rel => exact ⟨k + 1, 4, 1, false, true, by omega, rfl, rfl, rfl, rfl, by go_num, .inr (.inr (.inr (.inr (.inl ⟨rfl, rfl, rfl, rfl⟩)))), btt hb hb2⟩
            case measure => simp [intOf]; omega
        · by_cases hact : 1 ≤ act ∧ act ≤ 5
          · obtain rfl | rfl | rfl | rfl | rfl : act = 1 ∨ act = 2 ∨ act = 3 ∨ act = 4 ∨ act = 5 := by omega
            · have f1 : nextE 5 1 = 33 := by decide +kernel
              go_wp2_with (first | (go_at_call 12; refine (next_any _ _ _).mono ?_; rintro e w2 ⟨rfl, hb2⟩; have hcell2 := cell_later hb2 hcell) | (go_at_call 17; refine (fresh_any _ _).mono ?_; rintro e w' ⟨rfl, rfl⟩) | (go_at_call 18; refine (proposed_any _ _).mono ?_; rintro e w' ⟨rfl, rfl⟩) | (go_at_call 19; refine (open_any _ _).mono ?_; rintro e w' ⟨rfl, rfl⟩) | (go_at_call 20; refine (settled_any _ _).mono ?_; rintro e w' ⟨rfl, rfl⟩) | (go_at_call 16; refine (check_any _ _).mono ?_; rintro e w' ⟨rfl, rfl⟩))
              go_roundw
              case rel => exact ⟨k + 1, 5, t, a, r, by omega, rfl, rfl, rfl, rfl, by go_num, .inr (.inr (.inr (.inr (.inr (.inl ⟨rfl, ht0, ht1⟩))))), btt hb hb2⟩
              case measure => simp [intOf]; omega
            · have f1 : nextE 5 2 = 33 := by decide +kernel
              go_wp2_with (first | (go_at_call 12; refine (next_any _ _ _).mono ?_; rintro e w2 ⟨rfl, hb2⟩; have hcell2 := cell_later hb2 hcell) | (go_at_call 17; refine (fresh_any _ _).mono ?_; rintro e w' ⟨rfl, rfl⟩) | (go_at_call 18; refine (proposed_any _ _).mono ?_; rintro e w' ⟨rfl, rfl⟩) | (go_at_call 19; refine (open_any _ _).mono ?_; rintro e w' ⟨rfl, rfl⟩) | (go_at_call 20; refine (settled_any _ _).mono ?_; rintro e w' ⟨rfl, rfl⟩) | (go_at_call 16; refine (check_any _ _).mono ?_; rintro e w' ⟨rfl, rfl⟩))
              go_roundw
              case rel => exact ⟨k + 1, 5, t, a, r, by omega, rfl, rfl, rfl, rfl, by go_num, .inr (.inr (.inr (.inr (.inr (.inl ⟨rfl, ht0, ht1⟩))))), btt hb hb2⟩
              case measure => simp [intOf]; omega
            · have f1 : nextE 5 3 = 33 := by decide +kernel
              go_wp2_with (first | (go_at_call 12; refine (next_any _ _ _).mono ?_; rintro e w2 ⟨rfl, hb2⟩; have hcell2 := cell_later hb2 hcell) | (go_at_call 17; refine (fresh_any _ _).mono ?_; rintro e w' ⟨rfl, rfl⟩) | (go_at_call 18; refine (proposed_any _ _).mono ?_; rintro e w' ⟨rfl, rfl⟩) | (go_at_call 19; refine (open_any _ _).mono ?_; rintro e w' ⟨rfl, rfl⟩) | (go_at_call 20; refine (settled_any _ _).mono ?_; rintro e w' ⟨rfl, rfl⟩) | (go_at_call 16; refine (check_any _ _).mono ?_; rintro e w' ⟨rfl, rfl⟩))
              go_roundw
              case rel => exact ⟨k + 1, 5, t, a, r, by omega, rfl, rfl, rfl, rfl, by go_num, .inr (.inr (.inr (.inr (.inr (.inl ⟨rfl, ht0, ht1⟩))))), btt hb hb2⟩
              case measure => simp [intOf]; omega
            · have f1 : nextE 5 4 = 33 := by decide +kernel
              go_wp2_with (first | (go_at_call 12; refine (next_any _ _ _).mono ?_; rintro e w2 ⟨rfl, hb2⟩; have hcell2 := cell_later hb2 hcell) | (go_at_call 17; refine (fresh_any _ _).mono ?_; rintro e w' ⟨rfl, rfl⟩) | (go_at_call 18; refine (proposed_any _ _).mono ?_; rintro e w' ⟨rfl, rfl⟩) | (go_at_call 19; refine (open_any _ _).mono ?_; rintro e w' ⟨rfl, rfl⟩) | (go_at_call 20; refine (settled_any _ _).mono ?_; rintro e w' ⟨rfl, rfl⟩) | (go_at_call 16; refine (check_any _ _).mono ?_; rintro e w' ⟨rfl, rfl⟩))
              go_roundw
              case rel => exact ⟨k + 1, 5, t, a, r, by omega, rfl, rfl, rfl, rfl, by go_num, .inr (.inr (.inr (.inr (.inr (.inl ⟨rfl, ht0, ht1⟩))))), btt hb hb2⟩
              case measure => simp [intOf]; omega
            · have f1 : nextE 5 5 = 0 := by decide +kernel
              have f2 : nextP 5 5 = 6 := by decide +kernel
              have f3 : freshB 5 = false := by decide +kernel
              have f4 : proposedB 6 = false := by decide +kernel
              have f5 : openB 6 = false := by decide +kernel
              have ft : ¬ (1 < t) := by omega
              cases r
              · go_wp2_with (first | (go_at_call 12; refine (next_any _ _ _).mono ?_; rintro e w2 ⟨rfl, hb2⟩; have hcell2 := cell_later hb2 hcell) | (go_at_call 17; refine (fresh_any _ _).mono ?_; rintro e w' ⟨rfl, rfl⟩) | (go_at_call 18; refine (proposed_any _ _).mono ?_; rintro e w' ⟨rfl, rfl⟩) | (go_at_call 19; refine (open_any _ _).mono ?_; rintro e w' ⟨rfl, rfl⟩) | (go_at_call 20; refine (settled_any _ _).mono ?_; rintro e w' ⟨rfl, rfl⟩) | (go_at_call 16; refine (check_any _ _).mono ?_; rintro e w' ⟨rfl, rfl⟩))
                go_roundw
                case rel => exact ⟨k + 1, 6, t, a, false, by omega, rfl, rfl, rfl, rfl, by go_num, .inr (.inr (.inr (.inr (.inr (.inr ⟨rfl, ht0, ht1⟩))))), btt hb hb2⟩
                case measure => simp [intOf]; omega
              · go_wp2_with (first | (go_at_call 12; refine (next_any _ _ _).mono ?_; rintro e w2 ⟨rfl, hb2⟩; have hcell2 := cell_later hb2 hcell) | (go_at_call 17; refine (fresh_any _ _).mono ?_; rintro e w' ⟨rfl, rfl⟩) | (go_at_call 18; refine (proposed_any _ _).mono ?_; rintro e w' ⟨rfl, rfl⟩) | (go_at_call 19; refine (open_any _ _).mono ?_; rintro e w' ⟨rfl, rfl⟩) | (go_at_call 20; refine (settled_any _ _).mono ?_; rintro e w' ⟨rfl, rfl⟩) | (go_at_call 16; refine (check_any _ _).mono ?_; rintro e w' ⟨rfl, rfl⟩))
                go_roundw
                case rel => exact ⟨k + 1, 6, t, a, true, by omega, rfl, rfl, rfl, rfl, by go_num, .inr (.inr (.inr (.inr (.inr (.inr ⟨rfl, ht0, ht1⟩))))), btt hb hb2⟩
                case measure => simp [intOf]; omega
          · have f1 : nextE 5 act = 30 := by unfold nextE; rw [if_neg (by decide), if_pos (by omega)]
            clear hact
            go_wp2_with (first | (go_at_call 12; refine (next_any _ _ _).mono ?_; rintro e w2 ⟨rfl, hb2⟩; have hcell2 := cell_later hb2 hcell) | (go_at_call 17; refine (fresh_any _ _).mono ?_; rintro e w' ⟨rfl, rfl⟩) | (go_at_call 18; refine (proposed_any _ _).mono ?_; rintro e w' ⟨rfl, rfl⟩) | (go_at_call 19; refine (open_any _ _).mono ?_; rintro e w' ⟨rfl, rfl⟩) | (go_at_call 20; refine (settled_any _ _).mono ?_; rintro e w' ⟨rfl, rfl⟩) | (go_at_call 16; refine (check_any _ _).mono ?_; rintro e w' ⟨rfl, rfl⟩))
            go_roundw
            case rel => exact ⟨k + 1, 5, t, a, r, by omega, rfl, rfl, rfl, rfl, by go_num, .inr (.inr (.inr (.inr (.inr (.inl ⟨rfl, ht0, ht1⟩))))), btt hb hb2⟩
            case measure => simp [intOf]; omega
        · by_cases hact : 1 ≤ act ∧ act ≤ 5
          · obtain rfl | rfl | rfl | rfl | rfl : act = 1 ∨ act = 2 ∨ act = 3 ∨ act = 4 ∨ act = 5 := by omega
            · have f1 : nextE 6 1 = 33 := by decide +kernel
              go_wp2_with (first | (go_at_call 12; refine (next_any _ _ _).mono ?_; rintro e w2 ⟨rfl, hb2⟩; have hcell2 := cell_later hb2 hcell) | (go_at_call 17; refine (fresh_any _ _).mono ?_; rintro e w' ⟨rfl, rfl⟩) | (go_at_call 18; refine (proposed_any _ _).mono ?_; rintro e w' ⟨rfl, rfl⟩) | (go_at_call 19; refine (open_any _ _).mono ?_; rintro e w' ⟨rfl, rfl⟩) | (go_at_call 20; refine (settled_any _ _).mono ?_; rintro e w' ⟨rfl, rfl⟩) | (go_at_call 16; refine (check_any _ _).mono ?_; rintro e w' ⟨rfl, rfl⟩))
              go_roundw
              case rel => exact ⟨k + 1, 6, t, a, r, by omega, rfl, rfl, rfl, rfl, by go_num, .inr (.inr (.inr (.inr (.inr (.inr ⟨rfl, ht0, ht1⟩))))), btt hb hb2⟩
              case measure => simp [intOf]; omega
            · have f1 : nextE 6 2 = 33 := by decide +kernel
              go_wp2_with (first | (go_at_call 12; refine (next_any _ _ _).mono ?_; rintro e w2 ⟨rfl, hb2⟩; have hcell2 := cell_later hb2 hcell) | (go_at_call 17; refine (fresh_any _ _).mono ?_; rintro e w' ⟨rfl, rfl⟩) | (go_at_call 18; refine (proposed_any _ _).mono ?_; rintro e w' ⟨rfl, rfl⟩) | (go_at_call 19; refine (open_any _ _).mono ?_; rintro e w' ⟨rfl, rfl⟩) | (go_at_call 20; refine (settled_any _ _).mono ?_; rintro e w' ⟨rfl, rfl⟩) | (go_at_call 16; refine (check_any _ _).mono ?_; rintro e w' ⟨rfl, rfl⟩))
              go_roundw
              case rel => exact ⟨k + 1, 6, t, a, r, by omega, rfl, rfl, rfl, rfl, by go_num, .inr (.inr (.inr (.inr (.inr (.inr ⟨rfl, ht0, ht1⟩))))), btt hb hb2⟩
              case measure => simp [intOf]; omega
            · have f1 : nextE 6 3 = 33 := by decide +kernel
              go_wp2_with (first | (go_at_call 12; refine (next_any _ _ _).mono ?_; rintro e w2 ⟨rfl, hb2⟩; have hcell2 := cell_later hb2 hcell) | (go_at_call 17; refine (fresh_any _ _).mono ?_; rintro e w' ⟨rfl, rfl⟩) | (go_at_call 18; refine (proposed_any _ _).mono ?_; rintro e w' ⟨rfl, rfl⟩) | (go_at_call 19; refine (open_any _ _).mono ?_; rintro e w' ⟨rfl, rfl⟩) | (go_at_call 20; refine (settled_any _ _).mono ?_; rintro e w' ⟨rfl, rfl⟩) | (go_at_call 16; refine (check_any _ _).mono ?_; rintro e w' ⟨rfl, rfl⟩))
              go_roundw
              case rel => exact ⟨k + 1, 6, t, a, r, by omega, rfl, rfl, rfl, rfl, by go_num, .inr (.inr (.inr (.inr (.inr (.inr ⟨rfl, ht0, ht1⟩))))), btt hb hb2⟩
              case measure => simp [intOf]; omega
            · have f1 : nextE 6 4 = 33 := by decide +kernel
              go_wp2_with (first | (go_at_call 12; refine (next_any _ _ _).mono ?_; rintro e w2 ⟨rfl, hb2⟩; have hcell2 := cell_later hb2 hcell) | (go_at_call 17; refine (fresh_any _ _).mono ?_; rintro e w' ⟨rfl, rfl⟩) | (go_at_call 18; refine (proposed_any _ _).mono ?_; rintro e w' ⟨rfl, rfl⟩) | (go_at_call 19; refine (open_any _ _).mono ?_; rintro e w' ⟨rfl, rfl⟩) | (go_at_call 20; refine (settled_any _ _).mono ?_; rintro e w' ⟨rfl, rfl⟩) | (go_at_call 16; refine (check_any _ _).mono ?_; rintro e w' ⟨rfl, rfl⟩))
              go_roundw
              case rel => exact ⟨k + 1, 6, t, a, r, by omega, rfl, rfl, rfl, rfl, by go_num, .inr (.inr (.inr (.inr (.inr (.inr ⟨rfl, ht0, ht1⟩))))), btt hb hb2⟩
              case measure => simp [intOf]; omega
            · have f1 : nextE 6 5 = 33 := by decide +kernel
              go_wp2_with (first | (go_at_call 12; refine (next_any _ _ _).mono ?_; rintro e w2 ⟨rfl, hb2⟩; have hcell2 := cell_later hb2 hcell) | (go_at_call 17; refine (fresh_any _ _).mono ?_; rintro e w' ⟨rfl, rfl⟩) | (go_at_call 18; refine (proposed_any _ _).mono ?_; rintro e w' ⟨rfl, rfl⟩) | (go_at_call 19; refine (open_any _ _).mono ?_; rintro e w' ⟨rfl, rfl⟩) | (go_at_call 20; refine (settled_any _ _).mono ?_; rintro e w' ⟨rfl, rfl⟩) | (go_at_call 16; refine (check_any _ _).mono ?_; rintro e w' ⟨rfl, rfl⟩))
              go_roundw
              case rel => exact ⟨k + 1, 6, t, a, r, by omega, rfl, rfl, rfl, rfl, by go_num, .inr (.inr (.inr (.inr (.inr (.inr ⟨rfl, ht0, ht1⟩))))), btt hb hb2⟩
              case measure => simp [intOf]; omega
          · have f1 : nextE 6 act = 30 := by unfold nextE; rw [if_neg (by decide), if_pos (by omega)]
            clear hact
            go_wp2_with (first | (go_at_call 12; refine (next_any _ _ _).mono ?_; rintro e w2 ⟨rfl, hb2⟩; have hcell2 := cell_later hb2 hcell) | (go_at_call 17; refine (fresh_any _ _).mono ?_; rintro e w' ⟨rfl, rfl⟩) | (go_at_call 18; refine (proposed_any _ _).mono ?_; rintro e w' ⟨rfl, rfl⟩) | (go_at_call 19; refine (open_any _ _).mono ?_; rintro e w' ⟨rfl, rfl⟩) | (go_at_call 20; refine (settled_any _ _).mono ?_; rintro e w' ⟨rfl, rfl⟩) | (go_at_call 16; refine (check_any _ _).mono ?_; rintro e w' ⟨rfl, rfl⟩))
            go_roundw
            case rel => exact ⟨k + 1, 6, t, a, r, by omega, rfl, rfl, rfl, rfl, by go_num, .inr (.inr (.inr (.inr (.inr (.inr ⟨rfl, ht0, ht1⟩))))), btt hb hb2⟩
            case measure => simp [intOf]; omega
      · clear hc
        have hp : 0 ≤ p ∧ p ≤ 6 := by rcases hst with h | h | h | h | h | h | h <;> omega
        have f0 : checkE p = 0 := by unfold checkE; rw [if_neg (by omega)]
        clear hst hp
        go_wp2_with (go_at_call 16; refine (check_any _ _).mono ?_; rintro e w' ⟨rfl, rfl⟩)
        refine (awake19_any _).mono ?_; rintro e w3 ⟨rfl, hb3⟩
        go_wp2_with fail
        go_ret
        exact ⟨rfl, btt hb hb3⟩
theorem once_nil (w : World) : Calls Try.prog 4 #[.slice none 0 0] w fun e w' => e = .returned (.bool true) ∧ Below w.heap.size w w' := by
  go_enter Try.func4, Try.ntmps4
  go_wp2_with fail
  go_loopw [3, 4, 5, 6, 7] (fun p t a r i wr => p = .int .i64 0 ∧ t = .int .i64 0 ∧ a = .bool false ∧ r = .bool false ∧ i = .int .i64 0 ∧ w = wr) (fun _ _ _ _ i _ => 0)
  case atStart => exact ⟨rfl, rfl, rfl, rfl, rfl, rfl⟩
  case round =>
    obtain ⟨rfl, rfl, rfl, rfl, rfl, rfl⟩ := hrel
    have f0 : checkE 0 = 0 := by decide +kernel
    go_wp2_with (go_at_call 16; refine (check_any _ _).mono ?_; rintro e w' ⟨rfl, rfl⟩)
    refine (awake19_any _).mono ?_; rintro e w3 ⟨rfl, hb3⟩
    go_wp2_with fail
    go_ret
    exact ⟨rfl, hb3⟩
end Go.Proofs.Ytnebacomafgjjaa
