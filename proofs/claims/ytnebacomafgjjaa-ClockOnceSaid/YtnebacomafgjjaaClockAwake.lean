/- The fixed answers of the layer clock. -/
import Derived.Test.YtnebacomafgjjaaClock5
import Derived.Test.YtnebacomafgjjaaAtts
namespace Go.Proofs.Ytnebacomafgjjaa
open Go.RowKit
theorem Row0 (w : World) : Row w none (attE.flat []) := by unfold Enc.flat; exact Row.nil w none
theorem aw1 (w : World) : Calls Try.prog 23 #[.int .i64 4, .slice none 0 0, .int .i64 11, .int .i64 2] w (PropP w 5 [⟨5, 11⟩] 0) := by
  have h := propose_any 4 none 0 [] 11 2 w (by simp [maxLen]) (Nat.le_refl _) (Row0 w) (by simp)
  rw [show propT 4 [] 11 2 = 5 from by decide +kernel, show propL 4 [] 11 2 = [⟨5, 11⟩] from by decide +kernel, show propE 4 [] 11 2 = 0 from by decide +kernel] at h
  exact h
theorem aw2 (A : Option Addr) (c : Nat) (w : World) (hm : c ≤ maxLen) (hl : 1 ≤ c) (hx : Row w A (attE.flat [⟨5, 11⟩])) : Calls Try.prog 23 #[.int .i64 5, .slice A 1 c, .int .i64 12, .int .i64 9] w (PropP w 9 [⟨5, 11⟩, ⟨9, 12⟩] 0) := by
  have h := propose_any 5 A c [⟨5, 11⟩] 12 9 w hm hl hx (by simp)
  rw [show propT 5 [⟨5, 11⟩] 12 9 = 9 from by decide +kernel, show propL 5 [⟨5, 11⟩] 12 9 = [⟨5, 11⟩, ⟨9, 12⟩] from by decide +kernel, show propE 5 [⟨5, 11⟩] 12 9 = 0 from by decide +kernel] at h
  exact h
theorem aw3 (A : Option Addr) (c : Nat) (w : World) (hm : c ≤ maxLen) (hl : 2 ≤ c) (hx : Row w A (attE.flat [⟨5, 11⟩, ⟨9, 12⟩])) : Calls Try.prog 23 #[.int .i64 9, .slice A 2 c, .int .i64 11, .int .i64 0] w (PropP w 0 [] 41) := by
  have h := propose_any 9 A c [⟨5, 11⟩, ⟨9, 12⟩] 11 0 w hm hl hx (by simp)
  rw [show propT 9 [⟨5, 11⟩, ⟨9, 12⟩] 11 0 = 0 from by decide +kernel, show propL 9 [⟨5, 11⟩, ⟨9, 12⟩] 11 0 = [] from by decide +kernel, show propE 9 [⟨5, 11⟩, ⟨9, 12⟩] 11 0 = 41 from by decide +kernel] at h
  exact h
theorem aw4 (w : World) : Calls Try.prog 23 #[.int .i64 1000000, .slice none 0 0, .int .i64 11, .int .i64 0] w (PropP w 0 [] 9) := by
  have h := propose_any 1000000 none 0 [] 11 0 w (by simp [maxLen]) (Nat.le_refl _) (Row0 w) (by simp)
  rw [show propT 1000000 [] 11 0 = 0 from by decide +kernel, show propL 1000000 [] 11 0 = [] from by decide +kernel, show propE 1000000 [] 11 0 = 9 from by decide +kernel] at h
  exact h
abbrev awL : List Att := [⟨5, 11⟩, ⟨9, 12⟩]
theorem aw_of (id r : Int) (h : ofT awL id = r) (A : Option Addr) (c : Nat) (w : World) (hm : c ≤ maxLen) (hl : 2 ≤ c) (hx : Row w A (attE.flat awL)) : Calls Try.prog 54 #[.slice A 2 c, .int .i64 id] w fun e w' => e = .returned (.int .i64 r) ∧ Below w.heap.size w w' := by
  rw [← h]
  exact clockof_any A c awL id w hm hl hx
theorem aw_free (now floor t : Int) (r : Bool) (h : freeB now floor awL t = r) (A : Option Addr) (c : Nat) (w : World) (hm : c ≤ maxLen) (hl : 2 ≤ c) (hx : Row w A (attE.flat awL)) : Calls Try.prog 29 #[.int .i64 now, .int .i64 floor, .slice A 2 c, .int .i64 t] w fun e w' => e = .returned (.bool r) ∧ Below w.heap.size w w' := by
  rw [← h]
  exact free_any now floor A c awL t w hm hl hx
theorem aw_check (now floor r : Int) (h : errI (clockOk now floor awL) 2 = r) (A : Option Addr) (c : Nat) (w : World) (hm : c ≤ maxLen) (hl : 2 ≤ c) (hx : Row w A (attE.flat awL)) : Calls Try.prog 26 #[.int .i64 now, .int .i64 floor, .slice A 2 c] w fun e w' => e = .returned (.int .i64 r) ∧ Below w.heap.size w w' := by
  rw [← h]
  exact clockcheck_any now floor A c awL w hm hl hx
theorem aw_same (A : Option Addr) (c : Nat) (w : World) (hm : c ≤ maxLen) (hl : 2 ≤ c) (hx : Row w A (attE.flat awL)) : Calls Try.prog 25 #[.slice A 2 c, .slice (some ⟨w.heap.size, 0, none⟩) 2 2] (w.alloc (.cells #[.int .i64 5, .int .i64 11, .int .i64 9, .int .i64 12] 48)) fun e w' => e = .returned (.bool true) ∧ Below w.heap.size w w' := by
  have hb := balloc (Below.refl w.heap.size w) (.cells #[.int .i64 5, .int .i64 11, .int .i64 9, .int .i64 12] 48)
  have h := sameatts_any A (some ⟨w.heap.size, 0, none⟩) c 2 awL awL _ hm (by simp [maxLen]) hl (Nat.le_refl _) (hx.later hb) (Row.new w (attE.flat awL) _)
  rw [show decide (awL = awL) = true from by decide +kernel] at h
  exact h.mono fun e w' ⟨h1, h2⟩ => ⟨h1, bt hb h2⟩
theorem aw_sweep (A : Option Addr) (c : Nat) (w : World) (hm : c ≤ maxLen) (hl : 2 ≤ c) (hx : Row w A (attE.flat awL)) : Calls Try.prog 55 #[.slice A 2 c, .int .i64 5] w (OwnSl attE 48 w [⟨9, 12⟩]) := by
  have h := sweep_any A c awL 5 w hm hl (by simp) hx
  rw [show awL.filter (fun a => !decide (a.T ≤ 5)) = [⟨9, 12⟩] from by decide +kernel] at h
  exact h
theorem aw_bump (a b r : Int) (h : bumpI a b = r) (w : World) : Calls Try.prog 28 #[.int .i64 a, .int .i64 b] w fun e w' => e = .returned (.int .i64 r) ∧ w = w' := by
  rw [← h]
  exact bump_any a b w
theorem own_form {w : World} {base : Nat} {e : TypeId} {size n : Nat} {v : Value} {xs : List Value} (h : w.ownsRow base e size v n xs) (hn : 0 < n) : ∃ A c, v = .slice A n c := by
  rcases h.2 with ⟨_, h0⟩ | ⟨g, cap, cur, hv, _⟩
  · omega
  · exact ⟨_, _, hv⟩
set_option maxRecDepth 100000 in
set_option maxHeartbeats 4000000 in
theorem awake15_any (w : World) : Calls Try.prog 22 #[] w fun e w' => e = .returned (.bool true) ∧ Below w.heap.size w w' := by
  go_enter Try.func22, Try.ntmps22
  go_wp2_with fail
  refine (aw1 _).mono ?_; rintro e w1 ⟨v1, rfl, ⟨A1, c1, rfl, hl1, hm1, hr1⟩, hb1⟩
  go_wp2_with fail
  refine (aw2 A1 c1 _ hm1 hl1 hr1).mono ?_; rintro e w2 ⟨v2, rfl, ⟨A2, c2, rfl, hl2, hm2, hr2⟩, hb2⟩
  go_wp2_with fail
  refine (aw3 A2 c2 _ hm2 hl2 hr2).mono ?_; rintro e w3 ⟨v3, rfl, ⟨A3, c3, rfl, hl3, hm3, hr3⟩, hb3⟩
  go_wp2_with fail
  refine (aw4 _).mono ?_; rintro e w4 ⟨v4, rfl, ⟨A4, c4, rfl, hl4, hm4, hr4⟩, hb4⟩
  have hb5 := bt hb3 hb4
  go_wp2_with fail
  refine (aw_same A2 c2 w4 hm2 hl2 (hr2.later hb5)).mono ?_; rintro e w6 ⟨rfl, hb6⟩
  have hb7 := bt hb5 hb6
  go_wp2_with fail
  refine (aw_of 12 9 (by decide +kernel) A2 c2 _ hm2 hl2 (hr2.later hb7)).mono ?_; rintro e w8 ⟨rfl, hb8⟩
  have hb9 := bt hb7 hb8
  go_wp2_with fail
  refine (aw_of 13 0 (by decide +kernel) A2 c2 _ hm2 hl2 (hr2.later hb9)).mono ?_; rintro e w10 ⟨rfl, hb10⟩
  have hb11 := bt hb9 hb10
  go_wp2_with fail
  refine (aw_free 9 0 7 true (by decide +kernel) A2 c2 _ hm2 hl2 (hr2.later hb11)).mono ?_; rintro e w12 ⟨rfl, hb12⟩
  have hb13 := bt hb11 hb12
  go_wp2_with fail
  refine (aw_free 9 0 5 false (by decide +kernel) A2 c2 _ hm2 hl2 (hr2.later hb13)).mono ?_; rintro e w14 ⟨rfl, hb14⟩
  have hb15 := bt hb13 hb14
  go_wp2_with fail
  refine (aw_free 9 7 7 false (by decide +kernel) A2 c2 _ hm2 hl2 (hr2.later hb15)).mono ?_; rintro e w16 ⟨rfl, hb16⟩
  have hb17 := bt hb15 hb16
  go_wp2_with fail
  refine (aw_bump 9 12 12 (by decide +kernel) _).mono ?_; rintro e w' ⟨rfl, rfl⟩
  go_wp2_with fail
  refine (aw_bump 9 3 9 (by decide +kernel) _).mono ?_; rintro e w' ⟨rfl, rfl⟩
  go_wp2_with fail
  refine (aw_sweep A2 c2 _ hm2 hl2 (hr2.later hb17)).mono ?_; rintro e w18 ⟨v18, rfl, hown, hb18⟩
  obtain ⟨A18, c18, rfl⟩ := own_form hown (by simp)
  have hb19 := bt hb17 hb18
  go_wp2_with fail
  refine (aw_check 9 0 0 (by decide +kernel) A2 c2 _ hm2 hl2 (hr2.later hb19)).mono ?_; rintro e w20 ⟨rfl, hb20⟩
  have hb21 := bt hb19 hb20
  go_wp2_with fail
  refine (aw_check 9 5 2 (by decide +kernel) A2 c2 _ hm2 hl2 (hr2.later hb21)).mono ?_; rintro e w22 ⟨rfl, hb22⟩
  go_wp2_with fail
  go_ret
  exact ⟨rfl, bt hb1 (bt hb2 (bt hb21 hb22))⟩
end Go.Proofs.Ytnebacomafgjjaa
