/- The law ClockProposes, walked. -/
import Derived.Test.YtnebacomafgjjaaClockAwake
import Derived.Deep.RegionHeld3
namespace Go.Proofs.Ytnebacomafgjjaa
open Go.RowKit
theorem beq_self (x : Int) : (x == x) = true := by simp
set_option maxRecDepth 100000 in
set_option maxHeartbeats 4000000 in
theorem clockproposes_any (now : Int) (A : Option Addr) (c : Nat) (own : List Att) (x0 x1 x2 : Int) (w : World) (hm : c ≤ maxLen) (hl : own.length ≤ c) (hx : Row w A (attE.flat own)) :
    Calls Try.prog 6 #[.int .i64 now, .slice A own.length c, .agg #[.int .i64 x0, .int .i64 x1, .int .i64 x2]] w fun e w' => e = .returned (.bool true) ∧ Below w.heap.size w w' := by
  by_cases hbig : 200 < own.length
  · go_enter Try.func6, Try.ntmps6
    go_wp2_with fail
    refine (awake15_any _).mono ?_; rintro e w1 ⟨rfl, hb1⟩
    go_wp2_with fail
    go_ret
    exact ⟨rfl, bt ((Below.refl w.heap.size w).alloc (Nat.le_refl _) _) hb1⟩
  · have hb0 := balloc (Below.refl w.heap.size w) (.cells #[.int .i64 x0, .int .i64 x1, .int .i64 x2] 35)
    have hx0 := hx.later hb0
    have H1 := Lib.hid (propose_any now A c own x0 x1 _ hm hl hx0 (by omega))
    have H2 := Lib.hid (fun W hb => refpropose_any now A c own x0 x1 W hm hl (hx0.later hb) (by omega))
    have H3 := Lib.hid (fun W hb => clockcheck_any now x2 A c own W hm hl (hx0.later (wx := W) hb))
    have H4 := Lib.hid (fun W hb => refclockcheck_any now x2 A c own W hm hl (hx0.later (wx := W) hb))
    have hcell := fun (W : World) (hb : Below (w.alloc (.cells #[.int .i64 x0, .int .i64 x1, .int .i64 x2] 35)).heap.size (w.alloc (.cells #[.int .i64 x0, .int .i64 x1, .int .i64 x2] 35)) W) => cell_later hb (a := ⟨w.heap.size, 0, none⟩) (v := .int .i64 x0) (by rw [World.cell?_alloc_new]; rfl)
    have hcell1 := fun (W : World) (hb : Below (w.alloc (.cells #[.int .i64 x0, .int .i64 x1, .int .i64 x2] 35)).heap.size (w.alloc (.cells #[.int .i64 x0, .int .i64 x1, .int .i64 x2] 35)) W) => cell_later hb (a := ⟨w.heap.size, 1, none⟩) (v := .int .i64 x1) (by rw [World.cell?_alloc_new]; rfl)
    have hcell2 := fun (W : World) (hb : Below (w.alloc (.cells #[.int .i64 x0, .int .i64 x1, .int .i64 x2] 35)).heap.size (w.alloc (.cells #[.int .i64 x0, .int .i64 x1, .int .i64 x2] 35)) W) => cell_later hb (a := ⟨w.heap.size, 2, none⟩) (v := .int .i64 x2) (by rw [World.cell?_alloc_new]; rfl)
    have HC0 := Lib.hid hcell
    have HC1 := Lib.hid hcell1
    have HC2 := Lib.hid hcell2
    clear hcell hcell1 hcell2
    generalize propT now own x0 x1 = T at H1 H2
    generalize propL now own x0 x1 = L at H1 H2
    generalize propE now own x0 x1 = E at H1 H2
    generalize errI (clockOk now x2 own) 2 = K at H3 H4
    go_enter Try.func6, Try.ntmps6
    go_wp2_with fail
    refine (H1.out).mono ?_; rintro e w1 ⟨v1, rfl, ⟨A1, c1, rfl, hl1, hm1, hr1⟩, hb1⟩
    have h10 := HC0.out _ hb1
    have h11 := HC1.out _ hb1
    go_wp2_with fail
    refine (H2.out _ hb1).mono ?_; rintro e w2 ⟨v2, rfl, ⟨A2, c2, rfl, hl2, hm2, hr2⟩, hb2⟩
    have hb3 := bt hb1 hb2
    have h20 := HC2.out _ hb3
    have HS := Lib.hid (fun W hb => sameatts_any A1 A2 c1 c2 L L W hm1 hm2 hl1 hl2 ((hr1.later hb2).later (wx := W) hb) (hr2.later hb))
    rw [show decide (L = L) = true from decide_eq_true rfl] at HS
    go_wp2_with fail
    have hk0 : w2.drew.cell? ⟨w.heap.size, 2, none⟩ = some (.int .i64 x2) ∧ Below w2.heap.size w2 w2.drew := ⟨h20, bdrew⟩
    have SB : Hid (∀ W : World, (W.cell? ⟨w.heap.size, 2, none⟩ = some (.int .i64 x2) ∧ Below w2.heap.size w2 W) → Below w2.heap.size w2 W) := fun W h => h.2
    have SK : Hid (∀ W W' : World, (W.cell? ⟨w.heap.size, 2, none⟩ = some (.int .i64 x2) ∧ Below w2.heap.size w2 W) → Below W.heap.size W W' → W'.cell? ⟨w.heap.size, 2, none⟩ = some (.int .i64 x2) ∧ Below w2.heap.size w2 W') := fun W W' h hb => ⟨cell_later hb h.1, bt h.2 hb⟩
    have hb3' := Lib.hid hb3
    clear hb3
    go_region_held3 (fun W => W.cell? ⟨w.heap.size, 2, none⟩ = some (.int .i64 x2) ∧ Below w2.heap.size w2 W) (assumption) (first | (go_at_call 25; refine (HS.out _ (SB.out _ (by assumption))).mono ?_; rintro e w5 ⟨rfl, hb5⟩; have hk5 := SK.out _ _ (by assumption) hb5) | (go_at_call 26; refine (H3.out _ (bt hb3'.out (SB.out _ (by assumption)))).mono ?_; rintro e w6 ⟨rfl, hb6⟩; have hk6 := SK.out _ _ (by assumption) hb6) | (go_at_call 27; refine (H4.out _ (bt hb3'.out (SB.out _ (by assumption)))).mono ?_; rintro e w7 ⟨rfl, hb7⟩; have hk7 := SK.out _ _ (by assumption) hb7) | (go_at_call 22; refine (awake15_any _).mono ?_; rintro e w8 ⟨rfl, hb8⟩; have hk8 := SK.out _ _ (by assumption) hb8))
    go_wp2
    go_ret
    exact ⟨rfl, bt hb0 (bt hb3'.out hk8.2)⟩
end Go.Proofs.Ytnebacomafgjjaa
