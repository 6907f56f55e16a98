/- The fixed answers of the layer bag are right. -/
import Derived.Test.YtnebacomafgjjaaBagAwake
namespace Go.Proofs.Ytnebacomafgjjaa
open Go.RowKit
theorem own_form {w : World} {base : Nat} {e : TypeId} {size n : Nat} {v : Value} {xs : List Value} (h : w.ownsRow base e size v n xs) (hn : 0 < n) : ∃ A c, v = .slice A n c := by
  rcases h.2 with ⟨_, h0⟩ | ⟨g, cap, cur, hv, _⟩
  · omega
  · exact ⟨_, _, hv⟩
set_option maxRecDepth 100000 in
set_option maxHeartbeats 8000000 in
theorem awake14_any (w : World) : Calls Try.prog 31 #[] w fun e w' => e = .returned (.bool true) ∧ Below w.heap.size w w' := by
  go_enter Try.func31, Try.ntmps31
  go_wp2_with fail
  refine (wk1 _).mono ?_; rintro e w1 ⟨v1, rfl, ⟨A1, c1, rfl, hl1, hm1, hr1⟩, hb1⟩
  go_wp2_with fail
  refine (wk2 A1 c1 _ hm1 hl1 hr1).mono ?_; rintro e w2 ⟨v2, rfl, ⟨A2, c2, rfl, hl2, hm2, hr2⟩, hb2⟩
  go_wp2_with fail
  refine (wk3 A2 c2 _ hm2 hl2 hr2).mono ?_; rintro e w3 ⟨v3, rfl, ⟨A3, c3, rfl, hl3, hm3, hr3⟩, hb3⟩
  have hr2' := hr2.later hb3
  go_wp2_with fail
  refine (wk4 A2 c2 _ hm2 hl2 hr2').mono ?_; rintro e w4 ⟨v4, rfl, ⟨A4, c4, rfl, hl4, hm4, hr4⟩, hb4⟩
  have hq5 := balloc hb4 (.cells #[.int .i64 1, .int .i64 2, .string ⟨#[97]⟩] 53)
  unfold flightV
  go_wp2_with fail
  refine (wk5 A2 c2 _ hm2 hl2 (hr2'.later hq5)).mono ?_; rintro e w5 ⟨v5, rfl, ⟨A5, c5, rfl, hl5, hm5, hr5⟩, hb5⟩
  have hx2 : w5.cell? ⟨w4.heap.size, 2, none⟩ = some (.string ⟨#[97]⟩) := cell_later hb5 (by rw [World.cell?_alloc_new]; rfl)
  have hq6 := bt hq5 hb5
  go_wp2_with fail
  refine (wk6 A2 c2 _ hm2 hl2 (hr2'.later hq6)).mono ?_; rintro e w6 ⟨v6, rfl, ⟨A6, c6, rfl, hl6, hm6, hr6⟩, hb6⟩
  have hq7 := balloc hb6 (.cells #[.int .i64 0, .int .i64 0, .string ⟨#[]⟩] 53)
  unfold flightV noFlight
  go_wp2_with fail
  refine (wk7 A2 c2 _ hm2 hl2 (hr2'.later (bt hq6 hq7))).mono ?_; rintro e w7 ⟨rfl, hb7⟩
  have hq8 := bt hq7 hb7
  go_wp2_with fail
  refine (wk8 A2 c2 _ hm2 hl2 (hr2'.later (bt hq6 hq8))).mono ?_; rintro e w8 ⟨rfl, hb8⟩
  have hq9 := bt hq8 hb8
  have hx3 := cell_later hq9 hx2
  go_wp2_with fail
  refine (wk9 A5 c5 _ hm5 hl5 (hr5.later hq9)).mono ?_; rintro e w9 ⟨v9, rfl, hown9, hb9⟩
  obtain ⟨A9, c9, rfl⟩ := own_form hown9 (by simp)
  have hown9' : w9.ownsRow w8.heap.size 3 1 (.slice A9 2 c9) 2 (intE.flat [1, 2]) := hown9
  have hs9 := Sl.of_own (E := intE) (xs := [1, 2]) hown9'
  obtain ⟨A9', c9', hv9, hl9, hm9, hr9⟩ := hs9
  injection hv9 with e1 _ e2
  subst e1 e2
  have hb10 := balloc (Below.refl w9.heap.size w9) (.cells #[.int .i64 1, .int .i64 2] 3)
  go_wp2_with fail
  refine (wk13 A9 c9 _ w9.heap.size hm9 hl9 (hr9.later hb10) (Row.new w9 [.int .i64 1, .int .i64 2] 3)).mono ?_; rintro e w10 ⟨rfl, hb11⟩
  have hq12 := bt hq9 (bt hb9 (bt hb10 hb11))
  have hr12 := hr2'.later (bt hq6 hq12)
  obtain ⟨ad, rfl, hy0, hy1, hy2⟩ := flight_at hr12 (show 0 < [wa, wb].length from by decide)
  change w10.cell? (ad.add (0 * 3)) = some (.int .i64 1) at hy0
  change w10.cell? ⟨(ad.add (0 * 3)).block, (ad.add (0 * 3)).off + 1, none⟩ = some (.int .i64 2) at hy1
  change w10.cell? ⟨(ad.add (0 * 3)).block, (ad.add (0 * 3)).off + 2, none⟩ = some (.string ⟨#[97]⟩) at hy2
  have ha0 : ad.add (0 * 3) = ad := by simp [Addr.add]
  rw [ha0] at hy0 hy1 hy2
  go_wp2_with fail
  refine (wk10 _).mono ?_; rintro e w11 ⟨rfl, hb13⟩
  have hz0 := cell_later hb13 hy0
  have hz1 := cell_later hb13 hy1
  have hz2 := cell_later hb13 hy2
  go_wp2_with fail
  refine (wk11 _).mono ?_; rintro e w12 ⟨rfl, hb14⟩
  go_wp2_with fail
  refine (wk12 (some ad) c2 _ hm2 hl2 (hr12.later (bt hb13 hb14))).mono ?_; rintro e w13 ⟨rfl, hb15⟩
  go_wp2
  go_ret
  exact ⟨rfl, bt hb1 (bt hb2 (bt hb3 (bt hq6 (bt hq12 (bt hb13 (bt hb14 hb15))))))⟩
end Go.Proofs.Ytnebacomafgjjaa
