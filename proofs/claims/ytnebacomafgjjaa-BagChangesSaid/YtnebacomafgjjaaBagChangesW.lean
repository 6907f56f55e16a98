/- The law BagChanges, walked. -/
import Derived.Test.YtnebacomafgjjaaBagAwake2
namespace Go.Proofs.Ytnebacomafgjjaa
open Go.RowKit
theorem sendL_len (l : List Flight) (f : Flight) : (sendL l f).length ≤ l.length + 1 := by
  unfold sendL
  split <;> simp
theorem takeL_len (l : List Flight) (k : Int) : (takeL l k).length ≤ l.length := by
  unfold takeL
  split
  · rw [List.length_append, List.length_take, List.length_drop]; omega
  · simp
theorem copyL_len (l : List Flight) (k : Int) : (copyL l k).length ≤ l.length + 1 := by
  unfold copyL
  split
  · exact sendL_len _ _
  · simp
theorem few_len {l : List Flight} (h : fewB l = true) : l.length ≤ 200 := by
  unfold fewB at h
  rw [Bool.and_eq_true, decide_eq_true_iff] at h
  exact h.1
set_option maxRecDepth 100000 in
set_option maxHeartbeats 8000000 in
theorem bagchanges_any (A : Option Addr) (c : Nat) (l : List Flight) (f : Flight) (k : Int) (w : World) (hm : c ≤ maxLen) (hl : l.length ≤ c) (hx : Row w A (flightE.flat l)) :
    Calls Try.prog 8 #[.slice A l.length c, flightV f, .int .i64 k] w fun e w' => e = .returned (.bool true) ∧ Below w.heap.size w w' := by
  have hb0 := balloc (Below.refl w.heap.size w) (.cells #[.int .i64 f.From, .int .i64 f.To, .string f.Data] 53)
  have HF := Lib.hid (fun W hb => few_any A c l W hm hl (hx.later (wx := W) hb))
  have HX := Lib.hid (fun W hb => hx.later (wx := W) hb)
  have HBX : Hid (∀ W, Below (w.alloc (.cells #[.int .i64 f.From, .int .i64 f.To, .string f.Data] 53)).heap.size (w.alloc (.cells #[.int .i64 f.From, .int .i64 f.To, .string f.Data] 53)) W → W.cell? ⟨w.heap.size, 0, none⟩ = some (.int .i64 f.From) ∧ W.cell? ⟨w.heap.size, 1, none⟩ = some (.int .i64 f.To) ∧ W.cell? ⟨w.heap.size, 2, none⟩ = some (.string f.Data)) := Lib.hid (fun W hb => ⟨cell_later hb (by rw [World.cell?_alloc_new]; rfl), cell_later hb (by rw [World.cell?_alloc_new]; rfl), cell_later hb (by rw [World.cell?_alloc_new]; rfl)⟩)
  unfold flightV
  cases hf : fewB l
  · rw [hf] at HF
    go_enter Try.func8, Try.ntmps8
    go_wp2_with fail
    refine (HF.out _ hb0).mono ?_; rintro e w1 ⟨rfl, hb1⟩
    go_wp2_with fail
    refine (awake14_any _).mono ?_; rintro e w2 ⟨rfl, hb2⟩
    go_wp2
    go_ret
    exact ⟨rfl, bt hb0 (bt hb1 hb2)⟩
  · rw [hf] at HF
    have hlen := few_len hf
    by_cases hd : 30000 < f.Data.size
    · go_enter Try.func8, Try.ntmps8
      go_wp2_with fail
      refine (HF.out _ hb0).mono ?_; rintro e w1 ⟨rfl, hb1⟩
      obtain ⟨hc0, hc1, hc2⟩ := HBX.out _ hb1
      go_wp2_with fail
      refine (awake14_any _).mono ?_; rintro e w2 ⟨rfl, hb2⟩
      go_wp2
      go_ret
      exact ⟨rfl, bt hb0 (bt hb1 hb2)⟩
    · have HS := Lib.hid (fun W hb => send_any A c l f W hm hl (HX.out W hb))
      have HAL := Lib.hid (fun W hb => all14_any A c l W hm hl (HX.out W hb) (by omega))
      have HOF := Lib.hid (fun W => of14_any f W)
      have HTK := Lib.hid (fun W hb => take_any A c l k W hm hl (HX.out W hb))
      have HCP := Lib.hid (fun W hb => copy_any A c l k W hm hl (HX.out W hb))
      have HRS := Lib.hid (fun A' c' W h1 h2 h3 => refsend_any A' c' l f W h1 h2 h3)
      have HRT := Lib.hid (fun A' c' W h1 h2 h3 => reftake_any A' c' l k W h1 h2 h3)
      have HRC := Lib.hid (fun A' c' W h1 h2 h3 => refcopy_any A' c' l k W h1 h2 h3)
      have hls := sendL_len l f
      have hlt := takeL_len l k
      have hlc := copyL_len l k
      have HALS := Lib.hid (fun A' c' W h1 h2 h3 => all14_any A' c' (sendL l f) W h1 h2 h3 (by omega))
      have HALT := Lib.hid (fun A' c' W h1 h2 h3 => all14_any A' c' (takeL l k) W h1 h2 h3 (by omega))
      have HALC := Lib.hid (fun A' c' W h1 h2 h3 => all14_any A' c' (copyL l k) W h1 h2 h3 (by omega))
      have HOT := Lib.hid (fun W => of14_any (takeF l k) W)
      unfold TakeP at HTK HRT
      unfold flightV at HS HOF HRS HTK HRT HOT
      clear hls hlt hlc
      generalize sendL l f = sl at *
      generalize sendE l f = se at *
      generalize takeL l k = tl at *
      generalize thereE l k = te at *
      generalize copyL l k = cl at *
      generalize copyE l k = ce at *
      generalize (takeF l k).From = t0 at *
      generalize (takeF l k).To = t1 at *
      generalize (takeF l k).Data = t2 at *
      go_enter Try.func8, Try.ntmps8
      go_wp2_with fail
      refine (HF.out _ hb0).mono ?_; rintro e w1 ⟨rfl, hb1⟩
      obtain ⟨hc0, hc1, hc2⟩ := HBX.out _ hb1
      go_wp2_with fail
      refine (HS.out _ (bt hb0 hb1)).mono ?_; rintro e w2 ⟨v2, rfl, ⟨A2, c2, rfl, hl2, hm2, hr2⟩, hb2⟩
      have HB2 := Lib.hid (bt hb0 (bt hb1 hb2))
      have SK : Hid (∀ W, Below w2.heap.size w2 W → W.cell? ⟨w.heap.size, 0, none⟩ = some (.int .i64 f.From) ∧ W.cell? ⟨w.heap.size, 1, none⟩ = some (.int .i64 f.To) ∧ W.cell? ⟨w.heap.size, 2, none⟩ = some (.string f.Data) ∧ Below w2.heap.size w2 W) := Lib.hid (fun W hb => ⟨cell_later (bt hb2 hb) hc0, cell_later (bt hb2 hb) hc1, cell_later (bt hb2 hb) hc2, hb⟩)
      go_wp2_with fail
      clear hc0 hc1 hc2
      have hk0 := SK.out _ (bdrew (a := w2))
      go_region_held3 (fun W => W.cell? ⟨w.heap.size, 0, none⟩ = some (.int .i64 f.From) ∧ W.cell? ⟨w.heap.size, 1, none⟩ = some (.int .i64 f.To) ∧ W.cell? ⟨w.heap.size, 2, none⟩ = some (.string f.Data) ∧ Below w2.heap.size w2 W) (first | assumption) (first | (go_at_call 34; refine (HAL.out _ (bt HB2.out (And.right (And.right (And.right (by assumption)))))).mono ?_; rintro e w3 ⟨v3, rfl, hown3, hb3⟩; obtain ⟨A3, c3, rfl, hl3, hm3, hr3⟩ := Sl.of_own hown3; have hk3 := SK.out w3 (bt (And.right (And.right (And.right (by assumption)))) hb3)) | (go_at_call 35; refine (HOF.out _).mono ?_; rintro e w4 ⟨rfl, hb4⟩; have hk4 := SK.out w4 (bt (And.right (And.right (And.right (by assumption)))) hb4)) | (go_at_call 33; refine (HRS.out _ _ _ hm3 hl3 (hr3.later hb4)).mono ?_; rintro e w5 ⟨v5, rfl, ⟨A5, c5, rfl, hl5, hm5, hr5⟩, hb5⟩; have hk5 := SK.out w5 (bt (And.right (And.right (And.right (by assumption)))) hb5)) | fail)
      have hb6 : Below w2.heap.size w2 w5 := hk5.2.2.2
      have HB5 := Lib.hid (bt HB2.out hb6)
      clear hk0 hk3 hk4 hk5 SK
      go_wp2_with fail
      refine (HTK.out _ HB5.out).mono ?_; rintro e w6 ⟨v6, rfl, ⟨A6, c6, rfl, hl6, hm6, hr6⟩, hb7⟩
      have hb8 := balloc hb7 (.cells #[.int .i64 t0, .int .i64 t1, .string t2] 53)
      have HB6 := Lib.hid (bt HB5.out hb8)
      have HC6 : Hid (∀ W, Below (w6.alloc (.cells #[.int .i64 t0, .int .i64 t1, .string t2] 53)).heap.size (w6.alloc (.cells #[.int .i64 t0, .int .i64 t1, .string t2] 53)) W → W.cell? ⟨w6.heap.size, 0, none⟩ = some (.int .i64 t0) ∧ W.cell? ⟨w6.heap.size, 1, none⟩ = some (.int .i64 t1) ∧ W.cell? ⟨w6.heap.size, 2, none⟩ = some (.string t2)) := Lib.hid (fun W hb => ⟨cell_later hb (by rw [World.cell?_alloc_new]; rfl), cell_later hb (by rw [World.cell?_alloc_new]; rfl), cell_later hb (by rw [World.cell?_alloc_new]; rfl)⟩)
      go_wp2_with fail
      refine (HAL.out _ HB6.out).mono ?_; rintro e w7 ⟨v7, rfl, hown7, hb9⟩
      obtain ⟨A7, c7, rfl, hl7, hm7, hr7⟩ := Sl.of_own hown7
      go_wp2_with fail
      refine (HRT.out _ _ _ hm7 hl7 hr7).mono ?_; rintro e w8 ⟨v8, rfl, ⟨A8, c8, rfl, hl8, hm8, hr8⟩, hb10⟩
      have hb11 := balloc hb10 (.cells #[.int .i64 t0, .int .i64 t1, .string t2] 61)
      have hb12 := bt hb9 hb11
      have HC8 : Hid (∀ W, Below (w8.alloc (.cells #[.int .i64 t0, .int .i64 t1, .string t2] 61)).heap.size (w8.alloc (.cells #[.int .i64 t0, .int .i64 t1, .string t2] 61)) W → W.cell? ⟨w8.heap.size, 0, none⟩ = some (.int .i64 t0) ∧ W.cell? ⟨w8.heap.size, 1, none⟩ = some (.int .i64 t1) ∧ W.cell? ⟨w8.heap.size, 2, none⟩ = some (.string t2)) := Lib.hid (fun W hb => ⟨cell_later hb (by rw [World.cell?_alloc_new]; rfl), cell_later hb (by rw [World.cell?_alloc_new]; rfl), cell_later hb (by rw [World.cell?_alloc_new]; rfl)⟩)
      go_wp2_with fail
      refine (HCP.out _ (bt HB6.out hb12)).mono ?_; rintro e w9 ⟨v9, rfl, ⟨A9, c9, rfl, hl9, hm9, hr9⟩, hb13⟩
      go_wp2_with fail
      refine (HAL.out _ (bt HB6.out (bt hb12 hb13))).mono ?_; rintro e w10 ⟨v10, rfl, hown10, hb14⟩
      obtain ⟨A10, c10, rfl, hl10, hm10, hr10⟩ := Sl.of_own hown10
      go_wp2_with fail
      refine (HRC.out _ _ _ hm10 hl10 hr10).mono ?_; rintro e w11 ⟨v11, rfl, ⟨A11, c11, rfl, hl11, hm11, hr11⟩, hb15⟩
      have hb16 := bt hb13 (bt hb14 hb15)
      have hb17 := bt hb12 hb16
      have h1711 := bt hb8 hb17
      have HCK := Lib.hid (fun W hb => bagcheck_any A c l W hm hl (HX.out W (bt (bt HB6.out hb17) hb)))
      have HALX := Lib.hid (fun W hb => HAL.out W (bt (bt HB6.out hb17) hb))
      have HRCK := Lib.hid (fun A' c' W h1 h2 h3 => refbagcheck_any A' c' l W h1 h2 h3)
      have HA2 := Lib.hid (fun W hb => HALS.out A2 c2 W hm2 hl2 (hr2.later (bt (bt hb6 h1711) hb)))
      have HA6 := Lib.hid (fun W hb => HALT.out A6 c6 W hm6 hl6 (hr6.later (bt (bt (balloc (Below.refl _ _) (.cells #[.int .i64 t0, .int .i64 t1, .string t2] 53)) hb17) hb)))
      have HA9 := Lib.hid (fun W hb => HALC.out A9 c9 W hm9 hl9 (hr9.later (bt (bt hb14 hb15) hb)))
      have HS2 : Hid (∀ A' c' (W : World), c' ≤ maxLen → sl.length ≤ c' → Row W A' (flightE.flat sl) → Below w11.heap.size w11 W → Calls Try.prog 42 #[.slice A' sl.length c', .slice A5 sl.length c5] W fun e w' => e = .returned (.bool true) ∧ Below W.heap.size W w') := Lib.hid (fun A' c' W h1 h2 h3 hb => by have h := refsame14_any A' A5 c' c5 sl sl W h1 hm5 h2 hl5 h3 (hr5.later (bt h1711 hb)); rw [decide_eq_true rfl] at h; exact h)
      have HS6 : Hid (∀ A' c' (W : World), c' ≤ maxLen → tl.length ≤ c' → Row W A' (flightE.flat tl) → Below w11.heap.size w11 W → Calls Try.prog 42 #[.slice A' tl.length c', .slice A8 tl.length c8] W fun e w' => e = .returned (.bool true) ∧ Below W.heap.size W w') := Lib.hid (fun A' c' W h1 h2 h3 hb => by have h := refsame14_any A' A8 c' c8 tl tl W h1 hm8 h2 hl8 h3 (hr8.later (bt (bt (balloc (Below.refl _ _) (.cells #[.int .i64 t0, .int .i64 t1, .string t2] 61)) hb16) hb)); rw [decide_eq_true rfl] at h; exact h)
      have HS9 : Hid (∀ A' c' (W : World), c' ≤ maxLen → cl.length ≤ c' → Row W A' (flightE.flat cl) → Below w11.heap.size w11 W → Calls Try.prog 42 #[.slice A' cl.length c', .slice A11 cl.length c11] W fun e w' => e = .returned (.bool true) ∧ Below W.heap.size W w') := Lib.hid (fun A' c' W h1 h2 h3 hb => by have h := refsame14_any A' A11 c' c11 cl cl W h1 hm11 h2 hl11 h3 (hr11.later hb); rw [decide_eq_true rfl] at h; exact h)
      have SW : Hid (∀ W : World, Below w11.heap.size w11 W → W.cell? ⟨w6.heap.size, 0, none⟩ = some (.int .i64 t0) ∧ W.cell? ⟨w6.heap.size, 1, none⟩ = some (.int .i64 t1) ∧ W.cell? ⟨w6.heap.size, 2, none⟩ = some (.string t2) ∧ W.cell? ⟨w8.heap.size, 0, none⟩ = some (.int .i64 t0) ∧ W.cell? ⟨w8.heap.size, 1, none⟩ = some (.int .i64 t1) ∧ W.cell? ⟨w8.heap.size, 2, none⟩ = some (.string t2) ∧ Below w11.heap.size w11 W) := Lib.hid (fun W hb => by
        obtain ⟨p0, p1, p2⟩ := HC6.out W (bt hb17 hb)
        obtain ⟨p3, p4, p5⟩ := HC8.out W (bt hb16 hb)
        exact ⟨p0, p1, p2, p3, p4, p5, hb⟩)
      have SB : Hid (∀ W : World, (W.cell? ⟨w6.heap.size, 0, none⟩ = some (.int .i64 t0) ∧ W.cell? ⟨w6.heap.size, 1, none⟩ = some (.int .i64 t1) ∧ W.cell? ⟨w6.heap.size, 2, none⟩ = some (.string t2) ∧ W.cell? ⟨w8.heap.size, 0, none⟩ = some (.int .i64 t0) ∧ W.cell? ⟨w8.heap.size, 1, none⟩ = some (.int .i64 t1) ∧ W.cell? ⟨w8.heap.size, 2, none⟩ = some (.string t2) ∧ Below w11.heap.size w11 W) → Below w11.heap.size w11 W) := Lib.hid (fun W h => h.2.2.2.2.2.2)
      have SK : Hid (∀ W W' : World, (W.cell? ⟨w6.heap.size, 0, none⟩ = some (.int .i64 t0) ∧ W.cell? ⟨w6.heap.size, 1, none⟩ = some (.int .i64 t1) ∧ W.cell? ⟨w6.heap.size, 2, none⟩ = some (.string t2) ∧ W.cell? ⟨w8.heap.size, 0, none⟩ = some (.int .i64 t0) ∧ W.cell? ⟨w8.heap.size, 1, none⟩ = some (.int .i64 t1) ∧ W.cell? ⟨w8.heap.size, 2, none⟩ = some (.string t2) ∧ Below w11.heap.size w11 W) → Below W.heap.size W W' → W'.cell? ⟨w6.heap.size, 0, none⟩ = some (.int .i64 t0) ∧ W'.cell? ⟨w6.heap.size, 1, none⟩ = some (.int .i64 t1) ∧ W'.cell? ⟨w6.heap.size, 2, none⟩ = some (.string t2) ∧ W'.cell? ⟨w8.heap.size, 0, none⟩ = some (.int .i64 t0) ∧ W'.cell? ⟨w8.heap.size, 1, none⟩ = some (.int .i64 t1) ∧ W'.cell? ⟨w8.heap.size, 2, none⟩ = some (.string t2) ∧ Below w11.heap.size w11 W') := Lib.hid (fun W W' h hb => SW.out W' (bt h.2.2.2.2.2.2 hb))
      have HFIN := Lib.hid (bt (bt HB6.out hb17) (Below.refl w11.heap.size w11))
      have q0 : (t0 == t0) = true := by simp
      have q1 : (t1 == t1) = true := by simp
      have q2 := bytes_same t2
      have q3 : (t2.toList == t2.toList) = true := by simp
      have e1 : (se == se) = true := by simp
      have e2 : (te == te) = true := by simp
      have e3 : (ce == ce) = true := by simp
      have e4 : (bagE l == bagE l) = true := by simp
      generalize bagE l = be at *
      clear hb6 hb7 hb8 hb9 hb10 hb11 hb12 hb13 hb14 hb15 hb16 hb17 h1711 hr2 hr5 hr6 hr7 hr8 hr9 hr10 hr11 hown7 hown10
      go_wp2_with fail
      have hk0 := SW.out _ (bdrew (a := w11))
      go_region_held3 (fun W => W.cell? ⟨w6.heap.size, 0, none⟩ = some (.int .i64 t0) ∧ W.cell? ⟨w6.heap.size, 1, none⟩ = some (.int .i64 t1) ∧ W.cell? ⟨w6.heap.size, 2, none⟩ = some (.string t2) ∧ W.cell? ⟨w8.heap.size, 0, none⟩ = some (.int .i64 t0) ∧ W.cell? ⟨w8.heap.size, 1, none⟩ = some (.int .i64 t1) ∧ W.cell? ⟨w8.heap.size, 2, none⟩ = some (.string t2) ∧ Below w11.heap.size w11 W) (assumption) (first | (go_at_call 40; refine (HCK.out _ (SB.out _ (by assumption))).mono ?_; rintro e w20 ⟨rfl, hb20⟩; have hk20 := SK.out _ w20 (by assumption) hb20) | (go_at_call_of 34 (Value.slice A l.length c); refine (HALX.out _ (SB.out _ (by assumption))).mono ?_; rintro e w21 ⟨v21, rfl, hown21, hb21⟩; obtain ⟨A21, c21, rfl, hl21, hm21, hr21⟩ := Sl.of_own hown21; have hk21 := SK.out _ w21 (by assumption) hb21) | (go_at_call 41; refine (HRCK.out _ _ _ hm21 hl21 hr21).mono ?_; rintro e w22 ⟨rfl, hb22⟩; have hk22 := SK.out _ w22 (by assumption) hb22) | (go_at_call_of 34 (Value.slice A2 sl.length c2); refine (HA2.out _ (SB.out _ (by assumption))).mono ?_; rintro e w23 ⟨v23, rfl, hown23, hb23⟩; obtain ⟨A23, c23, rfl, hl23, hm23, hr23⟩ := Sl.of_own hown23; have hk23 := SK.out _ w23 (by assumption) hb23) | (go_at_call_of 42 (Value.slice A5 sl.length c5); refine (HS2.out _ _ _ hm23 hl23 hr23 (SB.out _ (by assumption))).mono ?_; rintro e w24 ⟨rfl, hb24⟩; have hk24 := SK.out _ w24 (by assumption) hb24) | (go_at_call 35; refine (HOT.out _).mono ?_; rintro e w25 ⟨rfl, hb25⟩; have hk25 := SK.out _ w25 (by assumption) hb25) | (go_at_call_of 34 (Value.slice A6 tl.length c6); refine (HA6.out _ (SB.out _ (by assumption))).mono ?_; rintro e w26 ⟨v26, rfl, hown26, hb26⟩; obtain ⟨A26, c26, rfl, hl26, hm26, hr26⟩ := Sl.of_own hown26; have hk26 := SK.out _ w26 (by assumption) hb26) | (go_at_call_of 42 (Value.slice A8 tl.length c8); refine (HS6.out _ _ _ hm26 hl26 hr26 (SB.out _ (by assumption))).mono ?_; rintro e w27 ⟨rfl, hb27⟩; have hk27 := SK.out _ w27 (by assumption) hb27) | (go_at_call_of 34 (Value.slice A9 cl.length c9); refine (HA9.out _ (SB.out _ (by assumption))).mono ?_; rintro e w28 ⟨v28, rfl, hown28, hb28⟩; obtain ⟨A28, c28, rfl, hl28, hm28, hr28⟩ := Sl.of_own hown28; have hk28 := SK.out _ w28 (by assumption) hb28) | (go_at_call_of 42 (Value.slice A11 cl.length c11); refine (HS9.out _ _ _ hm28 hl28 hr28 (SB.out _ (by assumption))).mono ?_; rintro e w29 ⟨rfl, hb29⟩; have hk29 := SK.out _ w29 (by assumption) hb29) | (go_at_call 31; refine (awake14_any _).mono ?_; rintro e w30 ⟨rfl, hb30⟩; have hk30 := SK.out _ w30 (by assumption) hb30) | fail)
      go_wp2_with fail
      go_ret
      exact ⟨rfl, bt HFIN.out (SB.out _ (by assumption))⟩
end Go.Proofs.Ytnebacomafgjjaa
