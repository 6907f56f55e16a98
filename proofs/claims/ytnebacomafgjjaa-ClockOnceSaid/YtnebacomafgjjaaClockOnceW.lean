/- The law ClockOnce, walked. -/
import Derived.Test.YtnebacomafgjjaaClockOnceP
import Derived.Test.YtnebacomafgjjaaClockAwake
import Derived.Deep.RegionHeld3
namespace Go.Proofs.Ytnebacomafgjjaa
open Go.RowKit
structure Pair where
  P : Int
  Q : Int
deriving DecidableEq
def pairE : Enc Pair := { size := 2, cells := fun a => [.int .i64 a.P, .int .i64 a.Q], len := fun _ => rfl, pos := by omega }
theorem pair_at {w : World} {A : Option Addr} {xs : List Pair} {k : Nat} (h : Row w A (pairE.flat xs)) (hk : k < xs.length) :
    ∃ ad, A = some ad ∧ w.cell? (ad.add (k * 2)) = some (.int .i64 (xs[k]'hk).P) ∧ w.cell? ⟨(ad.add (k * 2)).block, (ad.add (k * 2)).off + 1, none⟩ = some (.int .i64 (xs[k]'hk).Q) := by
  have hx : xs[k]? = some (xs[k]'hk) := List.getElem?_eq_getElem hk
  obtain ⟨ad, e, h0⟩ := h _ _ (pairE.flat_at xs k _ 0 _ hx rfl)
  obtain ⟨ad', e', h1⟩ := h _ _ (pairE.flat_at xs k _ 1 _ hx rfl)
  obtain rfl : ad = ad' := by rw [e] at e'; injection e'
  exact ⟨ad, e, h0, by rw [← add_far ad (k * 2) 0]; exact h1⟩
set_option maxRecDepth 100000 in
set_option maxHeartbeats 8000000 in
theorem clockonce_any (A : Option Addr) (c : Nat) (l : List Pair) (w : World) (hm : c ≤ maxLen) (hl : l.length ≤ c) (hx : Row w A (pairE.flat l)) :
    Calls Try.prog 7 #[.slice A l.length c] w fun e w' => e = .returned (.bool true) ∧ Below w.heap.size w w' := by
  unfold maxLen at hm
  by_cases hbig : 60 < l.length
  · go_enter Try.func7, Try.ntmps7
    go_wp2_with fail
    refine (awake15_any _).mono ?_; rintro e w1 ⟨rfl, hb1⟩
    go_wp2_with fail
    go_ret
    exact ⟨rfl, hb1⟩
  · go_enter Try.func7, Try.ntmps7
    go_wp2_with fail
    go_loopw [3, 4, 5] (fun n v i wr => ∃ (k : Nat) (now : Int) (L : List Att), k ≤ l.length ∧ L.length ≤ k ∧ n = .int .i64 now ∧ Sl attE wr v L ∧ i = .int .i64 k ∧ clockOk now 0 L = true ∧ Below w.heap.size w wr) (fun _ _ i _ => l.length - (intOf i).toNat)
    case atStart => exact ⟨0, 0, [], by omega, by simp, rfl, Sl.nil _, rfl, by decide +kernel, Below.refl _ _⟩
    case round =>
      obtain ⟨k, now, L, hk, hLk, rfl, ⟨A1, c1, rfl, hl1, hm1, hr1⟩, rfl, hok, hb⟩ := hrel
      have HOK := Lib.hid hok
      obtain ⟨hn0, hn1⟩ := (clockOk_parts hok).1
      clear hok
      by_cases hlt : k < l.length
      · obtain ⟨ad, rfl, hx0, hx1⟩ := pair_at (hx.later hb) hlt
        generalize l[k] = a at hx0 hx1
        obtain ⟨P, Q⟩ := a
        simp only at hx0 hx1
        by_cases hP : P = 0
        · subst hP
          have HB := Lib.hid (clockOk_bump (t := min Q 200) HOK.out)
          by_cases hQ : 200 < Q
          · rw [Int.min_eq_right (by omega)] at HB
            go_wp2_with fail
            refine (bump_any _ _ _).mono ?_; rintro e w' ⟨rfl, rfl⟩
            generalize bumpI now 200 = now' at HB
            go_wp2_with fail
            go_roundw
            case rel => exact ⟨k + 1, now', L, by omega, by omega, rfl, ⟨A1, c1, rfl, hl1, hm1, hr1⟩, by go_num, HB.out, hb⟩
            case measure => simp [intOf]; omega
          · rw [Int.min_eq_left (by omega)] at HB
            go_wp2_with fail
            refine (bump_any _ _ _).mono ?_; rintro e w' ⟨rfl, rfl⟩
            generalize bumpI now Q = now' at HB
            go_wp2_with fail
            go_roundw
            case rel => exact ⟨k + 1, now', L, by omega, by omega, rfl, ⟨A1, c1, rfl, hl1, hm1, hr1⟩, by go_num, HB.out, hb⟩
            case measure => simp [intOf]; omega
        · have hP' : (P == 0) = false := beq_eq_false_iff_ne.2 hP
          clear hP
          have H0 := Lib.hid (fun q W hb => propose_any now A1 c1 L P q W hm1 hl1 (hr1.later (wx := W) hb) (by omega))
          have HOKP := Lib.hid (fun q (h : propE now L P q = 0) => clockOk_prop h)
          have HLEN := Lib.hid (fun q => propL_len now L P q)
          by_cases hQ : 200 < Q
          · go_wp2_with fail
            have hk0 : wr.drew.cell? (ad.add (k * 2)) = some (.int .i64 P) ∧ wr.drew.cell? ⟨(ad.add (k * 2)).block, (ad.add (k * 2)).off + 1, none⟩ = some (.int .i64 Q) ∧ Below wr.heap.size wr wr.drew := ⟨hx0, hx1, bdrew⟩
            go_region_held3 (fun W => W.cell? (ad.add (k * 2)) = some (.int .i64 P) ∧ W.cell? ⟨(ad.add (k * 2)).block, (ad.add (k * 2)).off + 1, none⟩ = some (.int .i64 Q) ∧ Below wr.heap.size wr W) (assumption) (first | (go_at_call 23; refine (H0.out 200 _ (And.right (And.right (by assumption)))).mono ?_; rintro e w2 ⟨v2, rfl, ⟨A2, c2, rfl, hl2, hm2, hr2⟩, hb2⟩; have hk2 : w2.cell? (ad.add (k * 2)) = some (.int .i64 P) ∧ w2.cell? ⟨(ad.add (k * 2)).block, (ad.add (k * 2)).off + 1, none⟩ = some (.int .i64 Q) ∧ Below wr.heap.size wr w2 := ⟨cell_later (bt bdrew hb2) hx0, cell_later (bt bdrew hb2) hx1, bt bdrew hb2⟩))
            have HOKQ := Lib.hid (HOKP.out 200)
            have HLQ := Lib.hid (HLEN.out 200)
            by_cases hE : propE now L P 200 = 0
            · have HN := Lib.hid (HOKQ.out hE)
              have hl9 := HLQ.out
              rw [hE]
              have hr9 := hr2
              generalize propT now L P 200 = now2 at HN
              generalize propL now L P 200 = L2 at HN hl2 hr2 hl9
              have HC := Lib.hid (fun W hb => clockcheck_any now2 0 A2 c2 L2 W hm2 hl2 (hr2.later (wx := W) hb))
              rw [HN.out] at HC
              clear HOKQ HLQ hE HOKP HLEN H0
              go_wp2_with fail
              refine (HC.out _ (Below.refl _ _)).mono ?_; rintro e w3 ⟨rfl, hb3⟩
              go_wp2_with fail
              go_roundw
              case rel => exact ⟨k + 1, now2, L2, by omega, by omega, rfl, ⟨A2, c2, rfl, hl2, hm2, hr2.later hb3⟩, by go_num, HN.out, bt hb (bt bdrew (bt hb2 hb3))⟩
              case measure => simp [intOf]; omega
            · have hE' : (propE now L P 200 == 0) = false := beq_eq_false_iff_ne.2 hE
              have HC := Lib.hid (fun W hb => clockcheck_any now 0 A1 c1 L W hm1 hl1 (hr1.later (wx := W) hb))
              rw [HOK.out] at HC
              clear HOKQ HLQ hE HOKP HLEN H0
              generalize propT now L P 200 = now2
              generalize propE now L P 200 = E2 at hE'
              go_wp2_with fail
              refine (HC.out _ (bt bdrew hb2)).mono ?_; rintro e w3 ⟨rfl, hb3⟩
              go_wp2_with fail
              go_roundw
              case rel => exact ⟨k + 1, now, L, by omega, by omega, rfl, ⟨A1, c1, rfl, hl1, hm1, hr1.later (bt bdrew (bt hb2 hb3))⟩, by go_num, HOK.out, bt hb (bt bdrew (bt hb2 hb3))⟩
              case measure => simp [intOf]; omega
          · have HQ := Lib.hid hQ
            go_wp2_with fail
            have hQ3 : ¬ 200 < Q := by have := HQ.out; omega
            have hk0 : wr.drew.cell? (ad.add (k * 2)) = some (.int .i64 P) ∧ wr.drew.cell? ⟨(ad.add (k * 2)).block, (ad.add (k * 2)).off + 1, none⟩ = some (.int .i64 Q) ∧ Below wr.heap.size wr wr.drew := ⟨hx0, hx1, bdrew⟩
            go_region_held3 (fun W => W.cell? (ad.add (k * 2)) = some (.int .i64 P) ∧ W.cell? ⟨(ad.add (k * 2)).block, (ad.add (k * 2)).off + 1, none⟩ = some (.int .i64 Q) ∧ Below wr.heap.size wr W) (assumption) (first | (go_at_call 23; refine (H0.out Q _ (And.right (And.right (by assumption)))).mono ?_; rintro e w2 ⟨v2, rfl, ⟨A2, c2, rfl, hl2, hm2, hr2⟩, hb2⟩; have hk2 : w2.cell? (ad.add (k * 2)) = some (.int .i64 P) ∧ w2.cell? ⟨(ad.add (k * 2)).block, (ad.add (k * 2)).off + 1, none⟩ = some (.int .i64 Q) ∧ Below wr.heap.size wr w2 := ⟨cell_later (bt bdrew hb2) hx0, cell_later (bt bdrew hb2) hx1, bt bdrew hb2⟩))
            have HOKQ := Lib.hid (HOKP.out Q)
            have HLQ := Lib.hid (HLEN.out Q)
            by_cases hE : propE now L P Q = 0
            · have HN := Lib.hid (HOKQ.out hE)
              have hl9 := HLQ.out
              rw [hE]
              have hr9 := hr2
              generalize propT now L P Q = now2 at HN
              generalize propL now L P Q = L2 at HN hl2 hr2 hl9
              have HC := Lib.hid (fun W hb => clockcheck_any now2 0 A2 c2 L2 W hm2 hl2 (hr2.later (wx := W) hb))
              rw [HN.out] at HC
              clear HOKQ HLQ hE HOKP HLEN H0
              go_wp2_with fail
              refine (HC.out _ (Below.refl _ _)).mono ?_; rintro e w3 ⟨rfl, hb3⟩
              go_wp2_with fail
              go_roundw
              case rel => exact ⟨k + 1, now2, L2, by omega, by omega, rfl, ⟨A2, c2, rfl, hl2, hm2, hr2.later hb3⟩, by go_num, HN.out, bt hb (bt bdrew (bt hb2 hb3))⟩
              case measure => simp [intOf]; omega
            · have hE' : (propE now L P Q == 0) = false := beq_eq_false_iff_ne.2 hE
              have HC := Lib.hid (fun W hb => clockcheck_any now 0 A1 c1 L W hm1 hl1 (hr1.later (wx := W) hb))
              rw [HOK.out] at HC
              clear HOKQ HLQ hE HOKP HLEN H0
              generalize propT now L P Q = now2
              generalize propE now L P Q = E2 at hE'
              go_wp2_with fail
              refine (HC.out _ (bt bdrew hb2)).mono ?_; rintro e w3 ⟨rfl, hb3⟩
              go_wp2_with fail
              go_roundw
              case rel => exact ⟨k + 1, now, L, by omega, by omega, rfl, ⟨A1, c1, rfl, hl1, hm1, hr1.later (bt bdrew (bt hb2 hb3))⟩, by go_num, HOK.out, bt hb (bt bdrew (bt hb2 hb3))⟩
              case measure => simp [intOf]; omega
      · have hge : ¬ ((k : Int) < l.length) := by omega
        go_wp2_with fail
        go_loopw [9] (fun t wr => ∃ m : Nat, 1 ≤ m ∧ m ≤ 301 ∧ t = .int .i64 m ∧ Row wr A1 (attE.flat L) ∧ Below w.heap.size w wr) (fun t _ => 301 - (intOf t).toNat)
        case atStart => exact ⟨1, by omega, by omega, rfl, hr1, hb⟩
        case round =>
          clear hb hr1
          obtain ⟨m, hm0, hm9, rfl, hr1, hb⟩ := hrel
          by_cases h1 : (m : Int) ≤ now
          · by_cases h2 : m ≤ 300
            · have HON := Lib.hid (once_at HOK.out (t := m) (by omega) h1)
              have h2' : (m : Int) ≤ 300 := by omega
              go_wp2_with fail
              go_loopw [10, 11] (fun n i wr => ∃ q : Nat, q ≤ L.length ∧ n = .int .i64 (cntT m (L.take q) : Nat) ∧ i = .int .i64 q ∧ Row wr A1 (attE.flat L) ∧ Below w.heap.size w wr) (fun _ i _ => L.length - (intOf i).toNat)
              case atStart => exact ⟨0, by omega, by simp [cntT], rfl, hr1, hb⟩
              case round =>
                clear hb hr1
                obtain ⟨q, hq, rfl, rfl, hr1, hb⟩ := hrel
                unfold maxLen at hm1
                by_cases hlq : q < L.length
                · obtain ⟨ad, rfl, hy0, hy1⟩ := att_at hr1 hlq
                  have HS := Lib.hid (cntT_take m L q hlq)
                  have hcb : cntT m (L.take q) ≤ L.length := by unfold cntT; exact Nat.le_trans (List.length_filter_le _ _) (by rw [List.length_take]; omega)
                  generalize cntT m (L.take q) = C at HS hcb
                  by_cases he : (L[q]).T = (m : Int)
                  · have HS2 := Lib.hid (HS.out.trans (by rw [if_pos he]))
                    have he' := beq_iff_eq.2 he
                    clear he HS
                    generalize (L[q]).T = z at hy0 he'
                    go_wp2_with fail
                    go_roundw
                    case rel => exact ⟨q + 1, by omega, by rw [HS2.out]; go_num, by go_num, hr1, hb⟩
                    case measure => simp [intOf]; omega
                  · have HS2 := Lib.hid (HS.out.trans (by rw [if_neg he]))
                    have he' := beq_eq_false_iff_ne.2 he
                    clear he HS
                    generalize (L[q]).T = z at hy0 he'
                    go_wp2_with fail
                    go_roundw
                    case rel => exact ⟨q + 1, by omega, by rw [HS2.out]; rfl, by go_num, hr1, hb⟩
                    case measure => simp [intOf]; omega
                · have hgq : ¬ ((q : Int) < L.length) := by omega
                  rw [List.take_of_length_le (by omega)]
                  obtain ⟨ho1, ho2⟩ := HON.out
                  have HF := Lib.hid (fun W hb => free_any now 0 A1 c1 L m W (by unfold maxLen; exact hm1) hl1 (hr1.later (wx := W) hb))
                  rw [ho2] at HF
                  clear HON ho2
                  generalize cntT m L = C at ho1 HF
                  obtain rfl | rfl : C = 0 ∨ C = 1 := by omega
                  all_goals
                    go_wp2_with fail
                    refine (HF.out _ (Below.refl _ _)).mono ?_; rintro e w3 ⟨rfl, hb3⟩
                    go_wp2_with fail
                    go_roundw
                    case rel => exact ⟨m + 1, by omega, by omega, by go_num, hr1.later hb3, bt hb hb3⟩
                    case measure => simp [intOf]; omega
            · have h2' : ¬ ((m : Int) ≤ 300) := by omega
              go_wp2_with fail
              refine (awake15_any _).mono ?_; rintro e w1 ⟨rfl, hb1⟩
              go_wp2_with fail
              go_ret
              exact ⟨rfl, bt hb hb1⟩
          · go_wp2_with fail
            refine (awake15_any _).mono ?_; rintro e w1 ⟨rfl, hb1⟩
            go_wp2_with fail
            go_ret
            exact ⟨rfl, bt hb hb1⟩
end Go.Proofs.Ytnebacomafgjjaa
