/- Taking a flight: the document's answer. -/
import Derived.Test.YtnebacomafgjjaaBagCopy
namespace Go.Proofs.Ytnebacomafgjjaa
open Go.RowKit
theorem thereE_check {l : List Flight} {k : Int} (h : bagE l ≠ 0) : thereE l k = bagE l := by unfold thereE; rw [if_pos h]
theorem thereE_out {l : List Flight} {k : Int} (h : bagE l = 0) (g : ¬ (0 ≤ k ∧ k < (l.length : Int))) : thereE l k = 31 := by unfold thereE; rw [if_neg (by rw [h]; decide), if_neg g]
theorem thereE_in {l : List Flight} {k : Int} (h : bagE l = 0) (g : 0 ≤ k ∧ k < (l.length : Int)) : thereE l k = 0 := by unfold thereE; rw [if_neg (by rw [h]; decide), if_pos g]
/-- The first i flights but for number m. -/
def butL (l : List Flight) (m i : Nat) : List Flight := (l.take i).take m ++ (l.take i).drop (m + 1)
theorem butL_self {l : List Flight} {m : Nat} (h : m < l.length) : butL l m (m + 1) = butL l m m := by
  unfold butL
  rw [List.drop_eq_nil_of_le (by rw [List.length_take]; omega), List.drop_eq_nil_of_le (by rw [List.length_take]; omega), List.take_take, List.take_take, Nat.min_eq_left (by omega), Nat.min_self]
theorem butL_other {l : List Flight} {m i : Nat} (h : i < l.length) (hne : i ≠ m) : butL l m (i + 1) = butL l m i ++ [l[i]] := by
  unfold butL
  rw [List.take_succ_eq_append_getElem h]
  rcases Nat.lt_or_ge i m with h1 | h1
  · have e1 : (l.take i).length = i := by rw [List.length_take]; omega
    have e2 : (l.take i ++ [l[i]]).length = i + 1 := by rw [List.length_append, e1]; rfl
    rw [List.drop_eq_nil_of_le (by omega), List.drop_eq_nil_of_le (by omega), List.take_of_length_le (l := l.take i ++ [l[i]]) (by omega), List.take_of_length_le (l := l.take i) (by omega), List.append_nil, List.append_nil]
  · rw [List.take_append_of_le_length (by rw [List.length_take]; omega), List.drop_append_of_le_length (by rw [List.length_take]; omega), List.append_assoc]
theorem butL_len {l : List Flight} {m i : Nat} (h : i ≤ l.length) : (butL l m i).length ≤ i := by
  unfold butL
  rw [List.length_append, List.length_take, List.length_drop, List.length_take]
  omega
theorem butL_all {l : List Flight} {m : Nat} : butL l m l.length = l.take m ++ l.drop (m + 1) := by unfold butL; rw [List.take_length]
set_option maxRecDepth 100000 in
set_option maxHeartbeats 4000000 in
theorem reftake_any (A : Option Addr) (c : Nat) (l : List Flight) (k : Int) (w : World) (hm : c ≤ maxLen) (hl : l.length ≤ c) (hx : Row w A (flightE.flat l)) :
    Calls Try.prog 37 #[.slice A l.length c, .int .i64 k] w (TakeP w (takeF l k) (takeL l k) (thereE l k)) := by
  obtain ⟨i0, hi, hz0, hz1, hz2⟩ := info_parts info_refflight
  have hb0 := balloc (Below.refl w.heap.size w) (.cells #[.int .i64 0, .int .i64 0, .string ⟨#[]⟩] 61)
  have HC := Lib.hid (fun W hb => refbagcheck_any A c l W hm hl (hx.later (wx := W) hb))
  have hmm := hm
  unfold maxLen at hmm
  have hsz : (w.alloc (.cells #[.int .i64 0, .int .i64 0, .string ⟨#[]⟩] 61)).heap.size = w.heap.size + 1 := by simp
  rcases bagE_cases l with h0 | h0
  · rw [h0] at HC
    have hlen := bagE_len h0
    by_cases h1 : 0 ≤ k
    · by_cases h2 : k < (l.length : Int)
      · have h3 := thereE_in h0 ⟨h1, h2⟩
        obtain ⟨m, rfl⟩ := Int.eq_ofNat_of_zero_le h1
        have hk : m < l.length := by omega
        have HG := Lib.hid (fun W v h1 h2 => TakeP.good (w := w) (w' := W) (v := v) hk h3 h1 h2)
        obtain ⟨ad, rfl, hy0, hy1, hy2⟩ := flight_at hx hk
        have HY : Hid (∀ W, Below w.heap.size w W → W.cell? (ad.add (m * 3)) = some (.int .i64 l[m].From) ∧ W.cell? ⟨(ad.add (m * 3)).block, (ad.add (m * 3)).off + 1, none⟩ = some (.int .i64 l[m].To) ∧ W.cell? ⟨(ad.add (m * 3)).block, (ad.add (m * 3)).off + 2, none⟩ = some (.string l[m].Data)) := Lib.hid (fun W hb => ⟨cell_later hb hy0, cell_later hb hy1, cell_later hb hy2⟩)
        have HX := Lib.hid hx
        have HSZ := Lib.hid hsz
        have HALL := Lib.hid (butL_all (l := l) (m := m))
        have hq5 : decide (l.length ≤ m) = false := by simp; omega
        have hq6 : decide ((m : Int) < 0) = false := by simp
        clear h0 h3 hy0 hy1 hy2 hx hsz
        generalize l[m].From = x0 at *
        generalize l[m].To = x1 at *
        generalize l[m].Data = x2 at *
        go_enter Try.func37, Try.ntmps37
        go_wp2_with fail
        refine (HC.out _ hb0).mono ?_; rintro e w1 ⟨rfl, hb1⟩
        rw [HSZ.out] at hb1
        have hle : w.heap.size + 1 ≤ w1.heap.size := by have := hb1.size; rw [HSZ.out] at this; exact this
        go_wp2
        go_loopw [8, 9] (fun v i wr => ∃ (j : Nat), j ≤ l.length ∧ i = .int .i64 j ∧ wr.ownsRow (w.heap.size + 1) 61 3 v (butL l m j).length (flightE.flat (butL l m j)) ∧ Below (w.heap.size + 1) (w.alloc (.cells #[.int .i64 0, .int .i64 0, .string ⟨#[]⟩] 61)) wr) (fun _ i _ => l.length - (intOf i).toNat)
        case atStart => exact ⟨0, by omega, rfl, by rw [show butL l m 0 = [] from by unfold butL; simp]; exact World.ownsRow_nil _ _ _ _, hb1⟩
        case round =>
          obtain ⟨j, hj, rfl, hown, hb⟩ := hrel
          have hbw := hb0.trans (hb.mono (Nat.le_succ _))
          have HS := Lib.hid (show w.heap.size + 1 ≤ wr.heap.size from by have := hb.size; rw [HSZ.out] at this; exact this)
          by_cases hlt : j < l.length
          · by_cases hjm : j = m
            · subst hjm
              have hne : ((j : Int) != (j : Int)) = false := by simp
              have HB := Lib.hid (butL_self hlt)
              go_wp2
              go_roundw
              case rel => exact ⟨j + 1, by omega, by go_num, by rw [HB.out]; exact hown, hb⟩
              case measure => simp [intOf]; omega
            · have hne : ((j : Int) != (m : Int)) = true := by simp; omega
              have HB := Lib.hid (butL_other hlt hjm)
              have HF : Hid (flightE.flat (butL l m (j + 1)) = flightE.flat (butL l m j) ++ flightE.cells l[j]) := Lib.hid (by rw [HB.out, flightE.flat_append, flightE.flat_one])
              have HL : Hid ((butL l m (j + 1)).length = (butL l m j).length + 1) := Lib.hid (by rw [HB.out]; simp)
              have hlb := butL_len (l := l) (m := m) hj
              obtain ⟨ad', had, hx0, hx1, hx2⟩ := flight_at (HX.out.later hbw) hlt
              injection had with had
              subst had
              have hone := Lib.hid (flight_one [l[j]])
              rw [flightE.flat_one] at hone
              change Hid (_ = _ ++ [Value.int .i64 (l[j]).From, Value.int .i64 (l[j]).To, Value.string (l[j]).Data]) at HF
              change Hid (∀ u ∈ [Value.int .i64 (l[j]).From, Value.int .i64 (l[j]).To, Value.string (l[j]).Data], _) at hone
              generalize (l[j]).From = a at *
              generalize (l[j]).To = b at *
              generalize (l[j]).Data = d at *
              generalize (butL l m j).length = n at *
              have h63 := Lib.hid (show n + 1 ≤ maxLen from by unfold maxLen; omega)
              have hby := Lib.hid (show (n + 1) * 32 ≤ 140737488355328 from by omega)
              have HOWN := Lib.hid hown
              clear hown hlb
              go_wp2_with (first | (at_builtin; refine wpList_append_row _ rfl (.tmp 34) (.tmp 39) _ rfl (w.heap.size + 1) 61 i0 _ 3 32 Try.underlying57 hi hz0 hz1 hz2 rfl (by omega) u8 n _ rfl (HOWN.out.alloc _) (some ⟨wr.heap.size, 0, none⟩) 1 1 [.int .i64 a, .int .i64 b, .string d] rfl rfl (Row.new wr _ _) hone.out h63.out hby.out (Nat.le_trans HS.out (by simp)) ?_; intro v5 w5 hown5 hg5 hat5))
              go_roundw
              case rel => exact ⟨j + 1, by omega, by go_num, by rw [HF.out, HL.out]; exact hown5, ((hb.alloc HS.out _).grown hg5 (Nat.le_trans HS.out (by simp)) (fun k hk => (HOWN.out.lt k hk).1))⟩
              case measure => simp [intOf]; omega
          · have hge : ¬ ((j : Int) < l.length) := by omega
            obtain rfl : j = l.length := by omega
            obtain ⟨hc0, hc1, hc2, hf0, hf1, hf2⟩ := boxed hb
            obtain ⟨hv0, hv1, hv2⟩ := Box3.vals ⟨by rw [hc0]; rfl, by rw [hc1]; rfl, by rw [hc2]; rfl, hf0, hf1, hf2⟩ (.int .i64 x0) (.int .i64 x1) (.string x2)
            obtain ⟨hx0, hx1, hx2⟩ := HY.out _ hbw
            rw [HALL.out] at hown
            have hfin := HG.out (((wr.setCell ⟨w.heap.size, 0, none⟩ (.int .i64 x0)).setCell ⟨w.heap.size, 1, none⟩ (.int .i64 x1)).setCell ⟨w.heap.size, 2, none⟩ (.string x2)) _ (Sl.of_own (E := flightE) (own_far (own_far (own_far hown (Nat.lt_succ_self _)) (Nat.lt_succ_self _)) (Nat.lt_succ_self _))) (((hbw.setCell (Nat.le_refl _) _).setCell (Nat.le_refl _) _).setCell (Nat.le_refl _) _)
            clear hown
            go_wp2
            refine bodyPost_ret (v := .tuple #[.agg #[.int .i64 x0, .int .i64 x1, .string x2], _, .int .i64 0]) (by simp [results, Try.results37, go_sem, hv0, hv1, hv2]; rfl) rfl ?_
            exact hfin
      · have HB := Lib.hid (fun W hb => TakeP.bad (w := w) (w' := W) (l := l) (k := k) (thereE_out h0 (fun h => h2 h.2)) (by decide) hb)
        clear h0
        go_enter Try.func37, Try.ntmps37
        go_wp2_with fail
        refine (HC.out _ hb0).mono ?_; rintro e w1 ⟨rfl, hb1⟩
        have hb3 := hb1
        rw [hsz] at hb3
        obtain ⟨hc0, hc1, hc2, hf0, hf1, hf2⟩ := boxed hb3
        obtain ⟨hv0, hv1, hv2⟩ := Box3.vals ⟨by rw [hc0]; rfl, by rw [hc1]; rfl, by rw [hc2]; rfl, hf0, hf1, hf2⟩ (.int .i64 0) (.int .i64 0) (.string ⟨#[]⟩)
        have hfin := HB.out (((w1.setCell ⟨w.heap.size, 0, none⟩ (.int .i64 0)).setCell ⟨w.heap.size, 1, none⟩ (.int .i64 0)).setCell ⟨w.heap.size, 2, none⟩ (.string ⟨#[]⟩)) ((((hb0.trans (hb3.mono (Nat.le_succ _))).setCell (Nat.le_refl _) _).setCell (Nat.le_refl _) _).setCell (Nat.le_refl _) _)
        go_wp2
        refine bodyPost_ret (v := .tuple #[.agg #[.int .i64 0, .int .i64 0, .string ⟨#[]⟩], .slice none 0 0, .int .i64 31]) (by simp [results, Try.results37, go_sem, hv0, hv1, hv2]) rfl ?_
        exact hfin
    · have HB := Lib.hid (fun W hb => TakeP.bad (w := w) (w' := W) (l := l) (k := k) (thereE_out h0 (fun h => h1 h.1)) (by decide) hb)
      clear h0
      go_enter Try.func37, Try.ntmps37
      go_wp2_with fail
      refine (HC.out _ hb0).mono ?_; rintro e w1 ⟨rfl, hb1⟩
      have hb3 := hb1
      rw [hsz] at hb3
      obtain ⟨hc0, hc1, hc2, hf0, hf1, hf2⟩ := boxed hb3
      obtain ⟨hv0, hv1, hv2⟩ := Box3.vals ⟨by rw [hc0]; rfl, by rw [hc1]; rfl, by rw [hc2]; rfl, hf0, hf1, hf2⟩ (.int .i64 0) (.int .i64 0) (.string ⟨#[]⟩)
      have hfin := HB.out (((w1.setCell ⟨w.heap.size, 0, none⟩ (.int .i64 0)).setCell ⟨w.heap.size, 1, none⟩ (.int .i64 0)).setCell ⟨w.heap.size, 2, none⟩ (.string ⟨#[]⟩)) ((((hb0.trans (hb3.mono (Nat.le_succ _))).setCell (Nat.le_refl _) _).setCell (Nat.le_refl _) _).setCell (Nat.le_refl _) _)
      go_wp2
      refine bodyPost_ret (v := .tuple #[.agg #[.int .i64 0, .int .i64 0, .string ⟨#[]⟩], .slice none 0 0, .int .i64 31]) (by simp [results, Try.results37, go_sem, hv0, hv1, hv2]) rfl ?_
      exact hfin
  · have hne : (bagE l != 0) = true := by simpa using h0
    have HB := Lib.hid (fun W hb => TakeP.bad (w := w) (w' := W) (l := l) (k := k) (thereE_check h0) h0 hb)
    generalize bagE l = x at *
    clear h0
    go_enter Try.func37, Try.ntmps37
    go_wp2_with fail
    refine (HC.out _ hb0).mono ?_; rintro e w1 ⟨rfl, hb1⟩
    have hb3 := hb1
    rw [hsz] at hb3
    obtain ⟨hc0, hc1, hc2, hf0, hf1, hf2⟩ := boxed hb3
    obtain ⟨hv0, hv1, hv2⟩ := Box3.vals ⟨by rw [hc0]; rfl, by rw [hc1]; rfl, by rw [hc2]; rfl, hf0, hf1, hf2⟩ (.int .i64 0) (.int .i64 0) (.string ⟨#[]⟩)
    have hfin := HB.out (((w1.setCell ⟨w.heap.size, 0, none⟩ (.int .i64 0)).setCell ⟨w.heap.size, 1, none⟩ (.int .i64 0)).setCell ⟨w.heap.size, 2, none⟩ (.string ⟨#[]⟩)) ((((hb0.trans (hb3.mono (Nat.le_succ _))).setCell (Nat.le_refl _) _).setCell (Nat.le_refl _) _).setCell (Nat.le_refl _) _)
    go_wp2
    refine bodyPost_ret (v := .tuple #[.agg #[.int .i64 0, .int .i64 0, .string ⟨#[]⟩], .slice none 0 0, .int .i64 x]) (by simp [results, Try.results37, go_sem, hv0, hv1, hv2]) rfl ?_
    exact hfin
end Go.Proofs.Ytnebacomafgjjaa
