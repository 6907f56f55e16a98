/- The flights of a link. -/
import Derived.Test.YtnebacomafgjjaaBagRefCopy
import Derived.Test.YtnebacomafgjjaaLInt
namespace Go.Proofs.Ytnebacomafgjjaa
open Go.RowKit
def linkN (l : List Flight) (a b : Int) : Nat → List Int
  | 0 => []
  | n + 1 => linkN l a b n ++ (if (l.getD n noFlight).From = a ∧ (l.getD n noFlight).To = b then [(n : Int)] else [])
theorem getD_at {l : List Flight} {k : Nat} (h : k < l.length) : l.getD k noFlight = l[k] := by rw [List.getD_eq_getElem?_getD, List.getElem?_eq_getElem h]; rfl
theorem linkN_yes {l : List Flight} {a b : Int} {k : Nat} (h : k < l.length) (g : l[k].From = a ∧ l[k].To = b) : linkN l a b (k + 1) = linkN l a b k ++ [(k : Int)] := by
  show linkN l a b k ++ _ = _
  rw [getD_at h, if_pos g]
theorem linkN_no {l : List Flight} {a b : Int} {k : Nat} (h : k < l.length) (g : ¬ (l[k].From = a ∧ l[k].To = b)) : linkN l a b (k + 1) = linkN l a b k := by
  show linkN l a b k ++ _ = _
  rw [getD_at h, if_neg g, List.append_nil]
theorem linkN_len (l : List Flight) (a b : Int) : ∀ n, (linkN l a b n).length ≤ n
  | 0 => Nat.le_refl _
  | n + 1 => by
    show (linkN l a b n ++ _).length ≤ _
    have := linkN_len l a b n
    rw [List.length_append]
    split <;> simp <;> omega
theorem cast_row {w : World} {g g' : Nat} {cs : List Value} (h : g = g') (hr : Row w (some ⟨g, 0, none⟩) cs) : Row w (some ⟨g', 0, none⟩) cs := by rw [← h]; exact hr
set_option maxRecDepth 100000 in
set_option maxHeartbeats 4000000 in
theorem reflink_any (A : Option Addr) (c : Nat) (xs : List Flight) (a b : Int) (w : World) (hm : c ≤ maxLen) (hl : xs.length ≤ c) (hx : Row w A (flightE.flat xs)) (hs : xs.length ≤ 10000) :
    Calls Try.prog 50 #[.slice A xs.length c, .int .i64 a, .int .i64 b] w (OwnSl intE 3 w (linkN xs a b xs.length)) := by
  unfold maxLen at hm
  obtain ⟨i0, hi, hz0, hz1, hz2⟩ := info_parts info_int
  have HX := Lib.hid hx
  clear hx
  go_enter Try.func50, Try.ntmps50
  go_wp2
  go_loopw [7, 8] (fun v i wr => ∃ (k : Nat), k ≤ xs.length ∧ i = .int .i64 k ∧ wr.ownsRow w.heap.size 3 1 v (linkN xs a b k).length (intE.flat (linkN xs a b k)) ∧ Below w.heap.size w wr) (fun _ i _ => xs.length - (intOf i).toNat)
  case atStart => exact ⟨0, by omega, rfl, World.ownsRow_nil _ _ _ _, Below.refl _ _⟩
  case round =>
    obtain ⟨k, hk, rfl, hown, hb⟩ := hrel
    by_cases hlt : k < xs.length
    · obtain ⟨ad, rfl, hx0, hx1, hx2⟩ := flight_at (HX.out.later hb) hlt
      have hln := linkN_len xs a b k
      have HY := Lib.hid (fun h => linkN_yes (a := a) (b := b) hlt h)
      have HM := Lib.hid (fun h => linkN_no (a := a) (b := b) hlt h)
      generalize xs[k].From = x0 at *
      generalize xs[k].To = x1 at *
      generalize xs[k].Data = x2 at *
      by_cases h0 : x0 = a
      · by_cases h1 : x1 = b
        · have HN := Lib.hid (HY.out ⟨h0, h1⟩)
          have f0 : (x0 == a) = true := by simpa using h0
          have f1 : (x1 == b) = true := by simpa using h1
          have HF : Hid (intE.flat (linkN xs a b (k + 1)) = intE.flat (linkN xs a b k) ++ [Value.int .i64 k]) := Lib.hid (by rw [HN.out, intE.flat_append, intE.flat_one]; rfl)
          have HL : Hid ((linkN xs a b (k + 1)).length = (linkN xs a b k).length + 1) := Lib.hid (by rw [HN.out]; simp)
          generalize (linkN xs a b k).length = n at *
          have hone := Lib.hid (show ∀ u ∈ [Value.int .i64 k], u.oneCell' = true from fun u hu => by simp at hu; rw [hu]; rfl)
          have h63 := Lib.hid (show n + 1 ≤ maxLen from by unfold maxLen; omega)
          have hby := Lib.hid (show (n + 1) * 8 ≤ 140737488355328 from by omega)
          have HOWN := Lib.hid hown
          have HBA := Lib.hid hb
          clear hown h0 h1 HY HM
          go_wp2_with (first | (at_builtin; refine wpList_append_row _ rfl (.tmp 31) (.tmp 33) _ rfl w.heap.size 3 i0 _ 1 8 Try.underlying32 hi hz0 hz1 hz2 rfl (by omega) _ n _ rfl (HOWN.out.alloc _) (some ⟨wr.heap.size, 0, none⟩) 1 1 [.int .i64 k] rfl rfl (Row.new wr _ _) hone.out h63.out hby.out (Nat.le_trans HBA.out.size (by simp)) ?_; intro v5 w5 hown5 hg5 hat5))
          go_roundw
          case rel => exact ⟨k + 1, by omega, by go_num, by rw [HF.out, HL.out]; exact hown5, ((balloc HBA.out _).grown hg5 (Nat.le_trans HBA.out.size (World.alloc_size_le _ _)) (fun k hk => (HOWN.out.lt k hk).1))⟩
          case measure => simp [intOf]; omega
        · have HN := Lib.hid (HM.out (fun h => h1 h.2))
          have f0 : (x0 == a) = true := by simpa using h0
          have f1 : (x1 == b) = false := beq_eq_false_iff_ne.2 h1
          clear h0 h1 HY HM hln
          go_wp2
          go_roundw
          case rel => exact ⟨k + 1, by omega, by go_num, by rw [HN.out]; exact hown, hb⟩
          case measure => simp [intOf]; omega
      · have HN := Lib.hid (HM.out (fun h => h0 h.1))
        have f0 : (x0 == a) = false := beq_eq_false_iff_ne.2 h0
        clear h0 HY HM hln
        go_wp2
        go_roundw
        case rel => exact ⟨k + 1, by omega, by go_num, by rw [HN.out]; exact hown, hb⟩
        case measure => simp [intOf]; omega
    · have hge : ¬ ((k : Int) < xs.length) := by omega
      obtain rfl : k = xs.length := by omega
      go_wp2
      go_ret
      exact ⟨_, rfl, hown, hb⟩
set_option maxRecDepth 100000 in
set_option maxHeartbeats 4000000 in
theorem link_any (A : Option Addr) (c : Nat) (xs : List Flight) (a b : Int) (w : World) (hm : c ≤ maxLen) (hl : xs.length ≤ c) (hx : Row w A (flightE.flat xs)) (hs : xs.length ≤ 10000) :
    Calls Try.prog 49 #[.slice A xs.length c, .int .i64 a, .int .i64 b] w (OwnSl intE 3 w (linkN xs a b xs.length)) := by
  unfold maxLen at hm
  obtain ⟨i0, hi, hz0, hz1, hz2⟩ := info_parts info_int
  have HX := Lib.hid hx
  clear hx
  go_enter Try.func49, Try.ntmps49
  go_wp2
  go_loopw [7, 12] (fun v i wr => ∃ (k : Nat), k ≤ xs.length ∧ i = .int .i64 k ∧ wr.ownsRow w.heap.size 3 1 v (linkN xs a b k).length (intE.flat (linkN xs a b k)) ∧ Below w.heap.size w wr) (fun _ i _ => xs.length - (intOf i).toNat)
  case atStart => exact ⟨0, by omega, rfl, World.ownsRow_nil _ _ _ _, Below.refl _ _⟩
  case round =>
    obtain ⟨k, hk, rfl, hown, hb⟩ := hrel
    by_cases hlt : k < xs.length
    · obtain ⟨ad, rfl, hx0, hx1, hx2⟩ := flight_at (HX.out.later hb) hlt
      have hln := linkN_len xs a b k
      have HY := Lib.hid (fun h => linkN_yes (a := a) (b := b) hlt h)
      have HM := Lib.hid (fun h => linkN_no (a := a) (b := b) hlt h)
      generalize xs[k].From = x0 at *
      generalize xs[k].To = x1 at *
      generalize xs[k].Data = x2 at *
      by_cases h0 : x0 = a
      · by_cases h1 : x1 = b
        · have HN := Lib.hid (HY.out ⟨h0, h1⟩)
          have f0 : (x0 == a) = true := by simpa using h0
          have f1 : (x1 == b) = true := by simpa using h1
          have HF : Hid (intE.flat (linkN xs a b (k + 1)) = intE.flat (linkN xs a b k) ++ [Value.int .i64 k]) := Lib.hid (by rw [HN.out, intE.flat_append, intE.flat_one]; rfl)
          have HL : Hid ((linkN xs a b (k + 1)).length = (linkN xs a b k).length + 1) := Lib.hid (by rw [HN.out]; simp)
          generalize (linkN xs a b k).length = n at *
          have hone := Lib.hid (show ∀ u ∈ [Value.int .i64 k], u.oneCell' = true from fun u hu => by simp at hu; rw [hu]; rfl)
          have h63 := Lib.hid (show n + 1 ≤ maxLen from by unfold maxLen; omega)
          have hby := Lib.hid (show (n + 1) * 8 ≤ 140737488355328 from by omega)
          have HOWN := Lib.hid (hown.alloc (.cells #[.int .i64 x0, .int .i64 x1, .string x2] 53))
          have HBA := Lib.hid (balloc hb (.cells #[.int .i64 x0, .int .i64 x1, .string x2] 53))
          clear hown h0 h1 HY HM
          go_wp2_with (first | (at_builtin; refine wpList_append_row _ rfl (.tmp 27) (.tmp 29) _ rfl w.heap.size 3 i0 _ 1 8 Try.underlying32 hi hz0 hz1 hz2 rfl (by omega) _ n _ rfl (HOWN.out.alloc _) (some ⟨wr.heap.size + 1, 0, none⟩) 1 1 [.int .i64 k] rfl rfl (cast_row (by simp) (Row.new (wr.alloc (.cells #[.int .i64 x0, .int .i64 x1, .string x2] 53)) [.int .i64 k] 3)) hone.out h63.out hby.out (Nat.le_trans HBA.out.size (by simp)) ?_; intro v5 w5 hown5 hg5 hat5))
          go_roundw
          case rel => exact ⟨k + 1, by omega, by go_num, by rw [HF.out, HL.out]; exact hown5, ((balloc HBA.out _).grown hg5 (Nat.le_trans HBA.out.size (World.alloc_size_le _ _)) (fun k hk => (HOWN.out.lt k hk).1))⟩
          case measure => simp [intOf]; omega
        · have HN := Lib.hid (HM.out (fun h => h1 h.2))
          have f0 : (x0 == a) = true := by simpa using h0
          have f1 : (x1 == b) = false := beq_eq_false_iff_ne.2 h1
          clear h0 h1 HY HM hln
          go_wp2
          go_roundw
          case rel => exact ⟨k + 1, by omega, by go_num, by rw [HN.out]; exact own_later' hown (balloc (Below.refl _ _) _), balloc hb _⟩
          case measure => simp [intOf]; omega
      · have HN := Lib.hid (HM.out (fun h => h0 h.1))
        have f0 : (x0 == a) = false := beq_eq_false_iff_ne.2 h0
        clear h0 HY HM hln
        go_wp2
        go_roundw
        case rel => exact ⟨k + 1, by omega, by go_num, by rw [HN.out]; exact own_later' hown (balloc (Below.refl _ _) _), balloc hb _⟩
        case measure => simp [intOf]; omega
    · have hge : ¬ ((k : Int) < xs.length) := by omega
      obtain rfl : k = xs.length := by omega
      go_wp2
      go_ret
      exact ⟨_, rfl, hown, hb⟩
end Go.Proofs.Ytnebacomafgjjaa
