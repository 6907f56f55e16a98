/- A replica's clock and its promises: what the functions of the layer clock compute. -/
import Derived.Test.YtnebacomafgjjaaAtts
import Derived.Test.YtnebacomafgjjaaIdent
import Derived.Test.YtnebacomafgjjaaIMap
import Derived.Carry
namespace Go.Proofs.Ytnebacomafgjjaa
open Go.RowKit

def attsFrom (now : Int) : Int → List Int → List Att → Bool
  | _, _, [] => true
  | last, seen, a :: l => decide (last < a.T) && (decide (a.T ≤ now) && (idOk a.Id && (!decide (a.Id ∈ seen) && attsFrom now a.T (a.Id :: seen) l)))
def clockOk (now floor : Int) (own : List Att) : Bool := decide (0 ≤ floor ∧ floor ≤ now ∧ now ≤ 1000000) && attsFrom now floor [] own
def seenMap (seen : List Int) : Int → Option Value := fun x => if x ∈ seen then some (.bool true) else none
theorem seenMap_put (seen : List Int) (x : Int) : (fun y => if y = x then some (Value.bool true) else seenMap seen y) = seenMap (x :: seen) := by
  funext y
  unfold seenMap
  by_cases h : y = x <;> simp [h]
theorem seenMap_get (seen : List Int) (x : Int) : (seenMap seen x).getD (.bool false) = .bool (decide (x ∈ seen)) := by
  unfold seenMap
  by_cases h : x ∈ seen <;> simp [h]
theorem zero_bool (W : World) : (zeroValue 4).run Try.prog W = .ok (.bool false) W := by kernel_rfl

set_option maxRecDepth 100000 in
set_option maxHeartbeats 1000000 in
theorem clockcheck_row (now floor : Int) (A : Option Addr) (c : Nat) (own : List Att) (w : World) (hm : c ≤ maxLen) (hl : own.length ≤ c) (hx : Row w A (attE.flat own)) (hf : 0 ≤ floor ∧ floor ≤ now ∧ now ≤ 1000000) :
    Calls Try.prog 26 #[.int .i64 now, .int .i64 floor, .slice A own.length c] w fun e w' => e = .returned (.int .i64 (errI (attsFrom now floor [] own) 2)) ∧ Below w.heap.size w w' := by
  unfold maxLen at hm
  have hmm := @run_makeMap Try.prog
  obtain ⟨hf0, hf1, hf2⟩ := hf
  have hg0 : decide (floor < 0) = false := by simp; omega
  have hg1 : decide (now < floor) = false := by simp; omega
  have hg2 : decide (1000000 < now) = false := by simp; omega
  generalize hR : attsFrom now floor [] own = R
  have HR := Lib.hid hR
  clear hR
  go_enter Try.func26, Try.ntmps26
  go_wp2
  clear hmm hg0 hg1 hg2
  go_loopw [7, 26] (fun l i wr => ∃ (k : Nat) (last : Int) (seen : List Int), k ≤ own.length ∧ l = .int .i64 last ∧ i = .int .i64 k ∧ R = attsFrom now last seen (own.drop k) ∧ IMap wr w.heap.size (seenMap seen) ∧ Below w.heap.size w wr) (fun _ i _ => own.length - (intOf i).toNat)
  case atStart =>
    refine ⟨0, floor, [], by omega, rfl, rfl, HR.out.symm, ?_, (Below.refl _ _).alloc (Nat.le_refl _) _⟩
    have h := IMap.new w
    have e : seenMap [] = fun _ => none := by funext x; simp [seenMap]
    rw [e]
    exact h
  case round =>
    obtain ⟨k, last, seen, hk, rfl, rfl, he, hmap, hb⟩ := hrel
    clear HR
    by_cases hlt : k < own.length
    · obtain ⟨ad, rfl, hx0, hx1⟩ := att_at (hx.later hb) hlt
      have hd : own.drop k = own[k] :: own.drop (k + 1) := List.drop_eq_getElem_cons hlt
      rw [hd] at he
      clear hd hx
      have HD := Lib.hid (rfl : own.drop (k + 1) = own.drop (k + 1))
      revert HD
      generalize hrest : own.drop (k + 1) = rest at he
      intro HD
      have HREST := Lib.hid hrest
      clear HD hrest
      generalize own[k] = a at hx0 hx1 he
      obtain ⟨T, Id⟩ := a
      simp only [attsFrom] at he hx0 hx1
      have hs := hb.size
      by_cases h0 : last < T
      · by_cases h1 : T ≤ now
        · cases h2 : idOk Id
          · rw [h2, decide_eq_true h0, decide_eq_true h1] at he
            have HE : Hid (R = false) := he
            clear he
            go_wp2_with (go_at_call 56; refine (idcheck_any _ _).mono ?_; rintro e w' ⟨rfl, rfl⟩)
            go_ret
            exact ⟨by rw [HE.out]; rfl, hb.alloc hs _⟩
          · have hlook : (Instr.lookup 96 (.map (some w.heap.size)) (.int .i64 Id) false).run Try.prog (wr.alloc (.cells #[.int .i64 T, .int .i64 Id] 48)) = .ok (.bool (decide (Id ∈ seen))) (wr.alloc (.cells #[.int .i64 T, .int .i64 Id] 48)) := by
              rw [(hmap.alloc _).run_look Try.underlying96 Try.underlying3 (zero_bool _), seenMap_get]
            have hma := hmap.alloc (.cells #[.int .i64 T, .int .i64 Id] 48)
            by_cases h3 : Id ∈ seen
            · rw [decide_eq_true h3, h2, decide_eq_true h0, decide_eq_true h1] at he
              rw [decide_eq_true h3] at hlook
              have HE : Hid (R = false) := he
              clear he h3
              go_wp2_with (go_at_call 56; refine (idcheck_any _ _).mono ?_; rintro e w' ⟨rfl, rfl⟩)
              go_ret
              exact ⟨by rw [HE.out]; rfl, hb.alloc hs _⟩
            · rw [decide_eq_false h3, h2, decide_eq_true h0, decide_eq_true h1] at he
              rw [decide_eq_false h3] at hlook
              have HE : Hid (R = attsFrom now T (Id :: seen) rest) := he
              clear he h3
              go_wp2_with (first | (go_at_call 56; refine (idcheck_any _ _).mono ?_; rintro e w' ⟨rfl, rfl⟩) | (at_mapUpdate; refine wpList_put_imap _ rfl _ _ _ 96 rfl 3 4 Try.underlying96 Try.underlying3 _ _ rfl hma _ _ rfl rfl ?_; intro w1 hm1 hg1))
              go_roundw
              case rel =>
                refine ⟨k + 1, T, Id :: seen, by omega, rfl, by go_num, ?_, by rw [← seenMap_put]; exact hm1, (hb.alloc hs _).grown hg1 (by simp; omega) (fun k hk => by injection hk with hk; omega)⟩
                rw [HE.out, HREST.out]
              case measure => simp [intOf]; omega
        · rw [decide_eq_false h1, decide_eq_true h0] at he
          have HE : Hid (R = false) := he
          clear he
          go_wp2
          go_ret
          exact ⟨by rw [HE.out]; rfl, hb.alloc hs _⟩
      · rw [decide_eq_false h0] at he
        have HE : Hid (R = false) := he
        clear he
        go_wp2
        go_ret
        exact ⟨by rw [HE.out]; rfl, hb.alloc hs _⟩
    · have hge : ¬ ((k : Int) < own.length) := by omega
      have HE := Lib.hid he
      clear he
      go_wp2
      go_ret
      exact ⟨by rw [HE.out, List.drop_eq_nil_of_le (by omega)]; rfl, hb⟩
end Go.Proofs.Ytnebacomafgjjaa
