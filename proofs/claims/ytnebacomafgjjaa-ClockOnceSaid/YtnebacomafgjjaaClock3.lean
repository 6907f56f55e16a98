/- A proposal of the layer clock, and the document's. -/
import Derived.Test.YtnebacomafgjjaaClock2
namespace Go.Proofs.Ytnebacomafgjjaa
open Go.RowKit

def propE (now : Int) (own : List Att) (id least : Int) : Int :=
  if clockOk now 0 own = true ∧ idOk id = true ∧ 0 ≤ least ∧ least ≤ 1000000 then (if id ∈ own.map Att.Id then 41 else if 1000000 < max least (now + 1) then 9 else 0) else 2
def propT (now : Int) (own : List Att) (id least : Int) : Int := if propE now own id least = 0 then max least (now + 1) else 0
def propL (now : Int) (own : List Att) (id least : Int) : List Att := if propE now own id least = 0 then own ++ [⟨max least (now + 1), id⟩] else []
/-- What a proposal hands back. -/
def PropP (w : World) (t : Int) (l : List Att) (x : Int) (e : Ending) (w' : World) : Prop := ∃ v, e = .returned (.tuple #[.int .i64 t, v, .int .i64 x]) ∧ Sl attE w' v l ∧ Below w.heap.size w w'
theorem PropP.bad {w w' : World} {now : Int} {own : List Att} {id least x : Int} (h : propE now own id least = x) (hx : x ≠ 0) (hb : Below w.heap.size w w') :
    PropP w (propT now own id least) (propL now own id least) (propE now own id least) (.returned (.tuple #[.int .i64 0, .slice none 0 0, .int .i64 x])) w' := by
  have e1 : propT now own id least = 0 := by unfold propT; rw [h, if_neg hx]
  have e2 : propL now own id least = [] := by unfold propL; rw [h, if_neg hx]
  rw [e1, e2, h]
  exact ⟨_, rfl, Sl.nil _, hb⟩

theorem clockOk_now {now floor : Int} {own : List Att} (h : clockOk now floor own = true) : 0 ≤ floor ∧ floor ≤ now ∧ now ≤ 1000000 := by
  unfold clockOk at h
  rw [Bool.and_eq_true, decide_eq_true_iff] at h
  exact h.1
theorem errI_ne_false {b : Bool} {x : Int} (h : b = true) : (errI b x != 0) = false := by rw [h]; rfl
theorem errI_ne_true {b : Bool} {x : Int} (h : b = false) (hx : x ≠ 0) : (errI b x != 0) = true := by rw [h]; simpa [errI] using hx

set_option maxRecDepth 100000 in
set_option maxHeartbeats 2000000 in
theorem propose_any (now : Int) (A : Option Addr) (c : Nat) (own : List Att) (id least : Int) (w : World) (hm : c ≤ maxLen) (hl : own.length ≤ c) (hx : Row w A (attE.flat own)) (hs : own.length ≤ 1000) :
    Calls Try.prog 23 #[.int .i64 now, .slice A own.length c, .int .i64 id, .int .i64 least] w (PropP w (propT now own id least) (propL now own id least) (propE now own id least)) := by
  obtain ⟨i0, hi, hz0, hz1, hz2⟩ := info_parts info_att
  have HC := Lib.hid (fun W hb => clockcheck_any now 0 A c own W hm hl (hx.later (wx := W) hb))
  by_cases h1 : clockOk now 0 own = true
  · have h1' := errI_ne_false (x := 2) h1
    obtain ⟨hn0, hn1, hn2⟩ := clockOk_now h1
    by_cases h2 : idOk id = true
    · have h2' := errI_ne_false (x := 31) h2
      by_cases h3 : 0 ≤ least
      · by_cases h4 : least ≤ 1000000
        · by_cases h5 : id ∈ own.map Att.Id
          · have HB := Lib.hid (fun W hb => PropP.bad (w := w) (w' := W) (now := now) (own := own) (id := id) (least := least) (x := 41) (by unfold propE; rw [if_pos ⟨h1, h2, h3, h4⟩, if_pos h5]) (by decide) hb)
            have HA := Lib.hid ((any_id own id).trans (decide_eq_true h5))
            clear h1 h2 h5
            go_enter Try.func23, Try.ntmps23
            go_wp2_with fail
            refine (HC.out _ (Below.refl _ _)).mono ?_; rintro e w1 ⟨rfl, hb1⟩
            go_wp2_with (go_at_call 56; refine (idcheck_any _ _).mono ?_; rintro e w' ⟨rfl, rfl⟩)
            refine (of_any _ _).mono ?_; rintro e w2 ⟨rfl, rfl⟩
            go_wp2_with fail
            have hb2 := balloc hb1 (.cells #[.int .i64 id] 3)
            refine (containsfunc_att A c own _ hm hl (hx.later hb2) _ _ (of_pred id w1)).mono ?_; rintro e w3 ⟨rfl, hb3⟩
            rw [HA.out]
            go_wp2_with fail
            go_ret3
            exact HB.out _ (bt hb2 hb3)
          · have HA := Lib.hid ((any_id own id).trans (decide_eq_false h5))
            by_cases h7 : least < now + 1
            · by_cases h6 : 1000000 < max least (now + 1)
              · have h6' : 1000000 < now + 1 := by omega
                have HB := Lib.hid (fun W hb => PropP.bad (w := w) (w' := W) (now := now) (own := own) (id := id) (least := least) (x := 9) (by unfold propE; rw [if_pos ⟨h1, h2, h3, h4⟩, if_neg h5, if_pos h6]) (by decide) hb)
                clear h1 h2 h5 h6
                go_enter Try.func23, Try.ntmps23
                go_wp2_with fail
                refine (HC.out _ (Below.refl _ _)).mono ?_; rintro e w1 ⟨rfl, hb1⟩
                go_wp2_with (go_at_call 56; refine (idcheck_any _ _).mono ?_; rintro e w' ⟨rfl, rfl⟩)
                refine (of_any _ _).mono ?_; rintro e w2 ⟨rfl, rfl⟩
                go_wp2_with fail
                have hb2 := balloc hb1 (.cells #[.int .i64 id] 3)
                refine (containsfunc_att A c own _ hm hl (hx.later hb2) _ _ (of_pred id w1)).mono ?_; rintro e w3 ⟨rfl, hb3⟩
                rw [HA.out]
                go_wp2_with fail
                go_ret3
                exact HB.out _ (bt hb2 hb3)
              · have HB : Hid (∀ (W : World) (v : Value), Sl attE W v (own ++ [⟨now + 1, id⟩]) → Below w.heap.size w W → PropP w (propT now own id least) (propL now own id least) (propE now own id least) (.returned (.tuple #[.int .i64 (now + 1), v, .int .i64 0])) W) := by
                  intro W v hv hb
                  have e0 : propE now own id least = 0 := by unfold propE; rw [if_pos ⟨h1, h2, h3, h4⟩, if_neg h5, if_neg h6]
                  have e1 : propT now own id least = now + 1 := by unfold propT; rw [if_pos e0]; omega
                  have e2 : propL now own id least = own ++ [⟨now + 1, id⟩] := by unfold propL; rw [if_pos e0, show max least (now + 1) = now + 1 from by omega]
                  rw [e0, e1, e2]
                  exact ⟨v, rfl, hv, hb⟩
                have h6' : ¬ 1000000 < now + 1 := by omega
                clear h6
                clear h1 h2 h5
                go_enter Try.func23, Try.ntmps23
                go_wp2_with fail
                refine (HC.out _ (Below.refl _ _)).mono ?_; rintro e w1 ⟨rfl, hb1⟩
                go_wp2_with (go_at_call 56; refine (idcheck_any _ _).mono ?_; rintro e w' ⟨rfl, rfl⟩)
                refine (of_any _ _).mono ?_; rintro e w2 ⟨rfl, rfl⟩
                go_wp2_with fail
                have hb2 := balloc hb1 (.cells #[.int .i64 id] 3)
                refine (containsfunc_att A c own _ hm hl (hx.later hb2) _ _ (of_pred id w1)).mono ?_; rintro e w3 ⟨rfl, hb3⟩
                rw [HA.out]
                go_wp2_with fail
                have hb4 := bt hb2 hb3
                refine (clone_att A c own _ hm hl (hx.later hb4) (by omega)).mono ?_; rintro e w4 ⟨v4, rfl, hown4, hb5⟩
                have hb6 := bt hb4 hb5
                have h63 := Lib.hid (show own.length + 1 ≤ maxLen from by have := hl; unfold maxLen; omega)
                have hby := Lib.hid (show (own.length + 1) * 16 ≤ 140737488355328 from by omega)
                have hbase := Lib.hid (show w3.heap.size ≤ (w4.alloc (.cells #[.int .i64 (now + 1), .int .i64 id] 48)).heap.size from by have := hb5.size; simp; omega)
                have hone := Lib.hid (att_one [⟨now + 1, id⟩])
                have HOWN := Lib.hid (hown4.alloc (.cells #[.int .i64 (now + 1), .int .i64 id] 48))
                go_wp2_with (at_builtin; refine wpList_append_row _ rfl (.tmp 42) (.tmp 46) _ rfl w3.heap.size 48 i0 _ 2 16 Try.underlying34 hi hz0 hz1 hz2 rfl (by omega) v4 own.length (attE.flat own) rfl HOWN.out (some ⟨w4.heap.size, 0, none⟩) 1 1 [.int .i64 (now + 1), .int .i64 id] rfl rfl (Row.new w4 _ _) hone.out h63.out hby.out hbase.out ?_; intro v5 w5 hown5 hg5 hat5)
                go_ret3
                refine HB.out _ _ (Sl.of_own (base := w3.heap.size) (e := 48) ?_) ((balloc hb6 _).grown hg5 (by have := hb6.size; simp; omega) (fun k hk => Nat.le_trans hb4.size (hown4.lt k hk).1))
                rw [attE.flat_append, List.length_append]
                exact hown5
            · by_cases h6 : 1000000 < max least (now + 1)
              · exfalso; omega
              · have HB : Hid (∀ (W : World) (v : Value), Sl attE W v (own ++ [⟨least, id⟩]) → Below w.heap.size w W → PropP w (propT now own id least) (propL now own id least) (propE now own id least) (.returned (.tuple #[.int .i64 (least), v, .int .i64 0])) W) := by
                  intro W v hv hb
                  have e0 : propE now own id least = 0 := by unfold propE; rw [if_pos ⟨h1, h2, h3, h4⟩, if_neg h5, if_neg h6]
                  have e1 : propT now own id least = least := by unfold propT; rw [if_pos e0]; omega
                  have e2 : propL now own id least = own ++ [⟨least, id⟩] := by unfold propL; rw [if_pos e0, show max least (now + 1) = least from by omega]
                  rw [e0, e1, e2]
                  exact ⟨v, rfl, hv, hb⟩
                have h6' : ¬ 1000000 < least := by omega
                clear h6
                clear h1 h2 h5
                go_enter Try.func23, Try.ntmps23
                go_wp2_with fail
                refine (HC.out _ (Below.refl _ _)).mono ?_; rintro e w1 ⟨rfl, hb1⟩
                go_wp2_with (go_at_call 56; refine (idcheck_any _ _).mono ?_; rintro e w' ⟨rfl, rfl⟩)
                refine (of_any _ _).mono ?_; rintro e w2 ⟨rfl, rfl⟩
                go_wp2_with fail
                have hb2 := balloc hb1 (.cells #[.int .i64 id] 3)
                refine (containsfunc_att A c own _ hm hl (hx.later hb2) _ _ (of_pred id w1)).mono ?_; rintro e w3 ⟨rfl, hb3⟩
                rw [HA.out]
                go_wp2_with fail
                have hb4 := bt hb2 hb3
                refine (clone_att A c own _ hm hl (hx.later hb4) (by omega)).mono ?_; rintro e w4 ⟨v4, rfl, hown4, hb5⟩
                have hb6 := bt hb4 hb5
                have h63 := Lib.hid (show own.length + 1 ≤ maxLen from by have := hl; unfold maxLen; omega)
                have hby := Lib.hid (show (own.length + 1) * 16 ≤ 140737488355328 from by omega)
                have hbase := Lib.hid (show w3.heap.size ≤ (w4.alloc (.cells #[.int .i64 (least), .int .i64 id] 48)).heap.size from by have := hb5.size; simp; omega)
                have hone := Lib.hid (att_one [⟨least, id⟩])
                have HOWN := Lib.hid (hown4.alloc (.cells #[.int .i64 (least), .int .i64 id] 48))
                go_wp2_with (at_builtin; refine wpList_append_row _ rfl (.tmp 42) (.tmp 46) _ rfl w3.heap.size 48 i0 _ 2 16 Try.underlying34 hi hz0 hz1 hz2 rfl (by omega) v4 own.length (attE.flat own) rfl HOWN.out (some ⟨w4.heap.size, 0, none⟩) 1 1 [.int .i64 (least), .int .i64 id] rfl rfl (Row.new w4 _ _) hone.out h63.out hby.out hbase.out ?_; intro v5 w5 hown5 hg5 hat5)
                go_ret3
                refine HB.out _ _ (Sl.of_own (base := w3.heap.size) (e := 48) ?_) ((balloc hb6 _).grown hg5 (by have := hb6.size; simp; omega) (fun k hk => Nat.le_trans hb4.size (hown4.lt k hk).1))
                rw [attE.flat_append, List.length_append]
                exact hown5
        · have HB := Lib.hid (fun W hb => PropP.bad (w := w) (w' := W) (now := now) (own := own) (id := id) (least := least) (x := 2) (by unfold propE; rw [if_neg (fun h => h4 h.2.2.2)]) (by decide) hb)
          clear h1 h2
          go_enter Try.func23, Try.ntmps23
          go_wp2_with fail
          refine (HC.out _ (Below.refl _ _)).mono ?_; rintro e w1 ⟨rfl, hb1⟩
          go_wp2_with (go_at_call 56; refine (idcheck_any _ _).mono ?_; rintro e w' ⟨rfl, rfl⟩)
          go_ret3
          exact HB.out _ hb1
      · have HB := Lib.hid (fun W hb => PropP.bad (w := w) (w' := W) (now := now) (own := own) (id := id) (least := least) (x := 2) (by unfold propE; rw [if_neg (fun h => h3 h.2.2.1)]) (by decide) hb)
        clear h1 h2
        go_enter Try.func23, Try.ntmps23
        go_wp2_with fail
        refine (HC.out _ (Below.refl _ _)).mono ?_; rintro e w1 ⟨rfl, hb1⟩
        go_wp2_with (go_at_call 56; refine (idcheck_any _ _).mono ?_; rintro e w' ⟨rfl, rfl⟩)
        go_ret3
        exact HB.out _ hb1
    · have HB := Lib.hid (fun W hb => PropP.bad (w := w) (w' := W) (now := now) (own := own) (id := id) (least := least) (x := 2) (by unfold propE; rw [if_neg (fun h => h2 h.2.1)]) (by decide) hb)
      have h2' := errI_ne_true (x := 31) (by simpa using h2) (by decide)
      clear h1 h2
      go_enter Try.func23, Try.ntmps23
      go_wp2_with fail
      refine (HC.out _ (Below.refl _ _)).mono ?_; rintro e w1 ⟨rfl, hb1⟩
      go_wp2_with (go_at_call 56; refine (idcheck_any _ _).mono ?_; rintro e w' ⟨rfl, rfl⟩)
      go_ret3
      exact HB.out _ hb1
  · have HB := Lib.hid (fun W hb => PropP.bad (w := w) (w' := W) (now := now) (own := own) (id := id) (least := least) (x := 2) (by unfold propE; rw [if_neg (fun h => h1 h.1)]) (by decide) hb)
    have h1' := errI_ne_true (x := 2) (by simpa using h1) (by decide)
    clear h1
    go_enter Try.func23, Try.ntmps23
    go_wp2_with fail
    refine (HC.out _ (Below.refl _ _)).mono ?_; rintro e w1 ⟨rfl, hb1⟩
    go_wp2_with (go_at_call 56; refine (idcheck_any _ _).mono ?_; rintro e w' ⟨rfl, rfl⟩)
    go_ret3
    exact HB.out _ hb1
end Go.Proofs.Ytnebacomafgjjaa
