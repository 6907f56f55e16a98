/- The document's proposal. -/
import Derived.Test.YtnebacomafgjjaaClock3
namespace Go.Proofs.Ytnebacomafgjjaa
open Go.RowKit

def ofT (own : List Att) (id : Int) : Int := match own.find? (fun a => decide (a.Id = id)) with | some a => a.T | none => 0
theorem ofT_hit {own : List Att} {id : Int} {k : Nat} (hk : k < own.length) (h : ∀ q, ∀ h : q < own.length, q < k → (own[q]).Id ≠ id) (e : (own[k]).Id = id) : ofT own id = (own[k]).T := by
  unfold ofT
  have e : own.find? (fun a => decide (a.Id = id)) = some own[k] := by
    rw [List.find?_eq_some_iff_getElem]
    exact ⟨decide_eq_true e, k, hk, rfl, fun j hj => by simpa using h j (by omega) hj⟩
  rw [e]
theorem ofT_none {own : List Att} {id : Int} (h : ∀ q, ∀ h : q < own.length, (own[q]).Id ≠ id) : ofT own id = 0 := by
  unfold ofT
  have e : own.find? (fun a => decide (a.Id = id)) = none := by
    rw [List.find?_eq_none]
    intro a ha
    obtain ⟨q, hq, rfl⟩ := List.mem_iff_getElem.1 ha
    simpa using h q hq
  rw [e]
set_option maxRecDepth 100000 in
set_option maxHeartbeats 1000000 in
theorem refof_any (A : Option Addr) (c : Nat) (own : List Att) (id : Int) (w : World) (hm : c ≤ maxLen) (hl : own.length ≤ c) (hx : Row w A (attE.flat own)) :
    Calls Try.prog 61 #[.slice A own.length c, .int .i64 id] w fun e w' => e = .returned (.int .i64 (ofT own id)) ∧ Below w.heap.size w w' := by
  unfold maxLen at hm
  generalize hR : ofT own id = R
  have HR := Lib.hid hR
  clear hR
  go_enter Try.func61, Try.ntmps61
  go_wp2
  go_loopw [5] (fun i wr => ∃ (k : Nat), k ≤ own.length ∧ i = .int .i64 k ∧ (∀ q, ∀ h : q < own.length, q < k → (own[q]).Id ≠ id) ∧ Below w.heap.size w wr) (fun i _ => own.length - (intOf i).toNat)
  case atStart => exact ⟨0, by omega, rfl, fun q _ h => by omega, Below.refl _ _⟩
  case round =>
    obtain ⟨k, hk, rfl, hall, hb⟩ := hrel
    have HALL := Lib.hid hall
    clear hall
    by_cases hlt : k < own.length
    · obtain ⟨ad, rfl, hx0, hx1⟩ := att_at (hx.later hb) hlt
      by_cases he : (own[k]).Id = id
      · have HH := Lib.hid (HR.out.symm.trans (ofT_hit hlt HALL.out he))
        rw [he] at hx1
        clear he HR HALL hx
        generalize (own[k]).T = T at hx0 HH
        go_wp2
        go_ret
        exact ⟨by rw [HH.out]; rfl, hb⟩
      · have HS := Lib.hid (all_succ HALL.out (fun _ => he))
        have hq : ((own[k]).Id == id) = false := beq_eq_false_iff_ne.2 he
        clear he HR HALL hx
        generalize (own[k]).Id = z at hx1 hq
        go_wp2
        go_roundw
        case rel => exact ⟨k + 1, by omega, by go_num, HS.out, hb⟩
        case measure => simp [intOf]; omega
    · have hge : ¬ ((k : Int) < own.length) := by omega
      have HE := Lib.hid (HR.out.symm.trans (ofT_none (fun q h => HALL.out q h (by omega))))
      clear HR
      go_wp2
      go_ret
      exact ⟨by rw [HE.out]; rfl, hb⟩

theorem attsFrom_pos : ∀ (l : List Att) (now last : Int) (seen : List Int), 0 ≤ last → attsFrom now last seen l = true → ∀ a ∈ l, 0 < a.T
  | [], _, _, _, _, _ => fun a h => by cases h
  | b :: l, now, last, seen, h0, h => by
    simp only [attsFrom, Bool.and_eq_true, decide_eq_true_iff] at h
    obtain ⟨h1, h2, h3, h4, h5⟩ := h
    intro a ha
    rcases List.mem_cons.1 ha with rfl | ha
    · omega
    · exact attsFrom_pos l now b.T (b.Id :: seen) (by omega) h5 a ha
theorem ofT_pos {now : Int} {own : List Att} {id : Int} (h : clockOk now 0 own = true) : 0 < ofT own id ↔ id ∈ own.map Att.Id := by
  unfold clockOk at h
  rw [Bool.and_eq_true] at h
  have hp := attsFrom_pos own now 0 [] (by omega) h.2
  rw [List.mem_map]
  unfold ofT
  cases hf : own.find? (fun a => decide (a.Id = id)) with
  | none =>
    rw [List.find?_eq_none] at hf
    refine ⟨fun h => absurd h (by decide), fun ⟨a, ha, e⟩ => ?_⟩
    have := hf a ha
    simp at this
    exact absurd e this
  | some a =>
    have ha := List.mem_of_find?_eq_some hf
    have he := List.find?_some hf
    exact ⟨fun _ => ⟨a, ha, by simpa using he⟩, fun _ => hp a ha⟩
theorem errI_eq_zero {b : Bool} {x : Int} (h : b = true) : errI b x = 0 := by rw [h]; rfl

set_option maxRecDepth 100000 in
set_option maxHeartbeats 2000000 in
theorem refpropose_any (now : Int) (A : Option Addr) (c : Nat) (own : List Att) (id least : Int) (w : World) (hm : c ≤ maxLen) (hl : own.length ≤ c) (hx : Row w A (attE.flat own)) (hs : own.length ≤ 1000) :
    Calls Try.prog 24 #[.int .i64 now, .slice A own.length c, .int .i64 id, .int .i64 least] w (PropP w (propT now own id least) (propL now own id least) (propE now own id least)) := by
  obtain ⟨i0, hi, hz0, hz1, hz2⟩ := info_parts info_att
  have HC := Lib.hid (fun W hb => refclockcheck_any now 0 A c own W hm hl (hx.later (wx := W) hb))
  by_cases h1 : clockOk now 0 own = true
  · have h1' := errI_ne_false (x := 2) h1
    obtain ⟨hn0, hn1, hn2⟩ := clockOk_now h1
    by_cases h2 : idOk id = true
    · have h2' := splitS_ok h2
      by_cases h3 : 0 ≤ least
      · by_cases h4 : least ≤ 1000000
        · by_cases h5 : id ∈ own.map Att.Id
          · have HB := Lib.hid (fun W hb => PropP.bad (w := w) (w' := W) (now := now) (own := own) (id := id) (least := least) (x := 41) (by unfold propE; rw [if_pos ⟨h1, h2, h3, h4⟩, if_pos h5]) (by decide) hb)
            have hpos := (ofT_pos h1).2 h5
            clear h1 h2 h5
            go_enter Try.func24, Try.ntmps24
            go_wp2_with (go_at_call 60; refine (split_any _ _).mono ?_; rintro e w' ⟨rfl, rfl⟩)
            refine (HC.out _ (Below.refl _ _)).mono ?_; rintro e w1 ⟨rfl, hb1⟩
            go_wp2_with fail
            refine (refof_any A c own id _ hm hl (hx.later hb1)).mono ?_; rintro e w2 ⟨rfl, hb2⟩
            go_wp2_with fail
            go_ret3
            exact HB.out _ (bt hb1 hb2)
          · have hpos : ¬ 0 < ofT own id := fun h => h5 ((ofT_pos h1).1 h)
            by_cases h7 : now + 1 < least
            · have HB : Hid (∀ (W : World) (v : Value), Sl attE W v (own ++ [⟨least, id⟩]) → Below w.heap.size w W → PropP w (propT now own id least) (propL now own id least) (propE now own id least) (.returned (.tuple #[.int .i64 (least), v, .int .i64 0])) W) := by
                intro W v hv hb
                have e0 : propE now own id least = 0 := by unfold propE; rw [if_pos ⟨h1, h2, h3, h4⟩, if_neg h5, if_neg (by omega)]
                have e1 : propT now own id least = least := by unfold propT; rw [if_pos e0]; omega
                have e2 : propL now own id least = own ++ [⟨least, id⟩] := by unfold propL; rw [if_pos e0, show max least (now + 1) = least from by omega]
                rw [e0, e1, e2]
                exact ⟨v, rfl, hv, hb⟩
              have h6' : ¬ 1000000 < least := by omega
              clear h1 h2 h5
              go_enter Try.func24, Try.ntmps24
              go_wp2_with (go_at_call 60; refine (split_any _ _).mono ?_; rintro e w' ⟨rfl, rfl⟩)
              refine (HC.out _ (Below.refl _ _)).mono ?_; rintro e w1 ⟨rfl, hb1⟩
              go_wp2_with fail
              refine (refof_any A c own id _ hm hl (hx.later hb1)).mono ?_; rintro e w2 ⟨rfl, hb2⟩
              have hb4 := bt hb1 hb2
              have h63 := Lib.hid (show 0 + own.length ≤ maxLen from by have := hm; omega)
              have hby := Lib.hid (show (0 + own.length) * 16 ≤ 140737488355328 from by omega)
              have hone := Lib.hid (att_one own)
              have hlen := Lib.hid (attE.flat_length own)
              have hx2 := Lib.hid ((hx.later hb4).later (balloc (Below.refl w2.heap.size w2) (.cells #[] 48)))
              have hbase := Lib.hid (show w2.heap.size ≤ (w2.alloc (.cells #[] 48)).heap.size from by simp)
              have h63b := Lib.hid (show own.length + 1 ≤ maxLen from by unfold maxLen; omega)
              have hbyb := Lib.hid (show (own.length + 1) * 16 ≤ 140737488355328 from by omega)
              have honeb := Lib.hid (att_one [⟨least, id⟩])
              have tok1 : True := trivial
              go_wp2_with (first | (at_builtin; have _t := tok1; refine wpList_append_row _ rfl (.tmp 48) (.tmp 49) _ rfl w2.heap.size 48 i0 _ 2 16 Try.underlying34 hi hz0 hz1 hz2 rfl (by omega) _ 0 [] rfl (World.ownsRow_lit w2 #[] 0 (Nat.le_refl _) (Nat.zero_le _) rfl) A own.length c (attE.flat own) rfl hlen.out hx2.out hone.out h63.out hby.out hbase.out ?_; intro v4 w4 hown4 hg4 hat4; clear tok1; have hbw4 := (balloc (Below.refl w2.heap.size w2) _).grown hg4 hbase.out (fun k hk => Nat.le_of_eq (Option.some.inj hk)); rw [Nat.zero_add, List.nil_append] at hown4; have hb6 := bt hb4 hbw4; have HOWN := Lib.hid (hown4.alloc (.cells #[.int .i64 (least), .int .i64 id] 48)); have hbaseb := Lib.hid (show w2.heap.size ≤ (w4.alloc (.cells #[.int .i64 (least), .int .i64 id] 48)).heap.size from by have := hbw4.size; simp; omega)) | (at_builtin; refine wpList_append_row _ rfl (.tmp 50) (.tmp 54) _ rfl w2.heap.size 48 i0 _ 2 16 Try.underlying34 hi hz0 hz1 hz2 rfl (by omega) v4 own.length (attE.flat own) rfl HOWN.out (some ⟨w4.heap.size, 0, none⟩) 1 1 [.int .i64 (least), .int .i64 id] rfl rfl (Row.new w4 _ _) honeb.out h63b.out hbyb.out hbaseb.out ?_; intro v5 w5 hown5 hg5 hat5))
              go_ret3
              refine HB.out _ _ (Sl.of_own (base := w2.heap.size) (e := 48) ?_) ((balloc hb6 _).grown hg5 (by have := hb6.size; simp; omega) (fun k hk => Nat.le_trans hb4.size (hown4.lt k hk).1))
              rw [attE.flat_append, List.length_append]
              exact hown5
            · by_cases h6 : 1000000 < now + 1
              · have HB := Lib.hid (fun W hb => PropP.bad (w := w) (w' := W) (now := now) (own := own) (id := id) (least := least) (x := 9) (by unfold propE; rw [if_pos ⟨h1, h2, h3, h4⟩, if_neg h5, if_pos (by omega)]) (by decide) hb)
                clear h1 h2 h5
                go_enter Try.func24, Try.ntmps24
                go_wp2_with (go_at_call 60; refine (split_any _ _).mono ?_; rintro e w' ⟨rfl, rfl⟩)
                refine (HC.out _ (Below.refl _ _)).mono ?_; rintro e w1 ⟨rfl, hb1⟩
                go_wp2_with fail
                refine (refof_any A c own id _ hm hl (hx.later hb1)).mono ?_; rintro e w2 ⟨rfl, hb2⟩
                go_wp2_with fail
                go_ret3
                exact HB.out _ (bt hb1 hb2)
              · have HB : Hid (∀ (W : World) (v : Value), Sl attE W v (own ++ [⟨now + 1, id⟩]) → Below w.heap.size w W → PropP w (propT now own id least) (propL now own id least) (propE now own id least) (.returned (.tuple #[.int .i64 (now + 1), v, .int .i64 0])) W) := by
                  intro W v hv hb
                  have e0 : propE now own id least = 0 := by unfold propE; rw [if_pos ⟨h1, h2, h3, h4⟩, if_neg h5, if_neg (by omega)]
                  have e1 : propT now own id least = now + 1 := by unfold propT; rw [if_pos e0]; omega
                  have e2 : propL now own id least = own ++ [⟨now + 1, id⟩] := by unfold propL; rw [if_pos e0, show max least (now + 1) = now + 1 from by omega]
                  rw [e0, e1, e2]
                  exact ⟨v, rfl, hv, hb⟩
                clear h1 h2 h5
                go_enter Try.func24, Try.ntmps24
                go_wp2_with (go_at_call 60; refine (split_any _ _).mono ?_; rintro e w' ⟨rfl, rfl⟩)
                refine (HC.out _ (Below.refl _ _)).mono ?_; rintro e w1 ⟨rfl, hb1⟩
                go_wp2_with fail
                refine (refof_any A c own id _ hm hl (hx.later hb1)).mono ?_; rintro e w2 ⟨rfl, hb2⟩
                have hb4 := bt hb1 hb2
                have h63 := Lib.hid (show 0 + own.length ≤ maxLen from by have := hm; omega)
                have hby := Lib.hid (show (0 + own.length) * 16 ≤ 140737488355328 from by omega)
                have hone := Lib.hid (att_one own)
                have hlen := Lib.hid (attE.flat_length own)
                have hx2 := Lib.hid ((hx.later hb4).later (balloc (Below.refl w2.heap.size w2) (.cells #[] 48)))
                have hbase := Lib.hid (show w2.heap.size ≤ (w2.alloc (.cells #[] 48)).heap.size from by simp)
                have h63b := Lib.hid (show own.length + 1 ≤ maxLen from by unfold maxLen; omega)
                have hbyb := Lib.hid (show (own.length + 1) * 16 ≤ 140737488355328 from by omega)
                have honeb := Lib.hid (att_one [⟨now + 1, id⟩])
                have tok1 : True := trivial
                go_wp2_with (first | (at_builtin; have _t := tok1; refine wpList_append_row _ rfl (.tmp 48) (.tmp 49) _ rfl w2.heap.size 48 i0 _ 2 16 Try.underlying34 hi hz0 hz1 hz2 rfl (by omega) _ 0 [] rfl (World.ownsRow_lit w2 #[] 0 (Nat.le_refl _) (Nat.zero_le _) rfl) A own.length c (attE.flat own) rfl hlen.out hx2.out hone.out h63.out hby.out hbase.out ?_; intro v4 w4 hown4 hg4 hat4; clear tok1; have hbw4 := (balloc (Below.refl w2.heap.size w2) _).grown hg4 hbase.out (fun k hk => Nat.le_of_eq (Option.some.inj hk)); rw [Nat.zero_add, List.nil_append] at hown4; have hb6 := bt hb4 hbw4; have HOWN := Lib.hid (hown4.alloc (.cells #[.int .i64 (now + 1), .int .i64 id] 48)); have hbaseb := Lib.hid (show w2.heap.size ≤ (w4.alloc (.cells #[.int .i64 (now + 1), .int .i64 id] 48)).heap.size from by have := hbw4.size; simp; omega)) | (at_builtin; refine wpList_append_row _ rfl (.tmp 50) (.tmp 54) _ rfl w2.heap.size 48 i0 _ 2 16 Try.underlying34 hi hz0 hz1 hz2 rfl (by omega) v4 own.length (attE.flat own) rfl HOWN.out (some ⟨w4.heap.size, 0, none⟩) 1 1 [.int .i64 (now + 1), .int .i64 id] rfl rfl (Row.new w4 _ _) honeb.out h63b.out hbyb.out hbaseb.out ?_; intro v5 w5 hown5 hg5 hat5))
                go_ret3
                refine HB.out _ _ (Sl.of_own (base := w2.heap.size) (e := 48) ?_) ((balloc hb6 _).grown hg5 (by have := hb6.size; simp; omega) (fun k hk => Nat.le_trans hb4.size (hown4.lt k hk).1))
                rw [attE.flat_append, List.length_append]
                exact hown5
        · have HB := Lib.hid (fun W hb => PropP.bad (w := w) (w' := W) (now := now) (own := own) (id := id) (least := least) (x := 2) (by unfold propE; rw [if_neg (fun h => h4 h.2.2.2)]) (by decide) hb)
          clear h1 h2
          go_enter Try.func24, Try.ntmps24
          go_wp2_with (go_at_call 60; refine (split_any _ _).mono ?_; rintro e w' ⟨rfl, rfl⟩)
          refine (HC.out _ (Below.refl _ _)).mono ?_; rintro e w1 ⟨rfl, hb1⟩
          go_wp2_with fail
          go_ret3
          exact HB.out _ hb1
      · have HB := Lib.hid (fun W hb => PropP.bad (w := w) (w' := W) (now := now) (own := own) (id := id) (least := least) (x := 2) (by unfold propE; rw [if_neg (fun h => h3 h.2.2.1)]) (by decide) hb)
        clear h1 h2
        go_enter Try.func24, Try.ntmps24
        go_wp2_with (go_at_call 60; refine (split_any _ _).mono ?_; rintro e w' ⟨rfl, rfl⟩)
        refine (HC.out _ (Below.refl _ _)).mono ?_; rintro e w1 ⟨rfl, hb1⟩
        go_wp2_with fail
        go_ret3
        exact HB.out _ hb1
    · have h2' := splitS_bad (by simpa using h2)
      have HB := Lib.hid (fun W hb => PropP.bad (w := w) (w' := W) (now := now) (own := own) (id := id) (least := least) (x := 2) (by unfold propE; rw [if_neg (fun h => h2 h.2.1)]) (by decide) hb)
      clear h1 h2
      go_enter Try.func24, Try.ntmps24
      go_wp2_with (go_at_call 60; refine (split_any _ _).mono ?_; rintro e w' ⟨rfl, rfl⟩)
      refine (HC.out _ (Below.refl _ _)).mono ?_; rintro e w1 ⟨rfl, hb1⟩
      go_wp2_with fail
      go_ret3
      exact HB.out _ hb1
  · have h1' := errI_ne_true (x := 2) (by simpa using h1) (by decide)
    have HB := Lib.hid (fun W hb => PropP.bad (w := w) (w' := W) (now := now) (own := own) (id := id) (least := least) (x := 2) (by unfold propE; rw [if_neg (fun h => h1 h.1)]) (by decide) hb)
    clear h1
    go_enter Try.func24, Try.ntmps24
    go_wp2_with (go_at_call 60; refine (split_any _ _).mono ?_; rintro e w' ⟨rfl, rfl⟩)
    refine (HC.out _ (Below.refl _ _)).mono ?_; rintro e w1 ⟨rfl, hb1⟩
    go_wp2_with fail
    go_ret3
    exact HB.out _ hb1
end Go.Proofs.Ytnebacomafgjjaa
