/- The document's answer for the layer clock. -/
import Derived.Test.YtnebacomafgjjaaClock
namespace Go.Proofs.Ytnebacomafgjjaa
open Go.RowKit

/-- The time before place k. -/
def lastT (floor : Int) (own : List Att) (k : Nat) : Int := if k = 0 then floor else ((own[k - 1]?).map Att.T).getD 0
def seenL (own : List Att) (k : Nat) : List Int := ((own.take k).map Att.Id).reverse
theorem seenL_succ (own : List Att) (k : Nat) (h : k < own.length) : seenL own (k + 1) = (own[k]).Id :: seenL own k := by
  unfold seenL
  rw [List.take_succ_eq_append_getElem h, List.map_append, List.reverse_append]
  rfl
theorem mem_seenL (own : List Att) (k : Nat) (hk : k ≤ own.length) (x : Int) : x ∈ seenL own k ↔ ∃ m, ∃ h : m < own.length, m < k ∧ (own[m]).Id = x := by
  unfold seenL
  rw [List.mem_reverse, List.mem_map]
  constructor
  · rintro ⟨a, ha, rfl⟩
    obtain ⟨m, hm, rfl⟩ := List.mem_take_iff_getElem.1 ha
    exact ⟨m, by omega, by omega, rfl⟩
  · rintro ⟨m, h, hm, rfl⟩
    exact ⟨own[m], List.mem_take_iff_getElem.2 ⟨m, by omega, rfl⟩, rfl⟩
theorem lastT_succ (floor : Int) (own : List Att) (k : Nat) (h : k < own.length) : lastT floor own (k + 1) = (own[k]).T := by
  unfold lastT
  rw [if_neg (by omega), Nat.add_sub_cancel, List.getElem?_eq_getElem h]
  rfl
theorem splitS_ok {id : Int} (h : idOk id = true) : (splitS id == 0) = false := by
  unfold splitS
  rw [h, beq_eq_false_iff_ne]
  obtain ⟨_, _, h3⟩ := idOk_iff.1 h
  simpa using h3
theorem splitS_bad {id : Int} (h : idOk id = false) : (splitS id == 0) = true := by
  unfold splitS
  rw [h]
  rfl

theorem all_succ {own : List Att} {m : Nat} {Id : Int} (h : ∀ q, ∀ h : q < own.length, q < m → (own[q]).Id ≠ Id) (g : ∀ h : m < own.length, (own[m]).Id ≠ Id) : ∀ q, ∀ h : q < own.length, q < m + 1 → (own[q]).Id ≠ Id := by
  intro q hq hm
  rcases Nat.lt_or_ge q m with h1 | h1
  · exact h q hq h1
  · obtain rfl : q = m := by omega
    exact g hq
set_option maxRecDepth 100000 in
set_option maxHeartbeats 1000000 in
theorem refclockcheck_row (now floor : Int) (A : Option Addr) (c : Nat) (own : List Att) (w : World) (hm : c ≤ maxLen) (hl : own.length ≤ c) (hx : Row w A (attE.flat own)) (hf : 0 ≤ floor ∧ floor ≤ now ∧ now ≤ 1000000) :
    Calls Try.prog 27 #[.int .i64 now, .int .i64 floor, .slice A own.length c] w fun e w' => e = .returned (.int .i64 (errI (attsFrom now floor [] own) 2)) ∧ Below w.heap.size w w' := by
  unfold maxLen at hm
  obtain ⟨hf0, hf1, hf2⟩ := hf
  have hg0 : decide (floor < 0) = false := by simp; omega
  have hg1 : decide (now < floor) = false := by simp; omega
  have hg2 : decide (1000000 < now) = false := by simp; omega
  generalize hR : attsFrom now floor [] own = R
  have HR := Lib.hid hR
  clear hR
  go_enter Try.func27, Try.ntmps27
  go_wp2
  clear hg0 hg1 hg2
  go_loopw [7] (fun i wr => ∃ (k : Nat), k ≤ own.length ∧ i = .int .i64 k ∧ R = attsFrom now (lastT floor own k) (seenL own k) (own.drop k) ∧ floor ≤ lastT floor own k ∧ Below w.heap.size w wr) (fun i _ => own.length - (intOf i).toNat)
  case atStart => exact ⟨0, by omega, rfl, HR.out.symm, by unfold lastT; simp, Below.refl _ _⟩
  case round =>
    obtain ⟨k, hk, rfl, he, hfl, hb⟩ := hrel
    clear HR
    by_cases hlt : k < own.length
    · have hrow := hx.later hb
      obtain ⟨ad, rfl, hx0, hx1⟩ := att_at hrow hlt
      have hd : own.drop k = own[k] :: own.drop (k + 1) := List.drop_eq_getElem_cons hlt
      have hsl := seenL_succ own k hlt
      have htl := lastT_succ floor own k hlt
      rw [hd] at he
      have HSL := Lib.hid hsl
      have HTL := Lib.hid htl
      clear hd hsl htl
      have hprev : 0 < k → ∃ p, lastT floor own k = p ∧ wr.cell? (ad.add ((k - 1) * 2)) = some (.int .i64 p) := by
        intro h0
        obtain ⟨ad', e', h1, _⟩ := att_at (k := k - 1) hrow (by omega)
        injection e' with e'
        subst e'
        refine ⟨_, ?_, h1⟩
        unfold lastT
        rw [if_neg (by omega), List.getElem?_eq_getElem (by omega)]
        rfl
      have HPREV := Lib.hid hprev
      clear hprev
      have hid : (own[k]).Id = (own[k]).Id := rfl
      revert hid
      generalize hak : own[k] = a at hx0 hx1 he HSL HTL
      intro _
      have HAK := Lib.hid hak
      clear hak
      obtain ⟨T, Id⟩ := a
      simp only [attsFrom] at he hx0 hx1
      cases h2 : idOk Id
      · have hsp := splitS_bad h2
        rw [h2] at he
        have HE := Lib.hid (show R = false from by rw [he]; simp)
        clear he h2
        go_wp2_with (go_at_call 60; refine (split_any _ _).mono ?_; rintro e w' ⟨rfl, rfl⟩)
        go_quiet (fail)
        go_wp2
        go_ret
        exact ⟨by rw [HE.out]; rfl, bdrewN hb _⟩
      · have hsp := splitS_ok h2
        by_cases h0 : T ≤ floor
        · have HE : Hid (R = false) := by rw [he, decide_eq_false (by omega : ¬ lastT floor own k < T)]; rfl
          have h0' : decide (T ≤ floor) = true := decide_eq_true h0
          clear he h2 h0
          go_wp2_with (go_at_call 60; refine (split_any _ _).mono ?_; rintro e w' ⟨rfl, rfl⟩)
          go_quiet (fail)
          go_wp2
          go_ret
          exact ⟨by rw [HE.out]; rfl, bdrewN hb _⟩
        · have h0' : decide (T ≤ floor) = false := decide_eq_false h0
          by_cases h1 : now < T
          · have HE := Lib.hid (show R = false from by rw [he, decide_eq_false (by omega : ¬ T ≤ now)]; simp)
            have h1' : decide (now < T) = true := decide_eq_true h1
            clear he h2 h0 h1
            go_wp2_with (go_at_call 60; refine (split_any _ _).mono ?_; rintro e w' ⟨rfl, rfl⟩)
            go_quiet (fail)
            go_wp2
            go_ret
            exact ⟨by rw [HE.out]; rfl, bdrewN hb _⟩
          · have h1' : decide (now < T) = false := decide_eq_false h1
            have HNEXT : Hid (∀ p, lastT floor own k = p → p < T → Id ∉ seenL own k → R = attsFrom now (lastT floor own (k + 1)) (seenL own (k + 1)) (own.drop (k + 1)) ∧ floor ≤ lastT floor own (k + 1)) := by
              intro p hp hpt hns
              rw [he, HSL.out, HTL.out, hp, decide_eq_true hpt, decide_eq_true (by omega : T ≤ now), h2, decide_eq_false hns]
              exact ⟨rfl, by show floor ≤ T; omega⟩
            have HLOW : Hid (∀ p, lastT floor own k = p → ¬ p < T → R = false) := by
              intro p hp hpt
              rw [he, hp, decide_eq_false hpt]
              rfl
            have HDUP : Hid (Id ∈ seenL own k → R = false) := by
              intro hs
              rw [he, decide_eq_true hs]
              simp
            clear he h2 h0 h1 HSL HTL
            have HMEM : Hid (Id ∈ seenL own k ↔ ∃ m, ∃ h : m < own.length, m < k ∧ (own[m]).Id = Id) := mem_seenL own k hk Id
            by_cases hk0 : k = 0
            · have HLT := Lib.hid (show lastT floor own k = floor from by unfold lastT; rw [if_pos hk0])
              have HNX : Hid (Id ∉ seenL own k → R = attsFrom now (lastT floor own (k + 1)) (seenL own (k + 1)) (own.drop (k + 1)) ∧ floor ≤ lastT floor own (k + 1)) := fun h => HNEXT.out floor HLT.out (by simpa using h0') h
              have hz : decide (0 < k) = false := by simp; omega
              have HPC := Lib.hid trivial
              clear hk0 HLOW HPREV
              go_wp2_with (go_at_call 60; refine (split_any _ _).mono ?_; rintro e w' ⟨rfl, rfl⟩)
              go_quiet (fail)
              go_wp2
              go_loopw [10] (fun j wr => ∃ m : Nat, m ≤ k ∧ j = .int .i64 m ∧ (∀ q, ∀ h : q < own.length, q < m → (own[q]).Id ≠ Id) ∧ Below w.heap.size w wr) (fun j _ => k - (intOf j).toNat)
              case atStart => exact ⟨0, by omega, rfl, fun q _ h => by omega, bdrewN hb _⟩
              case round =>
                obtain ⟨m, hm, rfl, hall, hb2⟩ := hrel
                have HALL := Lib.hid hall
                clear hall hx0 hx1 HPC
                by_cases hmk : m < k
                · obtain ⟨ad1, e1, _, hy1⟩ := att_at (k := m) (hx.later hb2) (by omega)
                  injection e1 with e1
                  subst e1
                  obtain ⟨ad2, e2, _, hx1⟩ := att_at (k := k) (hx.later hb2) hlt
                  injection e2 with e2
                  subst e2
                  rw [HAK.out] at hx1
                  by_cases heq : (own[m]).Id = Id
                  · have HE := Lib.hid (HDUP.out (HMEM.out.2 ⟨m, by omega, hmk, heq⟩))
                    rw [heq] at hy1
                    clear heq HNEXT HDUP HMEM
                    go_wp2
                    go_quiet (fail)
                    go_wp2
                    go_ret
                    exact ⟨by rw [HE.out]; rfl, bdrewN hb2 _⟩
                  · have heq' : ((own[m]).Id == Id) = false := beq_eq_false_iff_ne.2 heq
                    have HQ : Hid ((own[m]).Id ≠ Id) := heq
                    revert heq' HQ hy1
                    generalize hz : (own[m]).Id = z
                    intro hy1 heq' HQ
                    have HZ := Lib.hid hz
                    clear heq hz
                    go_wp2
                    go_quiet (fail)
                    go_wp2
                    go_roundw
                    case rel => exact ⟨m + 1, by omega, by go_num, all_succ HALL.out (fun _ => by rw [HZ.out]; exact HQ.out), bdrewN hb2 _⟩
                    case measure => simp [intOf]; omega
                · have hge : ¬ ((m : Int) < (k : Int)) := by omega
                  have HS := Lib.hid (show Id ∉ seenL own k from by intro h; obtain ⟨q, h1, h2, h3⟩ := HMEM.out.1 h; exact HALL.out q h1 (by omega) h3)
                  obtain ⟨hn1, hn2⟩ := HNX.out HS.out
                  have HN1 := Lib.hid hn1
                  clear hn1 HNEXT HDUP HMEM
                  go_wp2
                  go_roundw
                  case rel => exact ⟨k + 1, by omega, by go_num, HN1.out, hn2, hb2⟩
                  case measure => simp [intOf]; omega
            · obtain ⟨p, hp, HPC⟩ := HPREV.out (by omega)
              have HP := Lib.hid hp
              clear hp HPREV
              have hz : decide (0 < k) = true := by simp; omega
              have hk1 : 1 ≤ k := by omega
              by_cases hpt : p < T
              · have hpt' : decide (T ≤ p) = false := by simp; omega
                have HNX : Hid (Id ∉ seenL own k → R = attsFrom now (lastT floor own (k + 1)) (seenL own (k + 1)) (own.drop (k + 1)) ∧ floor ≤ lastT floor own (k + 1)) := fun h => HNEXT.out p HP.out hpt h
                clear HLOW hk0
                go_wp2_with (go_at_call 60; refine (split_any _ _).mono ?_; rintro e w' ⟨rfl, rfl⟩)
                go_quiet (fail)
                go_wp2
                go_loopw [10] (fun j wr => ∃ m : Nat, m ≤ k ∧ j = .int .i64 m ∧ (∀ q, ∀ h : q < own.length, q < m → (own[q]).Id ≠ Id) ∧ Below w.heap.size w wr) (fun j _ => k - (intOf j).toNat)
                case atStart => exact ⟨0, by omega, rfl, fun q _ h => by omega, bdrewN hb _⟩
                case round =>
                  obtain ⟨m, hm, rfl, hall, hb2⟩ := hrel
                  have HALL := Lib.hid hall
                  clear hall hx0 hx1 HPC
                  by_cases hmk : m < k
                  · obtain ⟨ad1, e1, _, hy1⟩ := att_at (k := m) (hx.later hb2) (by omega)
                    injection e1 with e1
                    subst e1
                    obtain ⟨ad2, e2, _, hx1⟩ := att_at (k := k) (hx.later hb2) hlt
                    injection e2 with e2
                    subst e2
                    rw [HAK.out] at hx1
                    by_cases heq : (own[m]).Id = Id
                    · have HE := Lib.hid (HDUP.out (HMEM.out.2 ⟨m, by omega, hmk, heq⟩))
                      rw [heq] at hy1
                      clear heq HNEXT HDUP HMEM
                      go_wp2
                      go_quiet (fail)
                      go_wp2
                      go_ret
                      exact ⟨by rw [HE.out]; rfl, bdrewN hb2 _⟩
                    · have heq' : ((own[m]).Id == Id) = false := beq_eq_false_iff_ne.2 heq
                      have HQ : Hid ((own[m]).Id ≠ Id) := heq
                      revert heq' HQ hy1
                      generalize hz : (own[m]).Id = z
                      intro hy1 heq' HQ
                      have HZ := Lib.hid hz
                      clear heq hz
                      go_wp2
                      go_quiet (fail)
                      go_wp2
                      go_roundw
                      case rel => exact ⟨m + 1, by omega, by go_num, all_succ HALL.out (fun _ => by rw [HZ.out]; exact HQ.out), bdrewN hb2 _⟩
                      case measure => simp [intOf]; omega
                  · have hge : ¬ ((m : Int) < (k : Int)) := by omega
                    have HS := Lib.hid (show Id ∉ seenL own k from by intro h; obtain ⟨q, h1, h2, h3⟩ := HMEM.out.1 h; exact HALL.out q h1 (by omega) h3)
                    obtain ⟨hn1, hn2⟩ := HNX.out HS.out
                    have HN1 := Lib.hid hn1
                    clear hn1 HNEXT HDUP HMEM
                    go_wp2
                    go_roundw
                    case rel => exact ⟨k + 1, by omega, by go_num, HN1.out, hn2, hb2⟩
                    case measure => simp [intOf]; omega
              · have hpt' : decide (T ≤ p) = true := by simp; omega
                have HE := Lib.hid (HLOW.out p HP.out hpt)
                clear HLOW HNEXT HDUP HMEM hk0
                go_wp2_with (go_at_call 60; refine (split_any _ _).mono ?_; rintro e w' ⟨rfl, rfl⟩)
                go_quiet (fail)
                go_wp2
                go_ret
                exact ⟨by rw [HE.out]; rfl, bdrewN hb _⟩
    · have hge : ¬ ((k : Int) < own.length) := by omega
      have HE : Hid (R = true) := by rw [he, List.drop_eq_nil_of_le (by omega)]; rfl
      clear he
      go_wp2
      go_ret
      exact ⟨by rw [HE.out]; rfl, hb⟩
end Go.Proofs.Ytnebacomafgjjaa
