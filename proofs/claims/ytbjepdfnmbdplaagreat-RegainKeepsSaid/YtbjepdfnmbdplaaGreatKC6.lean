/- Texts joined by wip/gen/kpack.py: U41 U42 TbF U24 U25 U26 U43 U44 U45 S07 S08 D03 S30 S31 S34 U46 U47 U48 D31 U49 U50 U51 D25 U52 U53 U54 U55 U56 U27 U28 D24 U29 U57 D32 D33 D35 U60 U30 U32 U33 U61 S18 U31. -/
import Derived.Test.YtbjepdfnmbdplaaGreatKC5
section
namespace Go.Proofs.YtbjepdfnmbdplaaGreat
open Go.RowKit
set_option linter.unusedSimpArgs false
set_option linter.unusedVariables false
set_option maxRecDepth 100000
set_option maxHeartbeats 2000000
theorem clk_len {now floor : Int} {own : List Att} (h : clkB now floor own = true) : own.length ≤ 1000000 := by
  obtain ⟨h0, h1, h2⟩ := clk_le h
  have hp : pref (ownP floor now) own = true := by
    unfold clkB at h
    rw [Bool.and_eq_true] at h
    exact h.2
  have key : ∀ (i : Nat) (hi : i < own.length), (i : Int) + 1 ≤ own[i].t ∧ own[i].t ≤ now := by
    intro i
    induction i with
    | zero =>
      intro hi
      have := ownP_iff.1 (pref_at hp hi)
      omega
    | succ i ih =>
      intro hi
      have h3 := ownP_iff.1 (pref_at hp hi)
      rw [lastI_succ Att.t floor (show i < own.length by omega)] at h3
      have := ih (by omega)
      omega
  by_cases hl : own.length = 0
  · omega
  · have := key (own.length - 1) (by omega)
    omega
open Classical in
noncomputable def propsX (now : Int) (own : List Att) (id least : Int) : Int := if ¬ (clkB now 0 own = true ∧ idB id = true ∧ 0 ≤ least ∧ least ≤ 1000000) then 2 else if own.any (sameId id) = true then 41 else if max least (now + 1) ≤ 1000000 then 0 else 9
open Classical in
noncomputable def propsT (now : Int) (own : List Att) (id least : Int) : Int := if propsX now own id least = 0 then max least (now + 1) else 0
open Classical in
noncomputable def propsL (now : Int) (own : List Att) (id least : Int) : List Att := if propsX now own id least = 0 then own ++ [⟨max least (now + 1), id⟩] else []
theorem props_no {now : Int} {own : List Att} {id least x : Int} (h : propsX now own id least = x) (hx : x ≠ 0) : propsT now own id least = 0 ∧ propsL now own id least = [] := by
  subst h
  exact ⟨if_neg hx, if_neg hx⟩
theorem props_yes {now : Int} {own : List Att} {id least : Int} (h : propsX now own id least = 0) : propsT now own id least = max least (now + 1) ∧ propsL now own id least = own ++ [⟨max least (now + 1), id⟩] := ⟨if_pos h, if_pos h⟩
theorem propsX_2 {now : Int} {own : List Att} {id least : Int} (h : ¬ (clkB now 0 own = true ∧ idB id = true ∧ 0 ≤ least ∧ least ≤ 1000000)) : propsX now own id least = 2 := if_pos h
theorem propsX_41 {now : Int} {own : List Att} {id least : Int} (h : clkB now 0 own = true ∧ idB id = true ∧ 0 ≤ least ∧ least ≤ 1000000) (h2 : own.any (sameId id) = true) : propsX now own id least = 41 := (if_neg (not_not_intro h)).trans (if_pos h2)
theorem propsX_9 {now : Int} {own : List Att} {id least : Int} (h : clkB now 0 own = true ∧ idB id = true ∧ 0 ≤ least ∧ least ≤ 1000000) (h2 : own.any (sameId id) = false) (h3 : ¬ max least (now + 1) ≤ 1000000) : propsX now own id least = 9 := (if_neg (not_not_intro h)).trans ((if_neg (by rw [h2]; simp)).trans (if_neg h3))
theorem propsX_0 {now : Int} {own : List Att} {id least : Int} (h : clkB now 0 own = true ∧ idB id = true ∧ 0 ≤ least ∧ least ≤ 1000000) (h2 : own.any (sameId id) = false) (h3 : max least (now + 1) ≤ 1000000) : propsX now own id least = 0 := (if_neg (not_not_intro h)).trans ((if_neg (by rw [h2]; simp)).trans (if_pos h3))
theorem cloneatt_spec (l : List Att) (hl : l.length ≤ 1000000) : HasSpecO Tryz.prog 265 [PV.atts l] 29 2 (l.map Att.cs) := by
  refine ⟨?_⟩; refine Spec.ofR (h := fun F w0 => ?_)
  repeat' ((conv => whnf); first | refine Q.N ?_ | (refine Stk.both (fun hb => ?_) (fun hb => ?_) <;> (try simp only [lE] at hb) <;> (try (exfalso; omega)))); all_goals (conv => whnf)
  refine Stk.nilcmp (neg := false) rfl (by decide) rfl (fun b hb0 => ?_)
  repeat' ((conv => whnf); first | refine Q.N ?_ | (refine Stk.both (fun hb => ?_) (fun hb => ?_) <;> (try simp only [lE] at hb) <;> (try (exfalso; omega)))); all_goals (conv => whnf)
  · rw [hb0 ‹_›]
    exact FinK.nil
  · (refine Stk.app rfl Q.app ?_)
    repeat' ((conv => whnf); first | refine Q.N ?_ | (refine Stk.both (fun hb => ?_) (fun hb => ?_) <;> (try simp only [lE] at hb) <;> (try (exfalso; omega)))); all_goals (conv => whnf)
    exact FinK.own rfl rfl (closedL_flatten (all_map_closed (fun _ => rfl) l))
theorem ckk_yes {now floor : Int} {own : List Att} (h : clkB now floor own = true) : HasSpec Tryz.prog 166 [PV.int now, PV.int floor, PV.atts own] (PV.int 0) := by have := clkcheck_spec now floor own; rw [h] at this; exact this
theorem ckk_no {now floor : Int} {own : List Att} (h : clkB now floor own = false) : HasSpec Tryz.prog 166 [PV.int now, PV.int floor, PV.atts own] (PV.int 2) := by have := clkcheck_spec now floor own; rw [h] at this; exact this
theorem idk_yes {id : Int} (h : idB id = true) : HasSpec Tryz.prog 178 [PV.int id] (PV.int 0) := by have := identcheck_spec id; rw [h] at this; exact this
theorem idk_no {id : Int} (h : idB id = false) : HasSpec Tryz.prog 178 [PV.int id] (PV.int 31) := by have := identcheck_spec id; rw [h] at this; exact this
instance propose15_spec (now : Int) (own : List Att) (id least : Int) : HasSpec Tryz.prog 248 [PV.int now, PV.atts own, PV.int id, PV.int least] (.tup [PV.int (propsT now own id least), PV.atts (propsL now own id least), PV.int (propsX now own id least)]) := by
  by_cases h : clkB now 0 own = true ∧ idB id = true ∧ 0 ≤ least ∧ least ≤ 1000000
  · have hlen := clk_len h.1
    have j0 := ckk_yes h.1
    have j1 := idk_yes h.2.1
    have hnow := clk_le h.1
    have j2 := cloneatt_spec own hlen
    refine ⟨?_⟩; refine Spec.ofR (h := fun F w0 => ?_)
    repeat' ((conv => whnf); first | refine Q.a ?_ | refine Q.b ?_ | refine Q.c ?_ | refine Stk.is (by first | assumption | ((try simp only [lE]); first | done | assumption | omega)) ?_ | refine Stk.isnt (by first | assumption | ((try simp only [lE]); first | done | assumption | omega)) ?_ | (refine Stk.both (fun hb => ?_) (fun hb => ?_) <;> (try simp only [lE] at hb)) | refine Q.d ?_ | refine Q.e ?_ | refine Q.f ?_ | refine Q.g ?_ | refine Q.h ?_ | refine Q.i ?_ | refine Q.j ?_ | refine Q.k ?_ | refine Q.l ?_ | refine Q.m ?_ | refine Q.n ?_ | refine Q.o (h := ?_) | refine Q.p (h := ?_) | refine Q.q ?_ | refine Q.r ?_ | refine Q.s ?_ | refine Q.t ?_ | refine Q.u ?_ | refine Q.v ?_ | refine Q.w ?_ | refine Q.x ?_ | refine Q.y ?_ | refine Q.z ?_ | refine Stk.inl (h := fun tm => ?_) | refine Stk.inl0 (h := fun tm => ?_) | refine DefG.go (h := fun vs us => ?_) | intro (tm : Array Value) | refine Stk.op (ok_buildA rfl rfl rfl rfl) ?_ | refine Stk.scope ?_); all_goals (conv => whnf)
    refine Stk.loop (ι := Nat) (fun i => [(0, PV.atts own), (1, .fn (.func 270) [] [.lp 1 0]), (7, PV.int (own.length : Nat)), (8, PV.int (i : Nat))]) (fun _ => [(1, .box [PV.int id])]) (fun i => i ≤ own.length ∧ ∀ x ∈ own.take i, sameId id x = false) (fun i => own.length - i) 0 ⟨Nat.zero_le _, by simp⟩ (Weak.gc ⟨rfl, rfl, rfl, rfl, trivial⟩ ⟨rfl, trivial⟩ rfl rfl rfl) (fun i hi => ?_)
    obtain ⟨hi, hno⟩ := hi
    by_cases hlt : i < own.length
    · by_cases hq : own[i].id = id
      · have ha : own.any (sameId id) = true := List.any_eq_true.2 ⟨own[i], List.getElem_mem hlt, by unfold sameId; exact decide_eq_true hq⟩
        have hX := propsX_41 h ha
        rw [hX, (props_no hX (by omega)).1, (props_no hX (by omega)).2]
        have ht : tst ([own[i].t, own[i].id] = [own[i].t, id]) = true := tst_true.2 (by rw [hq])
        repeat' ((conv => whnf); first | refine Q.a ?_ | refine Q.b ?_ | refine Q.c ?_ | refine Stk.is (by first | assumption | ((try simp only [lE]); first | done | assumption | omega)) ?_ | refine Stk.isnt (by first | assumption | ((try simp only [lE]); first | done | assumption | omega)) ?_ | (refine Stk.both (fun hb => ?_) (fun hb => ?_) <;> (try simp only [lE] at hb)) | refine Q.d ?_ | refine Q.e ?_ | refine Q.f ?_ | refine Q.g ?_ | refine Q.h ?_ | refine Q.i ?_ | refine Q.j ?_ | refine Q.k ?_ | refine Q.l ?_ | refine Q.m ?_ | refine Q.n ?_ | refine Q.o (h := ?_) | refine Q.p (h := ?_) | refine Q.q ?_ | refine Q.r ?_ | refine Q.s ?_ | refine Q.t ?_ | refine Q.u ?_ | refine Q.v ?_ | refine Q.w ?_ | refine Q.x ?_ | refine Q.y ?_ | refine Q.z ?_ | refine Stk.inl (h := fun tm => ?_) | refine Stk.inl0 (h := fun tm => ?_) | refine DefG.go (h := fun vs us => ?_) | intro (tm : Array Value) | refine Stk.op (ok_buildA rfl rfl rfl rfl) ?_ | refine Stk.scope ?_); all_goals (conv => whnf)
        (refine Q.r6 (h := ?_); repeat' (first | exact Q.r0 | refine Q.r1 ?_ ?_ | refine Q.r2 ?_ | exact Q.r7 | refine Q.r3 ?_ | refine Q.r4 ?_ | refine Q.r5 ?_))
      · have ht : tst ([own[i].t, own[i].id] = [own[i].t, id]) = false := tst_false.2 (by simpa using hq)
        repeat' ((conv => whnf); first | refine Q.a ?_ | refine Q.b ?_ | refine Q.c ?_ | refine Stk.is (by first | assumption | ((try simp only [lE]); first | done | assumption | omega)) ?_ | refine Stk.isnt (by first | assumption | ((try simp only [lE]); first | done | assumption | omega)) ?_ | (refine Stk.both (fun hb => ?_) (fun hb => ?_) <;> (try simp only [lE] at hb)) | refine Q.d ?_ | refine Q.e ?_ | refine Q.f ?_ | refine Q.g ?_ | refine Q.h ?_ | refine Q.i ?_ | refine Q.j ?_ | refine Q.k ?_ | refine Q.l ?_ | refine Q.m ?_ | refine Q.n ?_ | refine Q.o (h := ?_) | refine Q.p (h := ?_) | refine Q.q ?_ | refine Q.r ?_ | refine Q.s ?_ | refine Q.t ?_ | refine Q.u ?_ | refine Q.v ?_ | refine Q.w ?_ | refine Q.x ?_ | refine Q.y ?_ | refine Q.z ?_ | refine Stk.inl (h := fun tm => ?_) | refine Stk.inl0 (h := fun tm => ?_) | refine DefG.go (h := fun vs us => ?_) | intro (tm : Array Value) | refine Stk.op (ok_buildA rfl rfl rfl rfl) ?_ | refine Stk.scope ?_); all_goals (conv => whnf)
        exact ⟨i + 1, ⟨by omega, take_no hlt hno (by unfold sameId; exact decide_eq_false hq)⟩, by omega, Weak.gc ⟨rfl, rfl, rfl, rfl, trivial⟩ ⟨rfl, trivial⟩ rfl rfl rfl⟩
    · have ha : own.any (sameId id) = false := List.any_eq_false.2 fun x hx => by rw [take_all (by omega) hno x hx]; simp
      by_cases hm : max least (now + 1) ≤ 1000000
      · have hX := propsX_0 h ha hm
        rw [hX, (props_yes hX).1, (props_yes hX).2, show PV.atts (own ++ [⟨max least (now + 1), id⟩]) = .sl 2 (own.map Att.cs ++ [[PV.int (max least (now + 1)), PV.int id]]) from congrArg _ List.map_append]
        repeat' ((conv => whnf); first | refine Q.a ?_ | refine Q.b ?_ | refine Q.c ?_ | refine Stk.is (by first | assumption | ((try simp only [lE]); first | done | assumption | omega)) ?_ | refine Stk.isnt (by first | assumption | ((try simp only [lE]); first | done | assumption | omega)) ?_ | (refine Stk.both (fun hb => ?_) (fun hb => ?_) <;> (try simp only [lE] at hb)) | refine Q.d ?_ | refine Q.e ?_ | refine Q.f ?_ | refine Q.g ?_ | refine Q.h ?_ | refine Q.i ?_ | refine Q.j ?_ | refine Q.k ?_ | refine Q.l ?_ | refine Q.m ?_ | refine Q.n ?_ | refine Q.o (h := ?_) | refine Q.p (h := ?_) | refine Q.q ?_ | refine Q.r ?_ | refine Q.s ?_ | refine Q.t ?_ | refine Q.u ?_ | refine Q.v ?_ | refine Q.w ?_ | refine Q.x ?_ | refine Q.y ?_ | refine Q.z ?_ | refine Stk.inl (h := fun tm => ?_) | refine Stk.inl0 (h := fun tm => ?_) | refine DefG.go (h := fun vs us => ?_) | intro (tm : Array Value) | refine Stk.op (ok_buildA rfl rfl rfl rfl) ?_ | refine Stk.scope ?_); all_goals (conv => whnf)
        (refine Stk.app rfl Q.app ?_)
        repeat' ((conv => whnf); first | refine Q.a ?_ | refine Q.b ?_ | refine Q.c ?_ | refine Stk.is (by first | assumption | ((try simp only [lE]); first | done | assumption | omega)) ?_ | refine Stk.isnt (by first | assumption | ((try simp only [lE]); first | done | assumption | omega)) ?_ | (refine Stk.both (fun hb => ?_) (fun hb => ?_) <;> (try simp only [lE] at hb)) | refine Q.d ?_ | refine Q.e ?_ | refine Q.f ?_ | refine Q.g ?_ | refine Q.h ?_ | refine Q.i ?_ | refine Q.j ?_ | refine Q.k ?_ | refine Q.l ?_ | refine Q.m ?_ | refine Q.n ?_ | refine Q.o (h := ?_) | refine Q.p (h := ?_) | refine Q.q ?_ | refine Q.r ?_ | refine Q.s ?_ | refine Q.t ?_ | refine Q.u ?_ | refine Q.v ?_ | refine Q.w ?_ | refine Q.x ?_ | refine Q.y ?_ | refine Q.z ?_ | refine Stk.inl (h := fun tm => ?_) | refine Stk.inl0 (h := fun tm => ?_) | refine DefG.go (h := fun vs us => ?_) | intro (tm : Array Value) | refine Stk.op (ok_buildA rfl rfl rfl rfl) ?_ | refine Stk.scope ?_); all_goals (conv => whnf)
        (refine Q.r6 (h := ?_); repeat' (first | exact Q.r0 | refine Q.r1 ?_ ?_ | refine Q.r2 ?_ | exact Q.r7 | refine Q.r3 ?_ | refine Q.r4 ?_ | refine Q.r5 ?_))
      · have hX := propsX_9 h ha hm
        rw [hX, (props_no hX (by omega)).1, (props_no hX (by omega)).2]
        repeat' ((conv => whnf); first | refine Q.a ?_ | refine Q.b ?_ | refine Q.c ?_ | refine Stk.is (by first | assumption | ((try simp only [lE]); first | done | assumption | omega)) ?_ | refine Stk.isnt (by first | assumption | ((try simp only [lE]); first | done | assumption | omega)) ?_ | (refine Stk.both (fun hb => ?_) (fun hb => ?_) <;> (try simp only [lE] at hb)) | refine Q.d ?_ | refine Q.e ?_ | refine Q.f ?_ | refine Q.g ?_ | refine Q.h ?_ | refine Q.i ?_ | refine Q.j ?_ | refine Q.k ?_ | refine Q.l ?_ | refine Q.m ?_ | refine Q.n ?_ | refine Q.o (h := ?_) | refine Q.p (h := ?_) | refine Q.q ?_ | refine Q.r ?_ | refine Q.s ?_ | refine Q.t ?_ | refine Q.u ?_ | refine Q.v ?_ | refine Q.w ?_ | refine Q.x ?_ | refine Q.y ?_ | refine Q.z ?_ | refine Stk.inl (h := fun tm => ?_) | refine Stk.inl0 (h := fun tm => ?_) | refine DefG.go (h := fun vs us => ?_) | intro (tm : Array Value) | refine Stk.op (ok_buildA rfl rfl rfl rfl) ?_ | refine Stk.scope ?_); all_goals (conv => whnf)
        (refine Q.r6 (h := ?_); repeat' (first | exact Q.r0 | refine Q.r1 ?_ ?_ | refine Q.r2 ?_ | exact Q.r7 | refine Q.r3 ?_ | refine Q.r4 ?_ | refine Q.r5 ?_))
  · have hX := propsX_2 h
    rw [hX, (props_no hX (by omega)).1, (props_no hX (by omega)).2]
    cases h1 : clkB now 0 own with
    | false =>
      have j0 := ckk_no h1
      refine ⟨?_⟩; refine Spec.ofR (h := fun F w0 => ?_)
      repeat' ((conv => whnf); first | refine Q.E ?_ | (refine Stk.both (fun hb => ?_) (fun hb => ?_) <;> (try simp only [lE] at hb))); all_goals (conv => whnf)
      (refine Q.r6 (h := ?_); repeat' (first | exact Q.r0 | refine Q.r1 ?_ ?_ | refine Q.r2 ?_ | exact Q.r7 | refine Q.r3 ?_ | refine Q.r4 ?_ | refine Q.r5 ?_))
    | true =>
      have j0 := ckk_yes h1
      cases h2 : idB id with
      | false =>
        have j1 := idk_no h2
        refine ⟨?_⟩; refine Spec.ofR (h := fun F w0 => ?_)
        repeat' ((conv => whnf); first | refine Q.E ?_ | (refine Stk.both (fun hb => ?_) (fun hb => ?_) <;> (try simp only [lE] at hb))); all_goals (conv => whnf)
        (refine Q.r6 (h := ?_); repeat' (first | exact Q.r0 | refine Q.r1 ?_ ?_ | refine Q.r2 ?_ | exact Q.r7 | refine Q.r3 ?_ | refine Q.r4 ?_ | refine Q.r5 ?_))
      | true =>
        have j1 := idk_yes h2
        have h3 : ¬ (0 ≤ least ∧ least ≤ 1000000) := fun h3 => h ⟨h1, h2, h3⟩
        refine ⟨?_⟩; refine Spec.ofR (h := fun F w0 => ?_)
        repeat' ((conv => whnf); first | refine Q.E ?_ | (refine Stk.both (fun hb => ?_) (fun hb => ?_) <;> (try simp only [lE] at hb))); all_goals (conv => whnf)
        all_goals first | (exfalso; omega) | (refine Q.r6 (h := ?_); repeat' (first | exact Q.r0 | refine Q.r1 ?_ ?_ | refine Q.r2 ?_ | exact Q.r7 | refine Q.r3 ?_ | refine Q.r4 ?_ | refine Q.r5 ?_))
end Go.Proofs.YtbjepdfnmbdplaaGreat
end
section
namespace Go.Proofs.YtbjepdfnmbdplaaGreat
open Go.RowKit
set_option linter.unusedSimpArgs false
set_option linter.unusedVariables false
set_option maxRecDepth 100000
set_option maxHeartbeats 2000000
end Go.Proofs.YtbjepdfnmbdplaaGreat
end
section
namespace Go.Proofs.YtbjepdfnmbdplaaGreat
open Go.RowKit
end Go.Proofs.YtbjepdfnmbdplaaGreat
end
section
namespace Go.Proofs.YtbjepdfnmbdplaaGreat
open Go.RowKit
set_option linter.unusedSimpArgs false
set_option linter.unusedVariables false
set_option maxRecDepth 100000
set_option maxHeartbeats 4000000
end Go.Proofs.YtbjepdfnmbdplaaGreat
end
section
namespace Go.Proofs.YtbjepdfnmbdplaaGreat
open Go.RowKit
set_option linter.unusedSimpArgs false
set_option linter.unusedVariables false
set_option maxRecDepth 100000
set_option maxHeartbeats 4000000
end Go.Proofs.YtbjepdfnmbdplaaGreat
end
section
namespace Go.Proofs.YtbjepdfnmbdplaaGreat
open Go.RowKit
set_option linter.unusedSimpArgs false
set_option linter.unusedVariables false
set_option maxRecDepth 100000
set_option maxHeartbeats 4000000
theorem allO_from {r : Rpl} {m m' : Msg} (h : m.from r.self = m'.from r.self) : allO r m = allO r m' := by
  unfold allO
  rw [h]
def Msg.raw (m : Msg) : List PV := [PV.int m.kind, PV.int m.fr, PV.int m.id, PV.int m.t, PV.int m.bal, PV.int m.abal, PV.int m.phase, PV.int m.quorum, .v (.string m.payload), PV.int m.lo, PV.int m.hi, .v (.slice none 0 0), .v (.slice none 0 0), PV.int m.done]
theorem msg_sub {m : Msg} (h1 : m.atts = []) (h2 : m.marks = []) : Sub (.agg m.raw) (.agg m.cs) := by
  unfold Msg.raw Msg.cs
  rw [h1, h2]
  exact .agg (.cons (.refl _) (.cons (.refl _) (.cons (.refl _) (.cons (.refl _) (.cons (.refl _) (.cons (.refl _) (.cons (.refl _) (.cons (.refl _) (.cons (.refl _) (.cons (.refl _) (.cons (.refl _) (.cons (.nil _) (.cons (.nil _) (.cons (.refl _) .nil))))))))))))))
theorem hears_rep {r : Rpl} {m : Msg} (h : hearsB r m = true) : repB r = true ∧ msgB m = true ∧ m.fr ≤ r.n ∧ m.fr ≠ r.self ∧ selfI m.id ≤ r.n := by
  unfold hearsB at h
  rw [Bool.and_eq_true, Bool.and_eq_true, decide_eq_true_iff] at h
  exact ⟨h.1.1, h.1.2, h.2.1, h.2.2.1, h.2.2.2.1⟩
theorem ent_acks {e : Ent} (h : entB e = true) : e.acks.length ≤ 27 := acksB_len (acks_of h)
theorem ack_len (e : Ent) (a : Ack) (h : entB e = true) : (ackR e a).acks.length ≤ 1000000 := by
  have := ent_acks h
  unfold ackR
  split
  · show (e.acks ++ [a]).length ≤ 1000000
    rw [List.length_append, List.length_singleton]
    omega
  · omega
end Go.Proofs.YtbjepdfnmbdplaaGreat
end
section
namespace Go.Proofs.YtbjepdfnmbdplaaGreat
open Go.RowKit
set_option linter.unusedSimpArgs false
set_option linter.unusedVariables false
set_option maxRecDepth 100000
set_option maxHeartbeats 2000000
open Classical in
noncomputable def timX (r : Rpl) (id least : Int) : Int := if repB r = true then propsX r.clock r.own id least else 2
open Classical in
noncomputable def timR (r : Rpl) (id least : Int) : Rpl := if timX r id least = 0 then { r with clock := propsT r.clock r.own id least, own := propsL r.clock r.own id least } else r
open Classical in
noncomputable def timT (r : Rpl) (id least : Int) : Int := if timX r id least = 0 then propsT r.clock r.own id least else 0
theorem tim_no {r : Rpl} {id least : Int} (h : timX r id least ≠ 0) : timR r id least = r ∧ timT r id least = 0 := ⟨if_neg h, if_neg h⟩
theorem tim_yes {r : Rpl} {id least : Int} (h : timX r id least = 0) : timR r id least = { r with clock := propsT r.clock r.own id least, own := propsL r.clock r.own id least } ∧ timT r id least = propsT r.clock r.own id least := ⟨if_pos h, if_pos h⟩
theorem stk_yes {r : Rpl} (h : repB r = true) : HasSpec Tryz.prog 26 [.agg r.cs] (PV.int 0) := by have := statecheck_spec r; rw [h] at this; exact this
theorem stk_no {r : Rpl} (h : repB r = false) : HasSpec Tryz.prog 26 [.agg r.cs] (PV.int 2) := by have := statecheck_spec r; rw [h] at this; exact this
instance timed_spec (r : Rpl) (id least : Int) : HasSpec Tryz.prog 197 [.agg r.cs, PV.int id, PV.int least] (.tup [.agg (timR r id least).cs, PV.int (timT r id least), PV.int (timX r id least)]) := by
  cases h : repB r with
  | false =>
    have hX : timX r id least = 2 := if_neg (by rw [h]; simp)
    rw [hX, (tim_no (by rw [hX]; omega)).1, (tim_no (by rw [hX]; omega)).2]
    have j0 := stk_no h
    refine ⟨?_⟩; refine Spec.ofR (h := fun F w0 => ?_)
    repeat' ((conv => whnf); first | refine Q.E ?_ | (refine Stk.both (fun hb => ?_) (fun hb => ?_) <;> (try simp only [lE] at hb))); all_goals (conv => whnf)
    (refine Q.r6 (h := ?_); repeat' (first | exact Q.r0 | refine Q.r1 ?_ ?_ | refine Q.r2 ?_ | exact Q.r7 | refine Q.r3 ?_ | refine Q.r4 ?_ | refine Q.r5 ?_))
  | true =>
    have hX : timX r id least = propsX r.clock r.own id least := if_pos h
    have j0 := stk_yes h
    have j1 := propose15_spec r.clock r.own id least
    by_cases h0 : timX r id least = 0
    · rw [h0, (tim_yes h0).1, (tim_yes h0).2]
      rw [← hX, h0] at j1
      generalize propsT r.clock r.own id least = t at *
      generalize propsL r.clock r.own id least = l at *
      refine ⟨?_⟩; refine Spec.ofR (h := fun F w0 => ?_)
      repeat' ((conv => whnf); first | refine Q.E ?_ | (refine Stk.both (fun hb => ?_) (fun hb => ?_) <;> (try simp only [lE] at hb))); all_goals (conv => whnf)
      (refine Q.r6 (h := ?_); repeat' (first | exact Q.r0 | refine Q.r1 ?_ ?_ | refine Q.r2 ?_ | exact Q.r7 | refine Q.r3 ?_ | refine Q.r4 ?_ | refine Q.r5 ?_))
    · rw [(tim_no h0).1, (tim_no h0).2]
      rw [← hX] at j1
      generalize timX r id least = x at *
      generalize propsT r.clock r.own id least = t at *
      generalize propsL r.clock r.own id least = l at *
      refine ⟨?_⟩; refine Spec.ofR (h := fun F w0 => ?_)
      repeat' ((conv => whnf); first | refine Q.E ?_ | (refine Stk.both (fun hb => ?_) (fun hb => ?_) <;> (try simp only [lE] at hb))); all_goals (conv => whnf)
      (refine Q.r6 (h := ?_); repeat' (first | exact Q.r0 | refine Q.r1 ?_ ?_ | refine Q.r2 ?_ | exact Q.r7 | refine Q.r3 ?_ | refine Q.r4 ?_ | refine Q.r5 ?_))
instance time26_spec (r : Rpl) (id least : Int) : HasSpec Tryz.prog 112 [.agg r.cs, PV.int id, PV.int least] (.tup [.agg (timR r id least).cs, PV.int (timT r id least), .v (.bool (tst (timX r id least = 0)))]) := by
  have j1 := timed_spec r id least
  generalize timR r id least = s at *
  generalize timT r id least = t at *
  generalize timX r id least = x at *
  refine ⟨?_⟩; refine Spec.ofR (h := fun F w0 => ?_)
  repeat' ((conv => whnf); first | refine Q.E ?_ | (refine Stk.both (fun hb => ?_) (fun hb => ?_) <;> (try simp only [lE] at hb))); all_goals (conv => whnf)
  (refine Q.r6 (h := ?_); repeat' (first | exact Q.r0 | refine Q.r1 ?_ ?_ | refine Q.r2 ?_ | exact Q.r7 | refine Q.r3 ?_ | refine Q.r4 ?_ | refine Q.r5 ?_))
end Go.Proofs.YtbjepdfnmbdplaaGreat
end
section
namespace Go.Proofs.YtbjepdfnmbdplaaGreat
open Go.RowKit
set_option linter.unusedSimpArgs false
set_option linter.unusedVariables false
set_option maxRecDepth 100000
set_option maxHeartbeats 4000000
theorem promE_yes {e : Ent} {b t : Int} (h : promX e b t = 0) : promE e b t = e.up (if e.bal = 0 then n3P e.phase else e.phase) (if needsB e = true then t else e.t) b e.abal [] := if_pos h
end Go.Proofs.YtbjepdfnmbdplaaGreat
end
section
namespace Go.Proofs.YtbjepdfnmbdplaaGreat
open Go.RowKit
set_option linter.unusedSimpArgs false
set_option linter.unusedVariables false
set_option maxRecDepth 100000
set_option maxHeartbeats 4000000
noncomputable def p28S (r : Rpl) (e : Ent) : Rpl := if needsB e = true then timR r e.id 0 else r
noncomputable def p28T (r : Rpl) (e : Ent) : Int := if needsB e = true then timT r e.id 0 else 0
noncomputable def p28X (r : Rpl) (e : Ent) : Int := if needsB e = true then timX r e.id 0 else 0
noncomputable def p28P (r : Rpl) (e : Ent) (b : Int) : Ent := promE e b (p28T r e)
open Classical in
noncomputable def p28B (r : Rpl) (e : Ent) (b : Int) : Bool := if repB r = true ∧ entB e = true ∧ p28X r e = 0 ∧ promX e b (p28T r e) = 0 ∧ rputX (p28S r e) (p28P r e b) = 0 then true else false
noncomputable def p28R (r : Rpl) (e : Ent) (b : Int) : Rpl := if p28B r e b = true then rputR (p28S r e) (p28P r e b) else r
noncomputable def p28E (r : Rpl) (e : Ent) (b : Int) : Ent := if p28B r e b = true then p28P r e b else e
theorem p28_no {r : Rpl} {e : Ent} {b : Int} (h : ¬ (repB r = true ∧ entB e = true ∧ p28X r e = 0 ∧ promX e b (p28T r e) = 0 ∧ rputX (p28S r e) (p28P r e b) = 0)) : p28B r e b = false ∧ p28R r e b = r ∧ p28E r e b = e := by
  have h1 : p28B r e b = false := if_neg h
  exact ⟨h1, if_neg (by rw [h1]; simp), if_neg (by rw [h1]; simp)⟩
theorem p28_yes {r : Rpl} {e : Ent} {b : Int} (h : repB r = true ∧ entB e = true ∧ p28X r e = 0 ∧ promX e b (p28T r e) = 0 ∧ rputX (p28S r e) (p28P r e b) = 0) : p28B r e b = true ∧ p28R r e b = rputR (p28S r e) (p28P r e b) ∧ p28E r e b = p28P r e b := by
  have h1 : p28B r e b = true := if_pos h
  exact ⟨h1, if_pos h1, if_pos h1⟩
theorem p28_ne {r : Rpl} {e : Ent} (h : needsB e = true) : p28S r e = timR r e.id 0 ∧ p28T r e = timT r e.id 0 ∧ p28X r e = timX r e.id 0 := ⟨if_pos h, if_pos h, if_pos h⟩
theorem p28_nn {r : Rpl} {e : Ent} (h : needsB e = false) : p28S r e = r ∧ p28T r e = 0 ∧ p28X r e = 0 := ⟨if_neg (by rw [h]; simp), if_neg (by rw [h]; simp), if_neg (by rw [h]; simp)⟩
instance promise28_spec (r : Rpl) (e : Ent) (b : Int) : HasSpec Tryz.prog 40 [.agg r.cs, .agg e.cs, PV.int b] (.tup [.agg (p28R r e b).cs, .agg (p28E r e b).cs, .v (.bool (p28B r e b))]) := by
  by_cases hr : repB r = true
  · have j0 := stk_yes hr
    by_cases he : entB e = true
    · have j1 := chk_yes he
      have j2 := needs_spec e
      have j3 := time26_spec r e.id 0
      have j4 := promise_spec e b (p28T r e)
      have j5 := put_spec (p28S r e) (p28P r e b)
      cases hn : needsB e with
      | true =>
        obtain ⟨e1, e2, e3⟩ := p28_ne (r := r) hn
        rw [hn] at j2
        rw [← e1, ← e2, ← e3] at j3
        by_cases hX : p28X r e = 0
        · by_cases hP : promX e b (p28T r e) = 0
          · by_cases hQ : rputX (p28S r e) (p28P r e b) = 0
            · obtain ⟨a1, a2, a3⟩ := p28_yes ⟨hr, he, hX, hP, hQ⟩
              rw [a1, a2, a3]
              refine ⟨?_⟩; refine Spec.ofR (h := fun F w0 => ?_)
              repeat' ((conv => whnf); first | refine Q.E ?_ | (refine Stk.both (fun hb => ?_) (fun hb => ?_) <;> (try simp only [lE] at hb))); all_goals (conv => whnf)
              (refine Q.r6 (h := ?_); repeat' (first | exact Q.r0 | refine Q.r1 ?_ ?_ | refine Q.r2 ?_ | exact Q.r7 | refine Q.r3 ?_ | refine Q.r4 ?_ | refine Q.r5 ?_))
            · obtain ⟨a1, a2, a3⟩ := p28_no (b := b) (fun h => hQ h.2.2.2.2)
              rw [a1, a2, a3]
              refine ⟨?_⟩; refine Spec.ofR (h := fun F w0 => ?_)
              repeat' ((conv => whnf); first | refine Q.E ?_ | (refine Stk.both (fun hb => ?_) (fun hb => ?_) <;> (try simp only [lE] at hb))); all_goals (conv => whnf)
              (refine Q.r6 (h := ?_); repeat' (first | exact Q.r0 | refine Q.r1 ?_ ?_ | refine Q.r2 ?_ | exact Q.r7 | refine Q.r3 ?_ | refine Q.r4 ?_ | refine Q.r5 ?_))
          · obtain ⟨a1, a2, a3⟩ := p28_no (b := b) (fun h => hP h.2.2.2.1)
            rw [a1, a2, a3]
            refine ⟨?_⟩; refine Spec.ofR (h := fun F w0 => ?_)
            repeat' ((conv => whnf); first | refine Q.E ?_ | (refine Stk.both (fun hb => ?_) (fun hb => ?_) <;> (try simp only [lE] at hb))); all_goals (conv => whnf)
            (refine Q.r6 (h := ?_); repeat' (first | exact Q.r0 | refine Q.r1 ?_ ?_ | refine Q.r2 ?_ | exact Q.r7 | refine Q.r3 ?_ | refine Q.r4 ?_ | refine Q.r5 ?_))
        · obtain ⟨a1, a2, a3⟩ := p28_no (b := b) (fun h => hX h.2.2.1)
          rw [a1, a2, a3]
          refine ⟨?_⟩; refine Spec.ofR (h := fun F w0 => ?_)
          repeat' ((conv => whnf); first | refine Q.E ?_ | (refine Stk.both (fun hb => ?_) (fun hb => ?_) <;> (try simp only [lE] at hb))); all_goals (conv => whnf)
          (refine Q.r6 (h := ?_); repeat' (first | exact Q.r0 | refine Q.r1 ?_ ?_ | refine Q.r2 ?_ | exact Q.r7 | refine Q.r3 ?_ | refine Q.r4 ?_ | refine Q.r5 ?_))
      | false =>
        obtain ⟨e1, e2, e3⟩ := p28_nn (r := r) hn
        have e4 : p28P r e b = promE e b 0 := by unfold p28P; rw [e2]
        rw [hn] at j2
        rw [e2] at j4
        rw [e1, e4] at j5
        by_cases hP : promX e b 0 = 0
        · by_cases hQ : rputX r (promE e b 0) = 0
          · obtain ⟨a1, a2, a3⟩ := p28_yes (r := r) (e := e) (b := b) ⟨hr, he, e3, by rw [e2]; exact hP, by rw [e1, e4]; exact hQ⟩
            rw [a1, a2, a3, e1, e4]
            refine ⟨?_⟩; refine Spec.ofR (h := fun F w0 => ?_)
            repeat' ((conv => whnf); first | refine Q.E ?_ | (refine Stk.both (fun hb => ?_) (fun hb => ?_) <;> (try simp only [lE] at hb))); all_goals (conv => whnf)
            (refine Q.r6 (h := ?_); repeat' (first | exact Q.r0 | refine Q.r1 ?_ ?_ | refine Q.r2 ?_ | exact Q.r7 | refine Q.r3 ?_ | refine Q.r4 ?_ | refine Q.r5 ?_))
          · obtain ⟨a1, a2, a3⟩ := p28_no (r := r) (e := e) (b := b) (fun h => hQ (by have := h.2.2.2.2; rw [e1, e4] at this; exact this))
            rw [a1, a2, a3]
            refine ⟨?_⟩; refine Spec.ofR (h := fun F w0 => ?_)
            repeat' ((conv => whnf); first | refine Q.E ?_ | (refine Stk.both (fun hb => ?_) (fun hb => ?_) <;> (try simp only [lE] at hb))); all_goals (conv => whnf)
            (refine Q.r6 (h := ?_); repeat' (first | exact Q.r0 | refine Q.r1 ?_ ?_ | refine Q.r2 ?_ | exact Q.r7 | refine Q.r3 ?_ | refine Q.r4 ?_ | refine Q.r5 ?_))
        · obtain ⟨a1, a2, a3⟩ := p28_no (r := r) (e := e) (b := b) (fun h => hP (by have := h.2.2.2.1; rw [e2] at this; exact this))
          rw [a1, a2, a3]
          refine ⟨?_⟩; refine Spec.ofR (h := fun F w0 => ?_)
          repeat' ((conv => whnf); first | refine Q.E ?_ | (refine Stk.both (fun hb => ?_) (fun hb => ?_) <;> (try simp only [lE] at hb))); all_goals (conv => whnf)
          (refine Q.r6 (h := ?_); repeat' (first | exact Q.r0 | refine Q.r1 ?_ ?_ | refine Q.r2 ?_ | exact Q.r7 | refine Q.r3 ?_ | refine Q.r4 ?_ | refine Q.r5 ?_))
    · have he' : entB e = false := by simpa using he
      have j1 := chk_no he'
      obtain ⟨a1, a2, a3⟩ := p28_no (b := b) (fun h => he h.2.1)
      rw [a1, a2, a3]
      refine ⟨?_⟩; refine Spec.ofR (h := fun F w0 => ?_)
      repeat' ((conv => whnf); first | refine Q.E ?_ | (refine Stk.both (fun hb => ?_) (fun hb => ?_) <;> (try simp only [lE] at hb))); all_goals (conv => whnf)
      (refine Q.r6 (h := ?_); repeat' (first | exact Q.r0 | refine Q.r1 ?_ ?_ | refine Q.r2 ?_ | exact Q.r7 | refine Q.r3 ?_ | refine Q.r4 ?_ | refine Q.r5 ?_))
  · have hr' : repB r = false := by simpa using hr
    have j0 := stk_no hr'
    obtain ⟨a1, a2, a3⟩ := p28_no (b := b) (e := e) (fun h => hr h.1)
    rw [a1, a2, a3]
    refine ⟨?_⟩; refine Spec.ofR (h := fun F w0 => ?_)
    repeat' ((conv => whnf); first | refine Q.E ?_ | (refine Stk.both (fun hb => ?_) (fun hb => ?_) <;> (try simp only [lE] at hb))); all_goals (conv => whnf)
    (refine Q.r6 (h := ?_); repeat' (first | exact Q.r0 | refine Q.r1 ?_ ?_ | refine Q.r2 ?_ | exact Q.r7 | refine Q.r3 ?_ | refine Q.r4 ?_ | refine Q.r5 ?_))
end Go.Proofs.YtbjepdfnmbdplaaGreat
end
section
namespace Go.Proofs.YtbjepdfnmbdplaaGreat
set_option linter.unusedSimpArgs false
set_option linter.unusedVariables false
set_option linter.unusedSectionVars false
open Go.RowKit
set_option maxRecDepth 100000
set_option maxHeartbeats 1000000
end Go.Proofs.YtbjepdfnmbdplaaGreat
end
section
namespace Go.Proofs.YtbjepdfnmbdplaaGreat
set_option linter.unusedSimpArgs false
set_option linter.unusedVariables false
set_option linter.unusedSectionVars false
open Go.RowKit
set_option maxRecDepth 100000
set_option maxHeartbeats 1000000
theorem hasB_nat {s r : Nat} (hs : s < 512) : hasB s ((r : Int) + 1) = (decide (r < 9) && s.testBit r) := by
  unfold hasB
  rw [show mayB (s : Int) = true from mayB_iff.2 (by omega), Bool.true_and]
  by_cases h : r < 9
  · rw [replB_iff.2 (by omega), decide_eq_true h, Bool.true_and, Bool.true_and]
    unfold bitB
    rw [Nat.testBit_eq_decide_div_mod_eq, decide_eq_decide, show ((r : Int) + 1 - 1).toNat = r from by omega]
    have : (s : Int) / 2 ^ r = ((s / 2 ^ r : Nat) : Int) := by rw [Int.natCast_ediv, Int.natCast_pow]; rfl
    rw [this]
    omega
  · rw [decide_eq_false h, show replB ((r : Int) + 1) = false from by
      cases e : replB ((r : Int) + 1) with
      | false => rfl
      | true => have := replB_iff.1 e; omega]
    rfl
end Go.Proofs.YtbjepdfnmbdplaaGreat
end
section
namespace Go.Proofs.YtbjepdfnmbdplaaGreat
open Go.RowKit
set_option linter.unusedSimpArgs false
set_option linter.unusedVariables false
def mayA (n : Int) (a : Ack) : Bool := decide (a.kind = 3 ∧ 1 ≤ a.fr ∧ a.fr ≤ n ∧ 1 ≤ a.t)
theorem mayA_iff {n : Int} {a : Ack} : mayA n a = true ↔ a.kind = 3 ∧ 1 ≤ a.fr ∧ a.fr ≤ n ∧ 1 ≤ a.t := by unfold mayA; exact decide_eq_true_iff
theorem hasB_orN (l : List Int) (r : Int) : hasB (orN l : Nat) r = (replB r && decide (r ∈ l)) := by
  cases hr : replB r with
  | false => unfold hasB; rw [hr]; simp
  | true =>
    have h := replB_iff.1 hr
    have := hasB_nat (s := orN l) (r := (r - 1).toNat) (orN_lt l)
    rw [show (((r - 1).toNat : Nat) : Int) + 1 = r from by omega] at this
    rw [this, orN_bit _ _ (by omega), show (((r - 1).toNat : Nat) : Int) + 1 = r from by omega, decide_eq_true (by omega : (r - 1).toNat < 9)]
def okTo (n : Int) (l : List Ack) (i : Nat) : Prop := ∀ j, ∀ h : j < l.length, j < i → mayA n l[j] = true ∧ l[j].fr ∉ (l.take j).map Ack.fr
def readyP (n f : Int) (l : List Ack) : Prop := sizeB n f = true ∧ okTo n l l.length ∧ n - f ≤ (l.length : Int)
open Classical in
noncomputable def readyB (n f : Int) (l : List Ack) : Bool := decide (readyP n f l)
open Classical in
theorem readyB_iff {n f : Int} {l : List Ack} : readyB n f l = true ↔ readyP n f l := by unfold readyB; exact decide_eq_true_iff
open Classical in
theorem readyB_not {n f : Int} {l : List Ack} (h : ¬ readyP n f l) : readyB n f l = false := by unfold readyB; exact decide_eq_false h
theorem okTo_succ {n : Int} {l : List Ack} {i : Nat} (hi : i < l.length) (h : okTo n l i) (h1 : mayA n l[i] = true) (h2 : l[i].fr ∉ (l.take i).map Ack.fr) : okTo n l (i + 1) := fun j hj hlt => by
  rcases Nat.lt_or_ge j i with h3 | h3
  · exact h j hj h3
  · obtain rfl : j = i := by omega
    exact ⟨h1, h2⟩
def toldStep (p : Int × Int) (a : Ack) : Int × Int := if p.1 < a.abal then (a.abal, a.t) else p
def toldF (l : List Ack) : Int × Int := l.foldl toldStep (0, 0)
theorem toldF_snoc (l : List Ack) (a : Ack) : toldF (l ++ [a]) = toldStep (toldF l) a := by unfold toldF; rw [List.foldl_append]; rfl
theorem toldF_succ (l : List Ack) (i : Nat) (h : i < l.length) : toldF (l.take (i + 1)) = toldStep (toldF (l.take i)) l[i] := by rw [take_snoc' l i h, toldF_snoc]
def lostOf (q c : Int) (a : Ack) : Bool := hasB q a.fr && decide (a.fr = c ∨ a.phase = 4)
def lostB (q c : Int) (l : List Ack) : Bool := l.any (lostOf q c)
def greatI (l : List Ack) : Int := l.foldl (fun t a => max t a.t) (-1)
theorem greatI_snoc (l : List Ack) (a : Ack) : greatI (l ++ [a]) = max (greatI l) a.t := by unfold greatI; rw [List.foldl_append]; rfl
theorem greatI_succ (l : List Ack) (i : Nat) (h : i < l.length) : greatI (l.take (i + 1)) = max (greatI (l.take i)) l[i].t := by rw [take_snoc' l i h, greatI_snoc]
def inQ (q : Int) (l : List Ack) : List Ack := l.filter fun a => hasB q a.fr
noncomputable def chooseR (n f q id : Int) (l : List Ack) : Int × Int :=
  if readyB n f l = true ∧ (listS q 9).length ≠ 0 ∧ 1 ≤ selfI id ∧ selfI id ≤ n then
    if 0 < (toldF l).1 then ((toldF l).2, 0)
    else if lostB q (selfI id) l = true then (greatI l, 0)
    else if inQ q l = [] then (0, 33) else (greatI (inQ q l), 0)
  else (0, 2)
end Go.Proofs.YtbjepdfnmbdplaaGreat
end
section
namespace Go.Proofs.YtbjepdfnmbdplaaGreat
open Go.RowKit
set_option linter.unusedSimpArgs false
set_option linter.unusedVariables false
set_option maxRecDepth 100000
set_option maxHeartbeats 1000000
instance mayA_spec (a : Ack) (n : Int) : HasSpec Tryz.prog 238 [.agg a.cs, PV.int n] (.v (.bool (mayA n a))) := by
  refine ⟨?_⟩; refine Spec.ofR (h := fun F w0 => ?_)
  repeat' ((conv => whnf); first | refine Q.E ?_ | (refine Stk.both (fun hb => ?_) (fun hb => ?_) <;> (try simp only [lE] at hb))); all_goals (conv => whnf)
  all_goals (refine Q.r6 (h := ?_); repeat' (first | exact Q.r0 | refine Q.r1 ?_ ?_ | refine Q.r2 ?_ | exact Q.r7 | refine Q.r3 ?_ | refine Q.r4 ?_ | refine Q.r5 ?_))
  all_goals unfold mayA
  all_goals ((first | rfl | (rw [Bool.eq_iff_iff]; simp only [tst_true, tst_false, lE, decide_eq_true_eq, decide_eq_false_iff_not, Bool.and_eq_true, Bool.or_eq_true, Bool.not_eq_true', Bool.not_eq_false', Bool.false_eq_true, Bool.true_eq_false, true_iff, iff_true, false_iff, iff_false, true_and, and_true, false_and, and_false, not_false_eq_true, not_true_eq_false]; try omega)))
instance inA_spec (a : Ack) (q : Int) : HasSpec Tryz.prog 246 [.agg a.cs, PV.int q] (.v (.bool (hasB q a.fr))) := by
  refine ⟨?_⟩; refine Spec.ofR (h := fun F w0 => ?_)
  repeat' ((conv => whnf); first | refine Q.E ?_ | (refine Stk.both (fun hb => ?_) (fun hb => ?_) <;> (try simp only [lE] at hb))); all_goals (conv => whnf)
  all_goals (refine Q.r6 (h := ?_); repeat' (first | exact Q.r0 | refine Q.r1 ?_ ?_ | refine Q.r2 ?_ | exact Q.r7 | refine Q.r3 ?_ | refine Q.r4 ?_ | refine Q.r5 ?_))
instance told24_spec (l : List Ack) : HasSpec Tryz.prog 241 [.sl 6 (l.map Ack.cs)] (.tup [PV.int (toldF l).2, .v (.bool (tst (0 < (toldF l).1)))]) := by
  refine ⟨Spec.bound 0 rfl fun hl => ?_⟩; rw [List.length_map] at hl; refine Spec.ofR (h := fun F w0 => ?_)
  repeat' ((conv => whnf); first | refine Q.E ?_ | (refine Stk.both (fun hb => ?_) (fun hb => ?_) <;> (try simp only [lE] at hb))); all_goals (conv => whnf)
  refine Stk.loop (ι := Nat) (fun i => [(4, PV.int (toldF (l.take i)).1), (2, PV.int (toldF (l.take i)).2), (7, .sl 6 (l.map Ack.cs)), (8, PV.int (l.length : Nat)), (9, PV.int (i : Nat))]) (fun _ => []) (fun i => i ≤ l.length) (fun i => l.length - i) 0 (Nat.zero_le _) (Weak.gc ⟨rfl, rfl, rfl, rfl, rfl, trivial⟩ trivial rfl rfl rfl) (fun i hi => ?_)
  repeat' ((conv => whnf); first | refine Q.E ?_ | (refine Stk.both (fun hb => ?_) (fun hb => ?_) <;> (try simp only [lE] at hb))); all_goals (conv => whnf)
  · refine ⟨i + 1, by show i + 1 ≤ _; omega, by omega, ?_⟩
    have e := toldF_succ l i (by omega)
    unfold toldStep at e
    rw [if_pos ‹_›] at e
    rw [e]
    exact Weak.gc ⟨rfl, rfl, rfl, rfl, rfl, trivial⟩ trivial rfl rfl rfl
  · refine ⟨i + 1, by show i + 1 ≤ _; omega, by omega, ?_⟩
    have e := toldF_succ l i (by omega)
    unfold toldStep at e
    rw [if_neg (by omega)] at e
    rw [e]
    exact Weak.gc ⟨rfl, rfl, rfl, rfl, rfl, trivial⟩ trivial rfl rfl rfl
  · have e : l.take i = l := List.take_of_length_le (by omega)
    rw [e]
    (refine Q.r6 (h := ?_); repeat' (first | exact Q.r0 | refine Q.r1 ?_ ?_ | refine Q.r2 ?_ | exact Q.r7 | refine Q.r3 ?_ | refine Q.r4 ?_ | refine Q.r5 ?_))
instance great_spec (l : List Ack) : HasSpec Tryz.prog 243 [.sl 6 (l.map Ack.cs)] (PV.int (greatI l)) := by
  refine ⟨Spec.bound 0 rfl fun hl => ?_⟩; rw [List.length_map] at hl; refine Spec.ofR (h := fun F w0 => ?_)
  repeat' ((conv => whnf); first | refine Q.E ?_ | (refine Stk.both (fun hb => ?_) (fun hb => ?_) <;> (try simp only [lE] at hb))); all_goals (conv => whnf)
  refine Stk.loop (ι := Nat) (fun i => [(3, PV.int (greatI (l.take i))), (6, .sl 6 (l.map Ack.cs)), (7, PV.int (l.length : Nat)), (8, PV.int (i : Nat))]) (fun _ => []) (fun i => i ≤ l.length) (fun i => l.length - i) 0 (Nat.zero_le _) (Weak.gc ⟨rfl, rfl, rfl, rfl, trivial⟩ trivial rfl rfl rfl) (fun i hi => ?_)
  repeat' ((conv => whnf); first | refine Q.E ?_ | (refine Stk.both (fun hb => ?_) (fun hb => ?_) <;> (try simp only [lE] at hb))); all_goals (conv => whnf)
  · refine ⟨i + 1, by show i + 1 ≤ _; omega, by omega, ?_⟩
    rw [greatI_succ l i (by omega)]
    exact Weak.gc ⟨rfl, rfl, rfl, rfl, trivial⟩ trivial rfl rfl rfl
  · have e : l.take i = l := List.take_of_length_le (by omega)
    rw [e]
    (refine Q.r6 (h := ?_); repeat' (first | exact Q.r0 | refine Q.r1 ?_ ?_ | refine Q.r2 ?_ | exact Q.r7 | refine Q.r3 ?_ | refine Q.r4 ?_ | refine Q.r5 ?_))
theorem lost_at {q c : Int} {l : List Ack} {i : Nat} (hi : i < l.length) (h : lostOf q c l[i] = true) : lostB q c l = true := List.any_eq_true.2 ⟨_, List.getElem_mem hi, h⟩
theorem lost_no {q c : Int} {l : List Ack} (h : ∀ a ∈ l, lostOf q c a = false) : lostB q c l = false := by
  unfold lostB
  rw [List.any_eq_false]
  intro a ha
  rw [h a ha]
  simp
instance lost_spec (q c : Int) (l : List Ack) : HasSpec Tryz.prog 242 [PV.int q, PV.int c, .sl 6 (l.map Ack.cs)] (.v (.bool (lostB q c l))) := by
  refine ⟨Spec.bound 2 rfl fun hl => ?_⟩; rw [List.length_map] at hl; refine Spec.ofR (h := fun F w0 => ?_)
  repeat' ((conv => whnf); first | refine Q.a ?_ | refine Q.b ?_ | refine Q.c ?_ | refine Stk.is (by first | assumption | ((try simp only [lE]); first | done | assumption | omega)) ?_ | refine Stk.isnt (by first | assumption | ((try simp only [lE]); first | done | assumption | omega)) ?_ | (refine Stk.both (fun hb => ?_) (fun hb => ?_) <;> (try simp only [lE] at hb)) | refine Q.d ?_ | refine Q.e ?_ | refine Q.f ?_ | refine Q.g ?_ | refine Q.h ?_ | refine Q.i ?_ | refine Q.j ?_ | refine Q.k ?_ | refine Q.l ?_ | refine Q.m ?_ | refine Q.n ?_ | refine Q.o (h := ?_) | refine Q.p (h := ?_) | refine Q.q ?_ | refine Q.r ?_ | refine Q.s ?_ | refine Q.t ?_ | refine Q.u ?_ | refine Q.v ?_ | refine Q.w ?_ | refine Q.x ?_ | refine Q.y ?_ | refine Q.z ?_ | refine Stk.inl (h := fun tm => ?_) | refine Stk.inl0 (h := fun tm => ?_) | refine DefG.go (h := fun vs us => ?_) | intro (tm : Array Value) | refine Stk.op (ok_buildA rfl rfl rfl rfl) ?_ | refine Stk.scope ?_); all_goals (conv => whnf)
  refine Stk.loop (ι := Nat) (fun i => [(0, PV.int q), (1, PV.int c), (7, .fn (.func 246) [] []), (10, .sl 6 (l.map Ack.cs)), (11, PV.int (l.length : Nat)), (12, PV.int (i : Nat))]) (fun _ => []) (fun i => i ≤ l.length ∧ ∀ a ∈ l.take i, lostOf q c a = false) (fun i => l.length - i) 0 ⟨Nat.zero_le _, by simp⟩ (Weak.gc ⟨rfl, rfl, rfl, rfl, rfl, rfl, trivial⟩ trivial rfl rfl rfl) (fun i hi => ?_)
  obtain ⟨hi, hno⟩ := hi
  repeat' ((conv => whnf); first | refine Q.a ?_ | refine Q.b ?_ | refine Q.c ?_ | refine Stk.is (by first | assumption | ((try simp only [lE]); first | done | assumption | omega)) ?_ | refine Stk.isnt (by first | assumption | ((try simp only [lE]); first | done | assumption | omega)) ?_ | (refine Stk.both (fun hb => ?_) (fun hb => ?_) <;> (try simp only [lE] at hb)) | refine Q.d ?_ | refine Q.e ?_ | refine Q.f ?_ | refine Q.g ?_ | refine Q.h ?_ | refine Q.i ?_ | refine Q.j ?_ | refine Q.k ?_ | refine Q.l ?_ | refine Q.m ?_ | refine Q.n ?_ | refine Q.o (h := ?_) | refine Q.p (h := ?_) | refine Q.q ?_ | refine Q.r ?_ | refine Q.s ?_ | refine Q.t ?_ | refine Q.u ?_ | refine Q.v ?_ | refine Q.w ?_ | refine Q.x ?_ | refine Q.y ?_ | refine Q.z ?_ | refine Stk.inl (h := fun tm => ?_) | refine Stk.inl0 (h := fun tm => ?_) | refine DefG.go (h := fun vs us => ?_) | intro (tm : Array Value) | refine Stk.op (ok_buildA rfl rfl rfl rfl) ?_ | refine Stk.scope ?_); all_goals (conv => whnf)
  all_goals first | (rw [lost_at (i := i) (by omega) (by unfold lostOf; rw [‹hasB q l[i].fr = true›, Bool.true_and]; exact decide_eq_true (by omega))]; (refine Q.r6 (h := ?_); repeat' (first | exact Q.r0 | refine Q.r1 ?_ ?_ | refine Q.r2 ?_ | exact Q.r7 | refine Q.r3 ?_ | refine Q.r4 ?_ | refine Q.r5 ?_)); done) | (rw [lost_no (take_all (k := i) (by omega) hno)]; (refine Q.r6 (h := ?_); repeat' (first | exact Q.r0 | refine Q.r1 ?_ ?_ | refine Q.r2 ?_ | exact Q.r7 | refine Q.r3 ?_ | refine Q.r4 ?_ | refine Q.r5 ?_)); done) | (refine ⟨i + 1, ⟨by omega, take_no (by omega) hno ?_⟩, by omega, Weak.gc ⟨rfl, rfl, rfl, rfl, rfl, rfl, trivial⟩ trivial rfl rfl rfl⟩; unfold lostOf; first | (rw [‹hasB q l[i].fr = false›]; rfl) | (rw [‹hasB q l[i].fr = true›, Bool.true_and]; exact decide_eq_false (by omega)))
theorem ready_bad {n f : Int} {l : List Ack} {i : Nat} (hi : i < l.length) (h : mayA n l[i] = false ∨ l[i].fr ∈ (l.take i).map Ack.fr) : readyB n f l = false := readyB_not fun hr => by
  obtain ⟨h1, h2⟩ := hr.2.1 i hi hi
  rcases h with h | h
  · rw [h] at h1; cases h1
  · exact h2 h
instance ready_spec (n f : Int) (l : List Ack) : HasSpec Tryz.prog 188 [PV.int n, PV.int f, .sl 6 (l.map Ack.cs)] (.v (.bool (readyB n f l))) := by
  cases hS : sizeB n f with
  | false =>
    have j0 := sizecheck_spec n f
    rw [hS] at j0
    rw [readyB_not (fun h => by have := h.1; rw [hS] at this; cases this)]
    refine ⟨?_⟩; refine Spec.ofR (h := fun F w0 => ?_)
    repeat' ((conv => whnf); first | refine Q.a ?_ | refine Q.b ?_ | refine Q.c ?_ | refine Stk.is (by first | assumption | ((try simp only [lE]); first | done | assumption | omega)) ?_ | refine Stk.isnt (by first | assumption | ((try simp only [lE]); first | done | assumption | omega)) ?_ | (refine Stk.both (fun hb => ?_) (fun hb => ?_) <;> (try simp only [lE] at hb)) | refine Q.d ?_ | refine Q.e ?_ | refine Q.f ?_ | refine Q.g ?_ | refine Q.h ?_ | refine Q.i ?_ | refine Q.j ?_ | refine Q.k ?_ | refine Q.l ?_ | refine Q.m ?_ | refine Q.n ?_ | refine Q.o (h := ?_) | refine Q.p (h := ?_) | refine Q.q ?_ | refine Q.r ?_ | refine Q.s ?_ | refine Q.t ?_ | refine Q.u ?_ | refine Q.v ?_ | refine Q.w ?_ | refine Q.x ?_ | refine Q.y ?_ | refine Q.z ?_ | refine Stk.inl (h := fun tm => ?_) | refine Stk.inl0 (h := fun tm => ?_) | refine DefG.go (h := fun vs us => ?_) | intro (tm : Array Value) | refine Stk.op (ok_buildA rfl rfl rfl rfl) ?_ | refine Stk.scope ?_); all_goals (conv => whnf)
    (refine Q.r6 (h := ?_); repeat' (first | exact Q.r0 | refine Q.r1 ?_ ?_ | refine Q.r2 ?_ | exact Q.r7 | refine Q.r3 ?_ | refine Q.r4 ?_ | refine Q.r5 ?_))
  | true =>
    have j0 := sizecheck_spec n f
    have hn := sizeB_iff.1 hS
    have j1 := back_spec n f
    rw [hS] at j0 j1
    refine ⟨Spec.bound 2 rfl fun hl => ?_⟩; rw [List.length_map] at hl; refine Spec.ofR (h := fun F w0 => ?_)
    repeat' ((conv => whnf); first | refine Q.a ?_ | refine Q.b ?_ | refine Q.c ?_ | refine Stk.is (by first | assumption | ((try simp only [lE]); first | done | assumption | omega)) ?_ | refine Stk.isnt (by first | assumption | ((try simp only [lE]); first | done | assumption | omega)) ?_ | (refine Stk.both (fun hb => ?_) (fun hb => ?_) <;> (try simp only [lE] at hb)) | refine Q.d ?_ | refine Q.e ?_ | refine Q.f ?_ | refine Q.g ?_ | refine Q.h ?_ | refine Q.i ?_ | refine Q.j ?_ | refine Q.k ?_ | refine Q.l ?_ | refine Q.m ?_ | refine Q.n ?_ | refine Q.o (h := ?_) | refine Q.p (h := ?_) | refine Q.q ?_ | refine Q.r ?_ | refine Q.s ?_ | refine Q.t ?_ | refine Q.u ?_ | refine Q.v ?_ | refine Q.w ?_ | refine Q.x ?_ | refine Q.y ?_ | refine Q.z ?_ | refine Stk.inl (h := fun tm => ?_) | refine Stk.inl0 (h := fun tm => ?_) | refine DefG.go (h := fun vs us => ?_) | intro (tm : Array Value) | refine Stk.op (ok_buildA rfl rfl rfl rfl) ?_ | refine Stk.scope ?_); all_goals (conv => whnf)
    refine Stk.loop (ι := Nat) (fun i => [(0, PV.int n), (1, PV.int f), (2, .sl 6 (l.map Ack.cs)), (7, .fn (.func 238) [] []), (8, PV.int (orN ((l.take i).map Ack.fr) : Nat)), (15, .sl 6 (l.map Ack.cs)), (16, PV.int (l.length : Nat)), (17, PV.int (i : Nat))]) (fun _ => []) (fun i => i ≤ l.length ∧ okTo n l i) (fun i => l.length - i) 0 ⟨Nat.zero_le _, fun j _ hj => by omega⟩ (Weak.gc ⟨rfl, rfl, rfl, rfl, rfl, rfl, rfl, rfl, trivial⟩ trivial rfl rfl rfl) (fun i hi => ?_)
    obtain ⟨hi, hok⟩ := hi
    repeat' ((conv => whnf); first | refine Q.a ?_ | refine Q.b ?_ | refine Q.c ?_ | refine Stk.is (by first | assumption | ((try simp only [lE]); first | done | assumption | omega)) ?_ | refine Stk.isnt (by first | assumption | ((try simp only [lE]); first | done | assumption | omega)) ?_ | (refine Stk.both (fun hb => ?_) (fun hb => ?_) <;> (try simp only [lE] at hb)) | refine Q.d ?_ | refine Q.e ?_ | refine Q.f ?_ | refine Q.g ?_ | refine Q.h ?_ | refine Q.i ?_ | refine Q.j ?_ | refine Q.k ?_ | refine Q.l ?_ | refine Q.m ?_ | refine Q.n ?_ | refine Q.o (h := ?_) | refine Q.p (h := ?_) | refine Q.q ?_ | refine Q.r ?_ | refine Q.s ?_ | refine Q.t ?_ | refine Q.u ?_ | refine Q.v ?_ | refine Q.w ?_ | refine Q.x ?_ | refine Q.y ?_ | refine Q.z ?_ | refine Stk.inl (h := fun tm => ?_) | refine Stk.inl0 (h := fun tm => ?_) | refine DefG.go (h := fun vs us => ?_) | intro (tm : Array Value) | refine Stk.op (ok_buildA rfl rfl rfl rfl) ?_ | refine Stk.scope ?_); all_goals (conv => whnf)
    · rw [ready_bad (i := i) (by omega) (.inl ‹_›)]
      (refine Q.r6 (h := ?_); repeat' (first | exact Q.r0 | refine Q.r1 ?_ ?_ | refine Q.r2 ?_ | exact Q.r7 | refine Q.r3 ?_ | refine Q.r4 ?_ | refine Q.r5 ?_))
    · rw [ready_bad (i := i) (by omega) (.inr (by
        have h := ‹hasB _ _ = true›
        rw [hasB_orN, Bool.and_eq_true, decide_eq_true_iff] at h
        exact h.2))]
      (refine Q.r6 (h := ?_); repeat' (first | exact Q.r0 | refine Q.r1 ?_ ?_ | refine Q.r2 ?_ | exact Q.r7 | refine Q.r3 ?_ | refine Q.r4 ?_ | refine Q.r5 ?_))
    · have h := ‹hasB _ _ = false›
      have hm := mayA_iff.1 ‹mayA n l[i] = true›
      rw [hasB_orN, replB_iff.2 (by omega), Bool.true_and, decide_eq_false_iff_not] at h
      refine ⟨i + 1, ⟨by omega, okTo_succ (by omega) hok ‹_› h⟩, by omega, ?_⟩
      have e : ((l.take (i + 1)).map Ack.fr) = (l.take i).map Ack.fr ++ [l[i].fr] := by rw [take_snoc' l i (by omega), List.map_append]; rfl
      rw [e, ← or_any]
      exact Weak.gc ⟨rfl, rfl, rfl, rfl, rfl, rfl, rfl, rfl, trivial⟩ trivial rfl rfl rfl
    · have e : tst (n - f ≤ (l.length : Int)) = readyB n f l := by
        rw [Bool.eq_iff_iff, tst_true, readyB_iff]
        exact ⟨fun h => ⟨hS, fun j hj _ => hok j hj (by omega), h⟩, fun h => h.2.2⟩
      rw [← e]
      (refine Q.r6 (h := ?_); repeat' (first | exact Q.r0 | refine Q.r1 ?_ ?_ | refine Q.r2 ?_ | exact Q.r7 | refine Q.r3 ?_ | refine Q.r4 ?_ | refine Q.r5 ?_))
end Go.Proofs.YtbjepdfnmbdplaaGreat
end
section
namespace Go.Proofs.YtbjepdfnmbdplaaGreat
open Go.RowKit
set_option linter.unusedSimpArgs false
set_option linter.unusedVariables false
set_option maxRecDepth 100000
set_option maxHeartbeats 1000000
instance notin_spec (a : Ack) (q : Int) : HasSpec Tryz.prog 245 [.agg a.cs, .ptr [PV.int q]] (.v (.bool (!hasB q a.fr))) := by
  refine ⟨?_⟩; refine Spec.ofR (h := fun F w0 => ?_)
  repeat' ((conv => whnf); first | refine Q.E ?_ | (refine Stk.both (fun hb => ?_) (fun hb => ?_) <;> (try simp only [lE] at hb))); all_goals (conv => whnf)
  all_goals (refine Q.r6 (h := ?_); repeat' (first | exact Q.r0 | refine Q.r1 ?_ ?_ | refine Q.r2 ?_ | exact Q.r7 | refine Q.r3 ?_ | refine Q.r4 ?_ | refine Q.r5 ?_))
theorem idxack_spec (l : List Ack) (q : Int) : HasSpec Tryz.prog 218 [.sl 6 (l.map Ack.cs), .fn (.func 245) [] [.ptr [PV.int q]]] (PV.int (idxF (fun a => !hasB q a.fr) l)) := by
  refine ⟨Spec.bound 0 rfl fun hl => ?_⟩; rw [List.length_map] at hl; refine Spec.ofR (h := fun F w0 => ?_)
  repeat' ((conv => whnf); first | refine Q.E ?_ | (refine Stk.both (fun hb => ?_) (fun hb => ?_) <;> (try simp only [lE] at hb))); all_goals (conv => whnf)
  refine Stk.loop (ι := Nat) (fun i => [(0, .sl 6 (l.map Ack.cs)), (1, .fn (.func 245) [] [.ptr [PV.int q]]), (7, PV.int (l.length : Nat)), (8, PV.int (i : Nat))]) (fun _ => []) (fun i => i ≤ l.length ∧ ∀ x ∈ l.take i, (!hasB q x.fr) = false) (fun i => l.length - i) 0 ⟨Nat.zero_le _, by simp⟩ (Weak.gc ⟨rfl, rfl, rfl, rfl, trivial⟩ trivial rfl rfl rfl) (fun i hi => ?_)
  obtain ⟨hi, hno⟩ := hi
  by_cases hlt : i < l.length
  · cases hq : hasB q l[i].fr with
    | false =>
      repeat' ((conv => whnf); first | refine Q.E ?_ | (refine Stk.both (fun hb => ?_) (fun hb => ?_) <;> (try simp only [lE] at hb))); all_goals (conv => whnf)
      rw [idxF_at (k := i) hlt hno (by simp [hq])]
      (refine Q.r6 (h := ?_); repeat' (first | exact Q.r0 | refine Q.r1 ?_ ?_ | refine Q.r2 ?_ | exact Q.r7 | refine Q.r3 ?_ | refine Q.r4 ?_ | refine Q.r5 ?_))
    | true =>
      repeat' ((conv => whnf); first | refine Q.E ?_ | (refine Stk.both (fun hb => ?_) (fun hb => ?_) <;> (try simp only [lE] at hb))); all_goals (conv => whnf)
      exact ⟨i + 1, ⟨by omega, take_no hlt hno (by simp [hq])⟩, by omega, Weak.gc ⟨rfl, rfl, rfl, rfl, trivial⟩ trivial rfl rfl rfl⟩
  · repeat' ((conv => whnf); first | refine Q.E ?_ | (refine Stk.both (fun hb => ?_) (fun hb => ?_) <;> (try simp only [lE] at hb))); all_goals (conv => whnf)
    rw [idxF_no (take_all (by omega) hno)]
    (refine Q.r6 (h := ?_); repeat' (first | exact Q.r0 | refine Q.r1 ?_ ?_ | refine Q.r2 ?_ | exact Q.r7 | refine Q.r3 ?_ | refine Q.r4 ?_ | refine Q.r5 ?_))
theorem inQ_all {q : Int} {l : List Ack} (h : ∀ a ∈ l, hasB q a.fr = true) : inQ q l = l := List.filter_eq_self.2 h
theorem filter_take_s (p : Ack → Bool) (l : List Ack) (b : Nat) (h : b < l.length) : (l.take (b + 1)).filter p = (l.take b).filter p ++ (if p l[b] = true then [l[b]] else []) := by
  rw [take_snoc' l b h, List.filter_append, List.filter_cons, List.filter_nil]
theorem choose_c (n f q id : Int) (l : List Ack) (hl : l.length ≤ 1000000) (hr : readyB n f l = true) (hq : 1 ≤ q ∧ q ≤ 511) (hs : 1 ≤ selfI id ∧ selfI id ≤ n) (ht : ¬ 0 < (toldF l).1) (hlost : lostB q (selfI id) l = false) (hne : l ≠ []) (k0 : Nat) (hk : k0 < l.length) (hb : ∀ a ∈ l.take k0, hasB q a.fr = true) (hkq : hasB q l[k0].fr = false) :
    HasSpec Tryz.prog 189 [PV.int n, PV.int f, PV.int q, PV.int id, .sl 6 (l.map Ack.cs)] (.tup [PV.int (if inQ q l = [] then 0 else greatI (inQ q l)), PV.int (if inQ q l = [] then 33 else 0)]) := by
  have jx := idxack_spec l q
  rw [idxF_at (k := k0) hk (fun a ha => by rw [hb a ha]; rfl) (by rw [hkq]; rfl)] at jx
  refine ⟨?_⟩; refine Spec.ofR (h := fun F w0 => ?_)
  repeat' ((conv => whnf); first | refine Q.E ?_ | (refine Stk.both (fun hb => ?_) (fun hb => ?_) <;> (try simp only [lE] at hb))); all_goals (conv => whnf)
  refine Stk.weakC (Weak.frzBox (id := 7) (cells := [PV.int q]) (env' := [(50, .sl 6 (l.map Ack.cs)), (7, .ptr [PV.int q])]) (lh' := []) rfl rfl ⟨.inl ⟨rfl, rfl⟩, .inr ⟨rfl, rfl⟩, trivial⟩ trivial rfl) ?_
  conv => whnf
  refine Stk.byO (cloneack_spec l hl) (h := ?_)
  repeat' ((conv => whnf); first | refine Q.E ?_ | (refine Stk.both (fun hb => ?_) (fun hb => ?_) <;> (try simp only [lE] at hb))); all_goals (conv => whnf)
  refine Stk.inl (h := fun tm => ?_)
  repeat' ((conv => whnf); first | refine Q.E ?_ | (refine Stk.both (fun hb => ?_) (fun hb => ?_) <;> (try simp only [lE] at hb))); all_goals (conv => whnf)
  refine Stk.callB jx (hb := by exact .cons (.row rfl (all_map_closed (fun _ => rfl) _)) (.cons (.sub rfl (.refl _)) .nil)) (k := ?_)
  repeat' ((conv => whnf); first | refine Q.E ?_ | (refine Stk.both (fun hb => ?_) (fun hb => ?_) <;> (try simp only [lE] at hb))); all_goals (conv => whnf)
  refine Stk.loop (ι := Nat × Nat × List Ack) (fun p => [(0, .row 51 0), (1, .fn (.func 245) [] [.ptr [PV.int q]]), (5, PV.int (p.1 : Nat)), (6, PV.int (p.2.1 : Nat))]) (fun p => [(51, .row 86 6 0 (p.2.2.map Ack.cs))]) (fun p => p.1 < p.2.1 ∧ p.2.1 ≤ l.length ∧ p.2.2.length = l.length ∧ p.2.2.take p.1 = (l.take p.2.1).filter (fun a => hasB q a.fr) ∧ p.2.2.drop p.2.1 = l.drop p.2.1) (fun p => l.length - p.2.1) (k0, k0 + 1, l) ⟨by show k0 < k0 + 1; omega, by show k0 + 1 ≤ _; omega, rfl, by
      show l.take k0 = (l.take (k0 + 1)).filter _
      rw [filter_take_s _ _ _ hk, if_neg (by rw [hkq]; simp), List.append_nil]
      exact (List.filter_eq_self.2 hb).symm, rfl⟩ (Weak.gc ⟨rfl, rfl, rfl, rfl, trivial⟩ ⟨rfl, trivial⟩ rfl (onlyH_row (fun _ => rfl) rfl) rfl) (fun p hp => ?_)
  obtain ⟨a, b, zs⟩ := p
  obtain ⟨hab, hbl, hzl, htk, hdr⟩ := hp
  dsimp only at hab hbl hzl htk hdr ⊢
  by_cases hlt : b < l.length
  · have hzb : zs[b] = l[b] := by
      have h1 : (zs.drop b)[0]? = (l.drop b)[0]? := by rw [hdr]
      rw [List.getElem?_drop, List.getElem?_drop, Nat.add_zero, List.getElem?_eq_getElem (by omega), List.getElem?_eq_getElem hlt] at h1
      injection h1
    have hd2 : zs.drop (b + 1) = l.drop (b + 1) := by
      have := congrArg (List.drop 1) hdr
      rwa [List.drop_drop, List.drop_drop] at this
    cases hq2 : hasB q l[b].fr with
    | true =>
      repeat' ((conv => whnf); first | refine Q.E ?_ | (refine Stk.both (fun hb => ?_) (fun hb => ?_) <;> (try simp only [lE] at hb))); all_goals (conv => whnf)
      refine Stk.op (ok_ix_row (i := b) rfl rfl rfl (by omega) rfl) ?_
      repeat' ((conv => whnf); first | refine Q.E ?_ | (refine Stk.both (fun hb => ?_) (fun hb => ?_) <;> (try simp only [lE] at hb))); all_goals (conv => whnf)
      refine Stk.op (ok_ld_row (f := Ack.cs) (fun _ => rfl) rfl rfl (by omega) rfl) ?_
      rw [hzb]
      repeat' ((conv => whnf); first | refine Q.E ?_ | (refine Stk.both (fun hb => ?_) (fun hb => ?_) <;> (try simp only [lE] at hb))); all_goals (conv => whnf)
      refine Stk.op (ok_ix_row (i := a) rfl rfl rfl (by omega) rfl) ?_
      repeat' ((conv => whnf); first | refine Q.E ?_ | (refine Stk.both (fun hb => ?_) (fun hb => ?_) <;> (try simp only [lE] at hb))); all_goals (conv => whnf)
      refine Stk.eff (h := eff_st_row (f := Ack.cs) (a := l[b]) (fun _ => rfl) rfl rfl (by omega) rfl) (k := ?_)
      repeat' ((conv => whnf); first | refine Q.E ?_ | (refine Stk.both (fun hb => ?_) (fun hb => ?_) <;> (try simp only [lE] at hb))); all_goals (conv => whnf)
      refine ⟨(a + 1, b + 1, zs.set a l[b]), ⟨by show a + 1 < b + 1; omega, by show b + 1 ≤ _; omega, by show (zs.set a l[b]).length = _; rw [List.length_set]; exact hzl, ?_, ?_⟩, by show l.length - (b + 1) < l.length - b; omega, Weak.gc ⟨rfl, rfl, rfl, rfl, trivial⟩ ⟨rfl, trivial⟩ rfl (onlyH_row (fun _ => rfl) rfl) rfl⟩
      · show (zs.set a l[b]).take (a + 1) = (l.take (b + 1)).filter _
        rw [take_set_at zs a l[b] (by omega), htk, filter_take_s _ _ _ hlt, if_pos hq2]
      · show (zs.set a l[b]).drop (b + 1) = l.drop (b + 1)
        rw [drop_set_lt zs a (b + 1) l[b] (by omega), hd2]
    | false =>
      repeat' ((conv => whnf); first | refine Q.E ?_ | (refine Stk.both (fun hb => ?_) (fun hb => ?_) <;> (try simp only [lE] at hb))); all_goals (conv => whnf)
      refine Stk.op (ok_ix_row (i := b) rfl rfl rfl (by omega) rfl) ?_
      repeat' ((conv => whnf); first | refine Q.E ?_ | (refine Stk.both (fun hb => ?_) (fun hb => ?_) <;> (try simp only [lE] at hb))); all_goals (conv => whnf)
      refine Stk.op (ok_ld_row (f := Ack.cs) (fun _ => rfl) rfl rfl (by omega) rfl) ?_
      rw [hzb]
      repeat' ((conv => whnf); first | refine Q.E ?_ | (refine Stk.both (fun hb => ?_) (fun hb => ?_) <;> (try simp only [lE] at hb))); all_goals (conv => whnf)
      refine ⟨(a, b + 1, zs), ⟨by show a < b + 1; omega, by show b + 1 ≤ _; omega, hzl, ?_, hd2⟩, by show l.length - (b + 1) < l.length - b; omega, Weak.gc ⟨rfl, rfl, rfl, rfl, trivial⟩ ⟨rfl, trivial⟩ rfl (onlyH_row (fun _ => rfl) rfl) rfl⟩
      show zs.take a = (l.take (b + 1)).filter _
      rw [htk, filter_take_s _ _ _ hlt, if_neg (by rw [hq2]; simp), List.append_nil]
  · have hb2 : b = l.length := by omega
    have hfin : zs.take a = inQ q l := by rw [htk, hb2, List.take_length]; rfl
    have hfl : (inQ q l).length = a := by rw [← hfin, List.length_take]; omega
    repeat' ((conv => whnf); first | refine Q.E ?_ | (refine Stk.both (fun hb => ?_) (fun hb => ?_) <;> (try simp only [lE] at hb))); all_goals (conv => whnf)
    refine Stk.op (ok_part_lo rfl rfl rfl (by omega) (by rw [List.length_map]; omega) rfl) ?_
    repeat' ((conv => whnf); first | refine Q.E ?_ | (refine Stk.both (fun hb => ?_) (fun hb => ?_) <;> (try simp only [lE] at hb))); all_goals (conv => whnf)
    refine Stk.eff (h := eff_clear_rs rfl rfl (by rw [List.length_map]; omega) (by rw [List.length_map]; omega) (by decide) rfl rfl) (k := ?_)
    repeat' ((conv => whnf); first | refine Q.E ?_ | (refine Stk.both (fun hb => ?_) (fun hb => ?_) <;> (try simp only [lE] at hb))); all_goals (conv => whnf)
    refine Stk.app rfl (eff_cut_map (l := zs) (f := Ack.cs) (i := a) rfl rfl rfl (by omega) (by intro h; have := congrArg List.length h; simp at this; omega) rfl) ?_
    rw [hfin]
    by_cases hz : inQ q l = []
    · rw [if_pos hz, if_pos hz]
      have hz2 : a = 0 := by rw [← hfl, hz]; rfl
      repeat' ((conv => whnf); first | refine Q.E ?_ | (refine Stk.both (fun hb => ?_) (fun hb => ?_) <;> (try simp only [lE] at hb))); all_goals (conv => whnf)
      all_goals (refine Q.r6 (h := ?_); repeat' (first | exact Q.r0 | refine Q.r1 ?_ ?_ | refine Q.r2 ?_ | exact Q.r7 | refine Q.r3 ?_ | refine Q.r4 ?_ | refine Q.r5 ?_))
    · rw [if_neg hz, if_neg hz]
      have hz2 : 0 < (inQ q l).length := Nat.pos_of_ne_zero fun h => hz (List.eq_nil_of_length_eq_zero h)
      repeat' ((conv => whnf); first | refine Q.E ?_ | (refine Stk.both (fun hb => ?_) (fun hb => ?_) <;> (try simp only [lE] at hb))); all_goals (conv => whnf)
      refine Stk.callB (great_spec (inQ q l)) (hb := by exact .cons (.row rfl (all_map_closed (fun _ => rfl) _)) .nil) (k := ?_)
      repeat' ((conv => whnf); first | refine Q.E ?_ | (refine Stk.both (fun hb => ?_) (fun hb => ?_) <;> (try simp only [lE] at hb))); all_goals (conv => whnf)
      (refine Q.r6 (h := ?_); repeat' (first | exact Q.r0 | refine Q.r1 ?_ ?_ | refine Q.r2 ?_ | exact Q.r7 | refine Q.r3 ?_ | refine Q.r4 ?_ | refine Q.r5 ?_))
end Go.Proofs.YtbjepdfnmbdplaaGreat
end
section
namespace Go.Proofs.YtbjepdfnmbdplaaGreat
open Go.RowKit
set_option linter.unusedSimpArgs false
set_option linter.unusedVariables false
set_option maxRecDepth 100000
set_option maxHeartbeats 1000000
theorem choose_spec (n f q id : Int) (l : List Ack) (hl : l.length ≤ 1000000) : HasSpec Tryz.prog 189 [PV.int n, PV.int f, PV.int q, PV.int id, .sl 6 (l.map Ack.cs)] (.tup [PV.int (chooseR n f q id l).1, PV.int (chooseR n f q id l).2]) := by
  by_cases hc : readyB n f l = true ∧ (listS q 9).length ≠ 0 ∧ 1 ≤ selfI id ∧ selfI id ≤ n
  · obtain ⟨hr, hq0, hs⟩ := hc
    have hq : 1 ≤ q ∧ q ≤ 511 := by
      have := cnt_zero q
      by_cases h : 1 ≤ q ∧ q ≤ 511
      · exact h
      · have h2 : ((listS q 9).length : Int) = 0 := this.mpr h
        omega
    have hne : l ≠ [] := fun e => by
      have hp := readyB_iff.1 hr
      have := hp.2.2
      have h3 := sizeB_iff.1 hp.1
      rw [e] at this; simp at this; omega
    by_cases ht : 0 < (toldF l).1
    · rw [show chooseR n f q id l = ((toldF l).2, 0) by unfold chooseR; rw [if_pos ⟨hr, hq0, hs⟩, if_pos ht]]
      refine ⟨?_⟩; refine Spec.ofR (h := fun F w0 => ?_)
      repeat' ((conv => whnf); first | refine Q.E ?_ | (refine Stk.both (fun hb => ?_) (fun hb => ?_) <;> (try simp only [lE] at hb))); all_goals (conv => whnf)
      all_goals (refine Q.r6 (h := ?_); repeat' (first | exact Q.r0 | refine Q.r1 ?_ ?_ | refine Q.r2 ?_ | exact Q.r7 | refine Q.r3 ?_ | refine Q.r4 ?_ | refine Q.r5 ?_))
    · cases hlost : lostB q (selfI id) l with
      | true =>
        rw [show chooseR n f q id l = (greatI l, 0) by unfold chooseR; rw [if_pos ⟨hr, hq0, hs⟩, if_neg ht, if_pos hlost]]
        refine ⟨?_⟩; refine Spec.ofR (h := fun F w0 => ?_)
        repeat' ((conv => whnf); first | refine Q.E ?_ | (refine Stk.both (fun hb => ?_) (fun hb => ?_) <;> (try simp only [lE] at hb))); all_goals (conv => whnf)
        all_goals (refine Q.r6 (h := ?_); repeat' (first | exact Q.r0 | refine Q.r1 ?_ ?_ | refine Q.r2 ?_ | exact Q.r7 | refine Q.r3 ?_ | refine Q.r4 ?_ | refine Q.r5 ?_))
      | false =>
        have e0 : chooseR n f q id l = (if inQ q l = [] then 0 else greatI (inQ q l), if inQ q l = [] then 33 else 0) := by
          unfold chooseR
          rw [if_pos ⟨hr, hq0, hs⟩, if_neg ht, if_neg (by rw [hlost]; simp)]
          split <;> rfl
        rw [e0]
        by_cases hall : ∀ a ∈ l, hasB q a.fr = true
        · have jx := idxack_spec l q
          rw [idxF_no (fun a ha => by rw [hall a ha]; rfl)] at jx
          have hz2 : 0 < l.length := Nat.pos_of_ne_zero fun h => hne (List.eq_nil_of_length_eq_zero h)
          rw [inQ_all hall, if_neg hne, if_neg hne]
          refine ⟨?_⟩; refine Spec.ofR (h := fun F w0 => ?_)
          repeat' ((conv => whnf); first | refine Q.E ?_ | (refine Stk.both (fun hb => ?_) (fun hb => ?_) <;> (try simp only [lE] at hb))); all_goals (conv => whnf)
          refine Stk.weakC (Weak.frzBox (id := 7) (cells := [PV.int q]) (env' := [(50, .sl 6 (l.map Ack.cs)), (7, .ptr [PV.int q])]) (lh' := []) rfl rfl ⟨.inl ⟨rfl, rfl⟩, .inr ⟨rfl, rfl⟩, trivial⟩ trivial rfl) ?_
          conv => whnf
          refine Stk.byO (cloneack_spec l hl) (h := ?_)
          repeat' ((conv => whnf); first | refine Q.E ?_ | (refine Stk.both (fun hb => ?_) (fun hb => ?_) <;> (try simp only [lE] at hb))); all_goals (conv => whnf)
          refine Stk.inl (h := fun tm => ?_)
          repeat' ((conv => whnf); first | refine Q.E ?_ | (refine Stk.both (fun hb => ?_) (fun hb => ?_) <;> (try simp only [lE] at hb))); all_goals (conv => whnf)
          refine Stk.callB jx (hb := by exact .cons (.row rfl (all_map_closed (fun _ => rfl) _)) (.cons (.sub rfl (.refl _)) .nil)) (k := ?_)
          repeat' ((conv => whnf); first | refine Q.E ?_ | (refine Stk.both (fun hb => ?_) (fun hb => ?_) <;> (try simp only [lE] at hb))); all_goals (conv => whnf)
          refine Stk.callB (great_spec l) (hb := by exact .cons (.row rfl (all_map_closed (fun _ => rfl) _)) .nil) (k := ?_)
          repeat' ((conv => whnf); first | refine Q.E ?_ | (refine Stk.both (fun hb => ?_) (fun hb => ?_) <;> (try simp only [lE] at hb))); all_goals (conv => whnf)
          (refine Q.r6 (h := ?_); repeat' (first | exact Q.r0 | refine Q.r1 ?_ ?_ | refine Q.r2 ?_ | exact Q.r7 | refine Q.r3 ?_ | refine Q.r4 ?_ | refine Q.r5 ?_))
        · have hex : (l.any fun a => !hasB q a.fr) = true := by
            rw [List.any_eq_true]
            by_cases h : ∃ x ∈ l, (!hasB q x.fr) = true
            · exact h
            · exact absurd (fun a ha => by
                cases e : hasB q a.fr with
                | true => rfl
                | false => exact absurd ⟨a, ha, by rw [e]; rfl⟩ h) hall
          have hk : l.findIdx (fun a => !hasB q a.fr) < l.length := List.findIdx_lt_length_of_exists (List.any_eq_true.1 hex)
          refine choose_c n f q id l hl hr hq hs ht hlost hne _ hk (fun a ha => ?_) ?_
          · obtain ⟨j, hj, rfl⟩ := List.mem_take_iff_getElem.1 ha
            have := List.not_of_lt_findIdx (p := fun a : Ack => !hasB q a.fr) (xs := l) (i := j) (by omega)
            simpa using this
          · have := List.findIdx_getElem (p := fun a : Ack => !hasB q a.fr) (xs := l) (w := hk)
            simpa using this
  · rw [show chooseR n f q id l = (0, 2) from if_neg hc]
    have hcz := cnt_zero q
    cases hr : readyB n f l with
    | false =>
      refine ⟨?_⟩; refine Spec.ofR (h := fun F w0 => ?_)
      repeat' ((conv => whnf); first | refine Q.E ?_ | (refine Stk.both (fun hb => ?_) (fun hb => ?_) <;> (try simp only [lE] at hb))); all_goals (conv => whnf)
      all_goals (refine Q.r6 (h := ?_); repeat' (first | exact Q.r0 | refine Q.r1 ?_ ?_ | refine Q.r2 ?_ | exact Q.r7 | refine Q.r3 ?_ | refine Q.r4 ?_ | refine Q.r5 ?_))
    | true =>
      by_cases hq : 1 ≤ q ∧ q ≤ 511
      · have hlen : ((listS q 9).length : Int) ≠ 0 := fun h => (hcz.mp h) hq
        have hno : ¬ (1 ≤ selfI id ∧ selfI id ≤ n) := fun hs => hc ⟨hr, by omega, hs⟩
        clear hcz
        by_cases h1 : selfI id < 1
        · refine ⟨?_⟩; refine Spec.ofR (h := fun F w0 => ?_)
          repeat' ((conv => whnf); first | refine Q.E ?_ | (refine Stk.both (fun hb => ?_) (fun hb => ?_) <;> (try simp only [lE] at hb))); all_goals (conv => whnf)
          all_goals (refine Q.r6 (h := ?_); repeat' (first | exact Q.r0 | refine Q.r1 ?_ ?_ | refine Q.r2 ?_ | exact Q.r7 | refine Q.r3 ?_ | refine Q.r4 ?_ | refine Q.r5 ?_))
        · have h2 : n < selfI id := by omega
          refine ⟨?_⟩; refine Spec.ofR (h := fun F w0 => ?_)
          repeat' ((conv => whnf); first | refine Q.E ?_ | (refine Stk.both (fun hb => ?_) (fun hb => ?_) <;> (try simp only [lE] at hb))); all_goals (conv => whnf)
          all_goals (refine Q.r6 (h := ?_); repeat' (first | exact Q.r0 | refine Q.r1 ?_ ?_ | refine Q.r2 ?_ | exact Q.r7 | refine Q.r3 ?_ | refine Q.r4 ?_ | refine Q.r5 ?_))
      · refine ⟨?_⟩; refine Spec.ofR (h := fun F w0 => ?_)
        repeat' ((conv => whnf); first | refine Q.E ?_ | (refine Stk.both (fun hb => ?_) (fun hb => ?_) <;> (try simp only [lE] at hb))); all_goals (conv => whnf)
        all_goals (refine Q.r6 (h := ?_); repeat' (first | exact Q.r0 | refine Q.r1 ?_ ?_ | refine Q.r2 ?_ | exact Q.r7 | refine Q.r3 ?_ | refine Q.r4 ?_ | refine Q.r5 ?_))
end Go.Proofs.YtbjepdfnmbdplaaGreat
end
section
namespace Go.Proofs.YtbjepdfnmbdplaaGreat
open Go.RowKit
set_option linter.unusedSimpArgs false
set_option linter.unusedVariables false
set_option maxRecDepth 100000
set_option maxHeartbeats 4000000
end Go.Proofs.YtbjepdfnmbdplaaGreat
end
section
namespace Go.Proofs.YtbjepdfnmbdplaaGreat
open Go.RowKit
set_option linter.unusedSimpArgs false
set_option linter.unusedVariables false
set_option maxRecDepth 100000
set_option maxHeartbeats 4000000
end Go.Proofs.YtbjepdfnmbdplaaGreat
end
section
namespace Go.Proofs.YtbjepdfnmbdplaaGreat
open Go.RowKit
set_option linter.unusedSimpArgs false
set_option linter.unusedVariables false
set_option maxRecDepth 100000
set_option maxHeartbeats 4000000
end Go.Proofs.YtbjepdfnmbdplaaGreat
end
section
namespace Go.Proofs.YtbjepdfnmbdplaaGreat
open Go.RowKit
set_option linter.unusedSimpArgs false
set_option linter.unusedVariables false
def rscA (s : Int) (e : Ent) : Ack := ⟨3, s, e.bal, e.t, e.abal, e.phase⟩
def rsdA (m : Msg) : Ack := ⟨3, m.fr, m.bal, m.t, m.abal, m.phase⟩
def rscM (s id b : Int) (e : Ent) : Msg := ⟨6, s, id, 0, b, 0, 0, e.quorum, e.payload, 0, 0, [], [], 0⟩
def rsdM (s : Int) (m : Msg) (e : Ent) : Msg := ⟨7, s, m.id, e.t, e.bal, e.abal, e.phase, 0, noByte, 0, 0, [], [], 0⟩
def takM (s t b : Int) (e : Ent) : Msg := ⟨3, s, e.id, t, b, 0, 0, e.quorum, e.payload, 0, 0, [], [], 0⟩
def rscI (r : Rpl) (e : Ent) : Int := nextI (max e.bal e.seen) r.self r.n
def rscX (r : Rpl) (e : Ent) : Int := nextX (max e.bal e.seen) r.self r.n
noncomputable def staE (r : Rpl) (e : Ent) : Ent := ackR (p28E r e (rscI r e)) (rscA r.self (p28E r e (rscI r e)))
noncomputable def staR (r : Rpl) (e : Ent) : Rpl := rputR (p28R r e (rscI r e)) (staE r e)
open Classical in
noncomputable def onSta (r : Rpl) (id : Int) : Rpl × List Out :=
  if repB r = true ∧ findB r.entries id = true ∧ openB (findT r.entries id).phase = true ∧ rscX r (findT r.entries id) = 0 ∧ p28B r (findT r.entries id) (rscI r (findT r.entries id)) = true
    ∧ ackB (p28E r (findT r.entries id) (rscI r (findT r.entries id))) (rscA r.self (p28E r (findT r.entries id) (rscI r (findT r.entries id)))) = true ∧ rputX (p28R r (findT r.entries id) (rscI r (findT r.entries id))) (staE r (findT r.entries id)) = 0 then
    (staR r (findT r.entries id), allO (staR r (findT r.entries id)) (rscM r.self id (rscI r (findT r.entries id)) (staE r (findT r.entries id))))
  else (r, [])
open Classical in
noncomputable def onRsc (r : Rpl) (m : Msg) : Rpl × List Out :=
  if m.kind = 6 ∧ hearsB r m = true ∧ r.n < m.bal ∧ ownI m.bal r.n = m.fr ∧ lrnB r m.id m.quorum m.payload = true then
    (let s := lrnR r m.id m.quorum m.payload; let e := lrnE r m.id m.quorum m.payload
    if settB e.phase = true then (s, helpO s e m.fr)
    else if m.bal < e.bal then (s, ansO r m 8 e.bal)
    else if m.bal = e.bal then (r, [])
    else if p28B s e m.bal = true then (p28R s e m.bal, [⟨m.fr, rsdM r.self m (p28E s e m.bal)⟩])
    else (r, []))
  else (r, [])
open Classical in
noncomputable def onRsd (r : Rpl) (m : Msg) : Rpl × List Out :=
  if m.kind = 7 ∧ hearsB r m = true ∧ r.n < m.bal ∧ ownI m.bal r.n = r.self ∧ findB r.entries m.id = true then
    (let e := findT r.entries m.id
    if openB e.phase = true ∧ e.bal = m.bal ∧ e.abal ≠ m.bal ∧ ackB e (rsdA m) = true ∧ rputX r (ackR e (rsdA m)) = 0 then
      (let e := ackR e (rsdA m); let s := rputR r e; let l := ofL e.acks 3 m.bal; let c := chooseR r.n r.f e.quorum e.id l
      if readyB r.n r.f l = true then (if c.2 = 0 ∧ tkB s e c.1 m.bal = true then (tkR s e c.1 m.bal, allO (tkR s e c.1 m.bal) (takM r.self c.1 m.bal e)) else (r, []))
      else (s, []))
    else (r, []))
  else (r, [])
end Go.Proofs.YtbjepdfnmbdplaaGreat
end
section
namespace Go.Proofs.YtbjepdfnmbdplaaGreat
open Go.RowKit
set_option linter.unusedSimpArgs false
set_option linter.unusedVariables false
set_option maxRecDepth 100000
set_option maxHeartbeats 4000000
instance answer28_spec (s : Int) (e : Ent) : HasSpec Tryz.prog 100 [PV.int s, .agg e.cs] (.agg (rscA s e).cs) := by
  refine ⟨?_⟩; refine Spec.ofR (h := fun F w0 => ?_)
  repeat' ((conv => whnf); first | refine Q.E ?_ | (refine Stk.both (fun hb => ?_) (fun hb => ?_) <;> (try simp only [lE] at hb))); all_goals (conv => whnf)
  (refine Q.r6 (h := ?_); repeat' (first | exact Q.r0 | refine Q.r1 ?_ ?_ | refine Q.r2 ?_ | exact Q.r7 | refine Q.r3 ?_ | refine Q.r4 ?_ | refine Q.r5 ?_))
theorem p28S_self (r : Rpl) (e : Ent) : (p28S r e).self = r.self ∧ (p28S r e).n = r.n ∧ (p28S r e).f = r.f ∧ (p28S r e).seq = r.seq := by
  unfold p28S timR
  split
  · split
    · exact ⟨rfl, rfl, rfl, rfl⟩
    · exact ⟨rfl, rfl, rfl, rfl⟩
  · exact ⟨rfl, rfl, rfl, rfl⟩
theorem promise_bal {r : Rpl} {e : Ent} {b : Int} (h : p28B r e b = true) : (p28E r e b).bal = b ∧ repB (p28R r e b) = true ∧ (p28R r e b).self = r.self ∧ (p28R r e b).n = r.n := by
  by_cases hc : repB r = true ∧ entB e = true ∧ p28X r e = 0 ∧ promX e b (p28T r e) = 0 ∧ rputX (p28S r e) (p28P r e b) = 0
  · obtain ⟨_, h2, h3⟩ := p28_yes hc
    obtain ⟨_, _, _, c4, c5⟩ := hc
    obtain ⟨s1, s2, _, _⟩ := p28S_self r e
    rw [h2, h3]
    refine ⟨?_, rput_rep c5, ?_, ?_⟩
    · unfold p28P
      rw [promE_yes c4]
      rfl
    · rw [rputR_yes c5]; exact s1
    · rw [rputR_yes c5]; exact s2
  · rw [(p28_no hc).1] at h
    cases h
theorem sta_no {r : Rpl} {id : Int} (h : ¬ (repB r = true ∧ findB r.entries id = true ∧ openB (findT r.entries id).phase = true ∧ rscX r (findT r.entries id) = 0 ∧ p28B r (findT r.entries id) (rscI r (findT r.entries id)) = true
    ∧ ackB (p28E r (findT r.entries id) (rscI r (findT r.entries id))) (rscA r.self (p28E r (findT r.entries id) (rscI r (findT r.entries id)))) = true ∧ rputX (p28R r (findT r.entries id) (rscI r (findT r.entries id))) (staE r (findT r.entries id)) = 0)) : onSta r id = (r, []) := if_neg h
theorem sta_yes {r : Rpl} {id : Int} (h : repB r = true ∧ findB r.entries id = true ∧ openB (findT r.entries id).phase = true ∧ rscX r (findT r.entries id) = 0 ∧ p28B r (findT r.entries id) (rscI r (findT r.entries id)) = true
    ∧ ackB (p28E r (findT r.entries id) (rscI r (findT r.entries id))) (rscA r.self (p28E r (findT r.entries id) (rscI r (findT r.entries id)))) = true ∧ rputX (p28R r (findT r.entries id) (rscI r (findT r.entries id))) (staE r (findT r.entries id)) = 0) : onSta r id = (staR r (findT r.entries id), allO (staR r (findT r.entries id)) (rscM r.self id (rscI r (findT r.entries id)) (staE r (findT r.entries id)))) := if_pos h
end Go.Proofs.YtbjepdfnmbdplaaGreat
end
section
namespace Go.Proofs.YtbjepdfnmbdplaaGreat
open Go.RowKit
set_option linter.unusedSimpArgs false
set_option linter.unusedVariables false
set_option maxRecDepth 100000
set_option maxHeartbeats 4000000
theorem allO_pos {r : Rpl} (m : Msg) (h : repB r = true) : 0 < (allO r m).length := by
  have hn := (nums_p (rep_parts h).1).1
  unfold numsP at hn
  unfold allO
  rw [if_pos h, List.length_map]
  have key : ∀ i : Nat, i < 3 → ((i : Int) + 1 ≠ r.self) → 0 < (othL r).length := fun i hi hs => by
    refine List.length_pos_of_mem (a := (i : Int) + 1) ?_
    unfold othL
    rw [List.mem_filter, List.mem_map]
    exact ⟨⟨i, List.mem_range.2 (by omega), rfl⟩, decide_eq_true hs⟩
  by_cases e : r.self = 1
  · exact key 1 (by omega) (by omega)
  · exact key 0 (by omega) (by omega)
theorem all_raw (r : Rpl) {m : Msg} (h1 : m.atts = []) (h2 : m.marks = []) : HasSpec Tryz.prog 75 [.agg r.cs, .agg m.raw] (PV.outs (allO r m)) := HasSpec.sub (.cons (.refl _) (.cons (msg_sub h1 h2) .nil)) (all_spec r m)
instance start28_spec (r : Rpl) (id : Int) : HasSpec Tryz.prog 34 [.agg r.cs, PV.int id] (.tup [.agg (onSta r id).1.cs, PV.outs (onSta r id).2]) := by
  have j1 := tablefind_spec r.entries id
  by_cases hr : repB r = true
  · have j2 := stk_yes hr
    by_cases hf : findB r.entries id = true
    · rw [hf] at j1
      by_cases ho : openB (findT r.entries id).phase = true
      · have he := find_ent hr hf
        have hy := @sta_yes r id
        have hn := @sta_no r id
        generalize findT r.entries id = e at *
        have hp := openB_iff.1 ho
        have j3 := next_spec (max e.bal e.seen) r.self r.n
        have j4 := promise28_spec r e (rscI r e)
        have hb := @promise_bal r e (rscI r e)
        by_cases hX : rscX r e = 0
        · by_cases hB : p28B r e (rscI r e) = true
          · obtain ⟨b1, b2, b3, b4⟩ := hb hB
            rw [hB] at j4
            have j5 := entryack_spec (p28E r e (rscI r e)) (rscA r.self (p28E r e (rscI r e)))
            have j6 := put_spec (p28R r e (rscI r e)) (staE r e)
            have hX2 : nextX (max e.bal e.seen) r.self r.n = 0 := hX
            rw [hX2] at j3
            have hI : nextI (max e.bal e.seen) r.self r.n = rscI r e := rfl
            rw [hI] at j3
            have hq : ackR (p28E r e (rscI r e)) (rscA r.self (p28E r e (rscI r e))) = staE r e := rfl
            rw [hq] at j5
            have j7 := all_raw (rputR (p28R r e (rscI r e)) (staE r e)) (m := ⟨6, 0, id, 0, rscI r e, 0, 0, (staE r e).quorum, (staE r e).payload, 0, 0, [], [], 0⟩) rfl rfl
            rw [show allO (rputR (p28R r e (rscI r e)) (staE r e)) ⟨6, 0, id, 0, rscI r e, 0, 0, (staE r e).quorum, (staE r e).payload, 0, 0, [], [], 0⟩ = allO (rputR (p28R r e (rscI r e)) (staE r e)) (rscM r.self id (rscI r e) (staE r e)) from allO_from rfl] at j7
            have hS : staR r e = rputR (p28R r e (rscI r e)) (staE r e) := rfl
            by_cases hA : ackB (p28E r e (rscI r e)) (rscA r.self (p28E r e (rscI r e))) = true
            · rw [hA] at j5
              by_cases hQ : rputX (p28R r e (rscI r e)) (staE r e) = 0
              · rw [hy ⟨hr, hf, ho, hX, hB, hA, hQ⟩, hS]
                rw [hQ] at j6
                have hu := allO_pos (rscM r.self id (rscI r e) (staE r e)) (rput_rep hQ)
                clear hy hn hS hq hI
                generalize staE r e = q at *
                generalize rputR (p28R r e (rscI r e)) q = u at *
                generalize allO u (rscM r.self id (rscI r e) q) = w at *
                generalize p28R r e (rscI r e) = s at *
                generalize p28E r e (rscI r e) = p at *
                generalize rscI r e = b at *
                refine ⟨?_⟩; refine Spec.ofD 8 (h := fun F w0 => ?_)
                repeat' ((conv => whnf); first | refine Q.a ?_ | refine Q.b ?_ | refine Q.c ?_ | refine Stk.is (by first | assumption | ((try simp only [lE]); first | done | assumption | omega)) ?_ | refine Stk.isnt (by first | assumption | ((try simp only [lE]); first | done | assumption | omega)) ?_ | (refine Stk.both (fun hb => ?_) (fun hb => ?_) <;> (try simp only [lE] at hb)) | refine Q.d ?_ | refine Q.e ?_ | refine Q.f ?_ | refine Q.g ?_ | refine Q.h ?_ | refine Q.i ?_ | refine Q.j ?_ | refine Q.k ?_ | refine Q.l ?_ | refine Q.m ?_ | refine Q.n ?_ | refine Q.o (h := ?_) | refine Q.p (h := ?_) | refine Q.q ?_ | refine Q.r ?_ | refine Q.s ?_ | refine Q.t ?_ | refine Q.u ?_ | refine Q.v ?_ | refine Q.w ?_ | refine Q.x ?_ | refine Q.y ?_ | refine Q.z ?_ | refine Stk.inl (h := fun tm => ?_) | refine Stk.inl0 (h := fun tm => ?_) | refine DefG.go (h := fun vs us => ?_) | intro (tm : Array Value) | refine Stk.op (ok_buildA rfl rfl rfl rfl) ?_ | refine Stk.scope ?_); all_goals (conv => whnf)
                refine Stk.by j7 (h := ?_)
                repeat' ((conv => whnf); first | refine Q.a ?_ | refine Q.b ?_ | refine Q.c ?_ | refine Stk.is (by first | assumption | ((try simp only [lE]); first | done | assumption | omega)) ?_ | refine Stk.isnt (by first | assumption | ((try simp only [lE]); first | done | assumption | omega)) ?_ | (refine Stk.both (fun hb => ?_) (fun hb => ?_) <;> (try simp only [lE] at hb)) | refine Q.d ?_ | refine Q.e ?_ | refine Q.f ?_ | refine Q.g ?_ | refine Q.h ?_ | refine Q.i ?_ | refine Q.j ?_ | refine Q.k ?_ | refine Q.l ?_ | refine Q.m ?_ | refine Q.n ?_ | refine Q.o (h := ?_) | refine Q.p (h := ?_) | refine Q.q ?_ | refine Q.r ?_ | refine Q.s ?_ | refine Q.t ?_ | refine Q.u ?_ | refine Q.v ?_ | refine Q.w ?_ | refine Q.x ?_ | refine Q.y ?_ | refine Q.z ?_ | refine Stk.inl (h := fun tm => ?_) | refine Stk.inl0 (h := fun tm => ?_) | refine DefG.go (h := fun vs us => ?_) | intro (tm : Array Value) | refine Stk.op (ok_buildA rfl rfl rfl rfl) ?_ | refine Stk.scope ?_); all_goals (conv => whnf)
                all_goals (refine Q.r6 (h := ?_); repeat' (first | exact Q.r0 | refine Q.r1 ?_ ?_ | refine Q.r2 ?_ | exact Q.r7 | refine Q.r3 ?_ | refine Q.r4 ?_ | refine Q.r5 ?_))
              · rw [hn (fun h => hQ h.2.2.2.2.2.2)]
                clear hy hn hS hq hI j7
                generalize staE r e = q at *
                generalize rputR (p28R r e (rscI r e)) q = u at *
                generalize p28R r e (rscI r e) = s at *
                generalize p28E r e (rscI r e) = p at *
                generalize rscI r e = b at *
                refine ⟨?_⟩; refine Spec.ofD 8 (h := fun F w0 => ?_)
                repeat' ((conv => whnf); first | refine Q.a ?_ | refine Q.b ?_ | refine Q.c ?_ | refine Stk.is (by first | assumption | ((try simp only [lE]); first | done | assumption | omega)) ?_ | refine Stk.isnt (by first | assumption | ((try simp only [lE]); first | done | assumption | omega)) ?_ | (refine Stk.both (fun hb => ?_) (fun hb => ?_) <;> (try simp only [lE] at hb)) | refine Q.d ?_ | refine Q.e ?_ | refine Q.f ?_ | refine Q.g ?_ | refine Q.h ?_ | refine Q.i ?_ | refine Q.j ?_ | refine Q.k ?_ | refine Q.l ?_ | refine Q.m ?_ | refine Q.n ?_ | refine Q.o (h := ?_) | refine Q.p (h := ?_) | refine Q.q ?_ | refine Q.r ?_ | refine Q.s ?_ | refine Q.t ?_ | refine Q.u ?_ | refine Q.v ?_ | refine Q.w ?_ | refine Q.x ?_ | refine Q.y ?_ | refine Q.z ?_ | refine Stk.inl (h := fun tm => ?_) | refine Stk.inl0 (h := fun tm => ?_) | refine DefG.go (h := fun vs us => ?_) | intro (tm : Array Value) | refine Stk.op (ok_buildA rfl rfl rfl rfl) ?_ | refine Stk.scope ?_); all_goals (conv => whnf)
                all_goals (refine Q.r6 (h := ?_); repeat' (first | exact Q.r0 | refine Q.r1 ?_ ?_ | refine Q.r2 ?_ | exact Q.r7 | refine Q.r3 ?_ | refine Q.r4 ?_ | refine Q.r5 ?_))
            · have hA' : ackB (p28E r e (rscI r e)) (rscA r.self (p28E r e (rscI r e))) = false := by simpa using hA
              rw [hn (fun h => hA h.2.2.2.2.2.1)]
              rw [hA'] at j5
              clear hy hn hS hq hI j7 hA hA'
              generalize staE r e = q at *
              generalize rputR (p28R r e (rscI r e)) q = u at *
              generalize rputX (p28R r e (rscI r e)) q = y at *
              generalize p28R r e (rscI r e) = s at *
              generalize p28E r e (rscI r e) = p at *
              generalize rscI r e = b at *
              refine ⟨?_⟩; refine Spec.ofD 8 (h := fun F w0 => ?_)
              repeat' ((conv => whnf); first | refine Q.a ?_ | refine Q.b ?_ | refine Q.c ?_ | refine Stk.is (by first | assumption | ((try simp only [lE]); first | done | assumption | omega)) ?_ | refine Stk.isnt (by first | assumption | ((try simp only [lE]); first | done | assumption | omega)) ?_ | (refine Stk.both (fun hb => ?_) (fun hb => ?_) <;> (try simp only [lE] at hb)) | refine Q.d ?_ | refine Q.e ?_ | refine Q.f ?_ | refine Q.g ?_ | refine Q.h ?_ | refine Q.i ?_ | refine Q.j ?_ | refine Q.k ?_ | refine Q.l ?_ | refine Q.m ?_ | refine Q.n ?_ | refine Q.o (h := ?_) | refine Q.p (h := ?_) | refine Q.q ?_ | refine Q.r ?_ | refine Q.s ?_ | refine Q.t ?_ | refine Q.u ?_ | refine Q.v ?_ | refine Q.w ?_ | refine Q.x ?_ | refine Q.y ?_ | refine Q.z ?_ | refine Stk.inl (h := fun tm => ?_) | refine Stk.inl0 (h := fun tm => ?_) | refine DefG.go (h := fun vs us => ?_) | intro (tm : Array Value) | refine Stk.op (ok_buildA rfl rfl rfl rfl) ?_ | refine Stk.scope ?_); all_goals (conv => whnf)
              all_goals (refine Q.r6 (h := ?_); repeat' (first | exact Q.r0 | refine Q.r1 ?_ ?_ | refine Q.r2 ?_ | exact Q.r7 | refine Q.r3 ?_ | refine Q.r4 ?_ | refine Q.r5 ?_))
          · have hB' : p28B r e (rscI r e) = false := by simpa using hB
            rw [hn (fun h => hB h.2.2.2.2.1)]
            rw [hB'] at j4
            have hX2 : nextX (max e.bal e.seen) r.self r.n = 0 := hX
            rw [hX2] at j3
            have hI : nextI (max e.bal e.seen) r.self r.n = rscI r e := rfl
            rw [hI] at j3
            generalize rscI r e = b at *
            refine ⟨?_⟩; refine Spec.ofD 8 (h := fun F w0 => ?_)
            repeat' ((conv => whnf); first | refine Q.a ?_ | refine Q.b ?_ | refine Q.c ?_ | refine Stk.is (by first | assumption | ((try simp only [lE]); first | done | assumption | omega)) ?_ | refine Stk.isnt (by first | assumption | ((try simp only [lE]); first | done | assumption | omega)) ?_ | (refine Stk.both (fun hb => ?_) (fun hb => ?_) <;> (try simp only [lE] at hb)) | refine Q.d ?_ | refine Q.e ?_ | refine Q.f ?_ | refine Q.g ?_ | refine Q.h ?_ | refine Q.i ?_ | refine Q.j ?_ | refine Q.k ?_ | refine Q.l ?_ | refine Q.m ?_ | refine Q.n ?_ | refine Q.o (h := ?_) | refine Q.p (h := ?_) | refine Q.q ?_ | refine Q.r ?_ | refine Q.s ?_ | refine Q.t ?_ | refine Q.u ?_ | refine Q.v ?_ | refine Q.w ?_ | refine Q.x ?_ | refine Q.y ?_ | refine Q.z ?_ | refine Stk.inl (h := fun tm => ?_) | refine Stk.inl0 (h := fun tm => ?_) | refine DefG.go (h := fun vs us => ?_) | intro (tm : Array Value) | refine Stk.op (ok_buildA rfl rfl rfl rfl) ?_ | refine Stk.scope ?_); all_goals (conv => whnf)
            all_goals (refine Q.r6 (h := ?_); repeat' (first | exact Q.r0 | refine Q.r1 ?_ ?_ | refine Q.r2 ?_ | exact Q.r7 | refine Q.r3 ?_ | refine Q.r4 ?_ | refine Q.r5 ?_))
        · rw [hn (fun h => hX h.2.2.2.1)]
          have hX2 : nextX (max e.bal e.seen) r.self r.n ≠ 0 := hX
          have hI : nextI (max e.bal e.seen) r.self r.n = rscI r e := rfl
          rw [hI] at j3
          generalize nextX (max e.bal e.seen) r.self r.n = x at *
          generalize rscI r e = b at *
          refine ⟨?_⟩; refine Spec.ofD 8 (h := fun F w0 => ?_)
          repeat' ((conv => whnf); first | refine Q.a ?_ | refine Q.b ?_ | refine Q.c ?_ | refine Stk.is (by first | assumption | ((try simp only [lE]); first | done | assumption | omega)) ?_ | refine Stk.isnt (by first | assumption | ((try simp only [lE]); first | done | assumption | omega)) ?_ | (refine Stk.both (fun hb => ?_) (fun hb => ?_) <;> (try simp only [lE] at hb)) | refine Q.d ?_ | refine Q.e ?_ | refine Q.f ?_ | refine Q.g ?_ | refine Q.h ?_ | refine Q.i ?_ | refine Q.j ?_ | refine Q.k ?_ | refine Q.l ?_ | refine Q.m ?_ | refine Q.n ?_ | refine Q.o (h := ?_) | refine Q.p (h := ?_) | refine Q.q ?_ | refine Q.r ?_ | refine Q.s ?_ | refine Q.t ?_ | refine Q.u ?_ | refine Q.v ?_ | refine Q.w ?_ | refine Q.x ?_ | refine Q.y ?_ | refine Q.z ?_ | refine Stk.inl (h := fun tm => ?_) | refine Stk.inl0 (h := fun tm => ?_) | refine DefG.go (h := fun vs us => ?_) | intro (tm : Array Value) | refine Stk.op (ok_buildA rfl rfl rfl rfl) ?_ | refine Stk.scope ?_); all_goals (conv => whnf)
          all_goals (refine Q.r6 (h := ?_); repeat' (first | exact Q.r0 | refine Q.r1 ?_ ?_ | refine Q.r2 ?_ | exact Q.r7 | refine Q.r3 ?_ | refine Q.r4 ?_ | refine Q.r5 ?_))
      · rw [sta_no (fun h => ho h.2.2.1)]
        have hp : ¬ (1 ≤ (findT r.entries id).phase ∧ (findT r.entries id).phase ≤ 4) := fun h => ho (openB_iff.2 h)
        have he := ent_facts (find_ent hr hf)
        refine ⟨?_⟩; refine Spec.ofD 8 (h := fun F w0 => ?_)
        repeat' ((conv => whnf); first | refine Q.a ?_ | refine Q.b ?_ | refine Q.c ?_ | refine Stk.is (by first | assumption | ((try simp only [lE]); first | done | assumption | omega)) ?_ | refine Stk.isnt (by first | assumption | ((try simp only [lE]); first | done | assumption | omega)) ?_ | (refine Stk.both (fun hb => ?_) (fun hb => ?_) <;> (try simp only [lE] at hb)) | refine Q.d ?_ | refine Q.e ?_ | refine Q.f ?_ | refine Q.g ?_ | refine Q.h ?_ | refine Q.i ?_ | refine Q.j ?_ | refine Q.k ?_ | refine Q.l ?_ | refine Q.m ?_ | refine Q.n ?_ | refine Q.o (h := ?_) | refine Q.p (h := ?_) | refine Q.q ?_ | refine Q.r ?_ | refine Q.s ?_ | refine Q.t ?_ | refine Q.u ?_ | refine Q.v ?_ | refine Q.w ?_ | refine Q.x ?_ | refine Q.y ?_ | refine Q.z ?_ | refine Stk.inl (h := fun tm => ?_) | refine Stk.inl0 (h := fun tm => ?_) | refine DefG.go (h := fun vs us => ?_) | intro (tm : Array Value) | refine Stk.op (ok_buildA rfl rfl rfl rfl) ?_ | refine Stk.scope ?_); all_goals (conv => whnf)
        all_goals (refine Q.r6 (h := ?_); repeat' (first | exact Q.r0 | refine Q.r1 ?_ ?_ | refine Q.r2 ?_ | exact Q.r7 | refine Q.r3 ?_ | refine Q.r4 ?_ | refine Q.r5 ?_))
    · have hf' : findB r.entries id = false := by simpa using hf
      rw [sta_no (fun h => hf h.2.1)]
      rw [hf'] at j1
      refine ⟨?_⟩; refine Spec.ofD 8 (h := fun F w0 => ?_)
      repeat' ((conv => whnf); first | refine Q.a ?_ | refine Q.b ?_ | refine Q.c ?_ | refine Stk.is (by first | assumption | ((try simp only [lE]); first | done | assumption | omega)) ?_ | refine Stk.isnt (by first | assumption | ((try simp only [lE]); first | done | assumption | omega)) ?_ | (refine Stk.both (fun hb => ?_) (fun hb => ?_) <;> (try simp only [lE] at hb)) | refine Q.d ?_ | refine Q.e ?_ | refine Q.f ?_ | refine Q.g ?_ | refine Q.h ?_ | refine Q.i ?_ | refine Q.j ?_ | refine Q.k ?_ | refine Q.l ?_ | refine Q.m ?_ | refine Q.n ?_ | refine Q.o (h := ?_) | refine Q.p (h := ?_) | refine Q.q ?_ | refine Q.r ?_ | refine Q.s ?_ | refine Q.t ?_ | refine Q.u ?_ | refine Q.v ?_ | refine Q.w ?_ | refine Q.x ?_ | refine Q.y ?_ | refine Q.z ?_ | refine Stk.inl (h := fun tm => ?_) | refine Stk.inl0 (h := fun tm => ?_) | refine DefG.go (h := fun vs us => ?_) | intro (tm : Array Value) | refine Stk.op (ok_buildA rfl rfl rfl rfl) ?_ | refine Stk.scope ?_); all_goals (conv => whnf)
      all_goals (refine Q.r6 (h := ?_); repeat' (first | exact Q.r0 | refine Q.r1 ?_ ?_ | refine Q.r2 ?_ | exact Q.r7 | refine Q.r3 ?_ | refine Q.r4 ?_ | refine Q.r5 ?_))
  · have hr' : repB r = false := by simpa using hr
    have j2 := stk_no hr'
    rw [sta_no (fun h => hr h.1)]
    refine ⟨?_⟩; refine Spec.ofD 8 (h := fun F w0 => ?_)
    repeat' ((conv => whnf); first | refine Q.a ?_ | refine Q.b ?_ | refine Q.c ?_ | refine Stk.is (by first | assumption | ((try simp only [lE]); first | done | assumption | omega)) ?_ | refine Stk.isnt (by first | assumption | ((try simp only [lE]); first | done | assumption | omega)) ?_ | (refine Stk.both (fun hb => ?_) (fun hb => ?_) <;> (try simp only [lE] at hb)) | refine Q.d ?_ | refine Q.e ?_ | refine Q.f ?_ | refine Q.g ?_ | refine Q.h ?_ | refine Q.i ?_ | refine Q.j ?_ | refine Q.k ?_ | refine Q.l ?_ | refine Q.m ?_ | refine Q.n ?_ | refine Q.o (h := ?_) | refine Q.p (h := ?_) | refine Q.q ?_ | refine Q.r ?_ | refine Q.s ?_ | refine Q.t ?_ | refine Q.u ?_ | refine Q.v ?_ | refine Q.w ?_ | refine Q.x ?_ | refine Q.y ?_ | refine Q.z ?_ | refine Stk.inl (h := fun tm => ?_) | refine Stk.inl0 (h := fun tm => ?_) | refine DefG.go (h := fun vs us => ?_) | intro (tm : Array Value) | refine Stk.op (ok_buildA rfl rfl rfl rfl) ?_ | refine Stk.scope ?_); all_goals (conv => whnf)
    all_goals (refine Q.r6 (h := ?_); repeat' (first | exact Q.r0 | refine Q.r1 ?_ ?_ | refine Q.r2 ?_ | exact Q.r7 | refine Q.r3 ?_ | refine Q.r4 ?_ | refine Q.r5 ?_))
end Go.Proofs.YtbjepdfnmbdplaaGreat
end
section
namespace Go.Proofs.YtbjepdfnmbdplaaGreat
open Go.RowKit
set_option linter.unusedSimpArgs false
set_option linter.unusedVariables false
set_option maxRecDepth 100000
set_option maxHeartbeats 4000000
theorem rsc_no {r : Rpl} {m : Msg} (h : ¬ (m.kind = 6 ∧ hearsB r m = true ∧ r.n < m.bal ∧ ownI m.bal r.n = m.fr ∧ lrnB r m.id m.quorum m.payload = true)) : onRsc r m = (r, []) := if_neg h
open Classical in
theorem rsc_in {r : Rpl} {m : Msg} {s : Rpl} {e : Ent} (h : m.kind = 6 ∧ hearsB r m = true ∧ r.n < m.bal ∧ ownI m.bal r.n = m.fr ∧ lrnB r m.id m.quorum m.payload = true) (hs : lrnR r m.id m.quorum m.payload = s) (he : lrnE r m.id m.quorum m.payload = e) : onRsc r m = if settB e.phase = true then (s, helpO s e m.fr)
    else if m.bal < e.bal then (s, ansO r m 8 e.bal)
    else if m.bal = e.bal then (r, [])
    else if p28B s e m.bal = true then (p28R s e m.bal, [⟨m.fr, rsdM r.self m (p28E s e m.bal)⟩])
    else (r, []) := by
  subst hs
  subst he
  exact if_pos h
end Go.Proofs.YtbjepdfnmbdplaaGreat
end
section
namespace Go.Proofs.YtbjepdfnmbdplaaGreat
open Go.RowKit
set_option linter.unusedSimpArgs false
set_option linter.unusedVariables false
def sendB (r : Rpl) (o : Out) : Bool := decide (1 ≤ o.dest ∧ o.dest ≤ r.n ∧ o.dest ≠ r.self ∧ o.m.fr = r.self) && msgB o.m
theorem send_of {r : Rpl} {o : Out} (h : 1 ≤ o.dest ∧ o.dest ≤ r.n ∧ o.dest ≠ r.self ∧ o.m.fr = r.self) (h2 : msgB o.m = true) : sendB r o = true := by
  unfold sendB
  rw [h2, decide_eq_true h]
  rfl
theorem rep_self {r : Rpl} (h : repB r = true) : 1 ≤ r.self ∧ r.self ≤ r.n ∧ r.n ≤ 9 := by
  have := (nums_p (rep_parts h).1).1
  unfold numsP at this
  omega
theorem msg_tol {s : Int} {e : Ent} (hs : 1 ≤ s ∧ s ≤ 9) (he : entB e = true) (ht : 0 < e.t) : msgB ⟨5, s, e.id, e.t, 0, 0, 0, e.quorum, e.payload, 0, 0, [], [], 0⟩ = true := by
  obtain ⟨h1, _, _, h4, h5, h6, _⟩ := entB_iff.1 he
  have h7 := (ent_facts he).2.2.2.1
  unfold msgB inN
  simp only [show kI 5 = true from rfl, show kT 5 = true from rfl, show kL 5 = false from rfl, show kC 5 = true from rfl, show kA 5 = false from rfl, show kP 5 = false from rfl, if_true, Bool.false_eq_true, if_false, h1, Bool.true_or, Bool.and_true, Bool.true_and, and_self]
  rw [decide_eq_true hs, decide_eq_true (show 1 ≤ e.t ∧ e.t ≤ 1000000 by omega), decide_eq_true (show 1 ≤ e.quorum ∧ e.quorum ≤ 511 by omega), decide_eq_true h6]
  rfl
theorem msg_ans {s id k b : Int} (hk : k = 4 ∨ k = 8) (hs : 1 ≤ s ∧ s ≤ 9) (hi : idB id = true) (hb : 1 ≤ b ∧ b ≤ 1000000) : msgB ⟨k, s, id, 0, b, 0, 0, 0, noByte, 0, 0, [], [], 0⟩ = true := by
  unfold msgB inN
  rcases hk with rfl | rfl
  · simp only [show kI 4 = true from rfl, show kT 4 = false from rfl, show kL 4 = true from rfl, show kC 4 = false from rfl, show kA 4 = false from rfl, show kP 4 = false from rfl, if_true, Bool.false_eq_true, if_false, hi, Bool.true_or, Bool.and_true, Bool.true_and, and_self]
    rw [decide_eq_true hs, decide_eq_true hb]
    rfl
  · simp only [show kI 8 = true from rfl, show kT 8 = false from rfl, show kL 8 = true from rfl, show kC 8 = false from rfl, show kA 8 = false from rfl, show kP 8 = false from rfl, if_true, Bool.false_eq_true, if_false, hi, Bool.true_or, Bool.and_true, Bool.true_and, and_self]
    rw [decide_eq_true hs, decide_eq_true hb]
    rfl
theorem msg_facts {m : Msg} (h : msgB m = true) (hi : kI m.kind = true) : 1 ≤ m.fr ∧ idB m.id = true ∧ (kL m.kind = true → 1 ≤ m.bal ∧ m.bal ≤ 1000000) := by
  unfold msgB at h
  simp only [Bool.and_eq_true, decide_eq_true_eq] at h
  obtain ⟨_, ⟨⟨⟨⟨⟨⟨⟨⟨⟨hf, _⟩, hid⟩, _⟩, hb⟩, _⟩, _⟩, _⟩, _⟩, _⟩⟩ := h
  rw [if_pos hi] at hid
  refine ⟨hf, hid, fun hl => ?_⟩
  unfold inN at hb
  rw [if_pos hl, decide_eq_true_eq] at hb
  exact hb
theorem oth_mem {r : Rpl} {d : Int} (h : d ∈ othL r) : 1 ≤ d ∧ d ≤ r.n ∧ d ≠ r.self := by
  unfold othL at h
  rw [List.mem_filter, List.mem_map] at h
  obtain ⟨⟨i, hi, rfl⟩, h2⟩ := h
  have := List.mem_range.1 hi
  exact ⟨by omega, by omega, of_decide_eq_true h2⟩
theorem help_send {r s : Rpl} {e : Ent} {d : Int} (hn : s.n = r.n) (hs : s.self = r.self) (he : entB e = true) : ∀ o ∈ helpO s e d, sendB r o = true := by
  intro o ho
  unfold helpO at ho
  split at ho
  · rename_i h
    obtain ⟨h1, h2, h3, h4, h5⟩ := h
    rw [List.mem_singleton] at ho
    subst ho
    have hp := settB_iff.1 h1
    have ht := (ent_facts he).2.2.2.2.2.2.2.2.1.1
    have hr := rep_self h2
    exact send_of ⟨h3, by rw [← hn]; exact h4, by rw [← hs]; exact h5, hs⟩ (msg_tol ⟨hr.1, by omega⟩ he (by omega))
  · cases ho
theorem ans_send {r : Rpl} {m : Msg} {k b : Int} (hr : repB r = true) (hf : 1 ≤ m.fr ∧ m.fr ≤ r.n ∧ m.fr ≠ r.self) (hk : k = 4 ∨ k = 8) (hi : idB m.id = true) (hb : 1 ≤ b ∧ b ≤ 1000000) : ∀ o ∈ ansO r m k b, sendB r o = true := by
  intro o ho
  unfold ansO at ho
  rw [List.mem_singleton] at ho
  subst ho
  have hr := rep_self hr
  exact send_of ⟨hf.1, hf.2.1, hf.2.2, rfl⟩ (msg_ans hk ⟨hr.1, by omega⟩ hi hb)
theorem acksTo_of {l : List Ack} (h : acksB l = true) : acksTo l l.length = true ∧ l.length ≤ 27 := by
  unfold acksB at h
  rw [Bool.and_eq_true, decide_eq_true_iff] at h
  exact h
theorem acksTo_app (l m : List Ack) (n : Nat) (h : n ≤ l.length) : acksTo (l ++ m) n = acksTo l n := by
  induction n with
  | zero => rfl
  | succ n ih =>
    rw [acksTo_succ _ _ (by rw [List.length_append]; omega), acksTo_succ _ _ (by omega), ih (by omega), List.getElem_append_left (by omega), List.take_append_of_le_length (by omega)]
theorem ack_ent {e : Ent} {a : Ack} (h : ackB e a = true) : entB (e.ack a) = true := by
  obtain ⟨h1, h2, h3, h4, h5⟩ := ackB_iff.1 h
  obtain ⟨k1, k2, k3, k4, k5, k6, k7, k8, k9, k10⟩ := entB_iff.1 h1
  refine entB_iff.2 ⟨k1, k2, k3, k4, k5, k6, k7, k8, ?_, .inl h2⟩
  obtain ⟨m1, m2⟩ := acksTo_of k9
  show acksB (e.acks ++ [a]) = true
  unfold acksB
  rw [Bool.and_eq_true, decide_eq_true_iff]
  constructor
  · rw [List.length_append, List.length_singleton, acksTo_succ _ _ (by simp), acksTo_app _ _ _ (Nat.le_refl _), m1]
    simp [h3]
    exact h5
  · simp
    omega
theorem ackR_facts {e : Ent} {a : Ack} (h : entB e = true) : entB (ackR e a) = true ∧ (ackR e a).t = e.t ∧ (ackR e a).abal = e.abal ∧ (ackR e a).id = e.id ∧ (ackR e a).payload = e.payload ∧ (ackR e a).phase = e.phase := by
  unfold ackR
  split
  · rename_i ha
    exact ⟨ack_ent ha, rfl, rfl, rfl, rfl, rfl⟩
  · exact ⟨h, rfl, rfl, rfl, rfl, rfl⟩
end Go.Proofs.YtbjepdfnmbdplaaGreat
end
section
namespace Go.Proofs.YtbjepdfnmbdplaaGreat
open Go.RowKit
set_option linter.unusedSimpArgs false
set_option linter.unusedVariables false
set_option maxRecDepth 100000
set_option maxHeartbeats 4000000
def bckM (r : Rpl) (m : Msg) (k t b ab ph : Int) : Msg := ⟨k, r.self, m.id, t, b, ab, ph, 0, noByte, 0, 0, [], [], 0⟩
instance back28_spec (r : Rpl) (m : Msg) (k t b ab ph : Int) : HasSpec Tryz.prog 104 [.agg (r.cs ++ m.cs), .agg [PV.int k, PV.int 0, PV.int 0, PV.int t, PV.int b, PV.int ab, PV.int ph, PV.int 0, .v (.string noByte), PV.int 0, PV.int 0, .v (.slice none 0 0), .v (.slice none 0 0), PV.int 0]] (PV.outs [⟨m.fr, bckM r m k t b ab ph⟩]) := by
  refine HasSpec.mono (r := .sl 15 [Out.raw ⟨m.fr, bckM r m k t b ab ph⟩]) ?_ (raw_out rfl rfl)
  unfold Out.raw bckM
  refine ⟨?_⟩; refine Spec.ofR (h := fun F w0 => ?_)
  repeat' ((conv => whnf); first | refine Q.E ?_ | (refine Stk.both (fun hb => ?_) (fun hb => ?_) <;> (try simp only [lE] at hb))); all_goals (conv => whnf)
  (refine Q.r6 (h := ?_); repeat' (first | exact Q.r0 | refine Q.r1 ?_ ?_ | refine Q.r2 ?_ | exact Q.r7 | refine Q.r3 ?_ | refine Q.r4 ?_ | refine Q.r5 ?_))
theorem first_hears {r : Rpl} {m : Msg} (h : hearsB r m = true) (hk : m.kind = 6 ∨ m.kind = 7) : firstB m.bal r.n = decide (m.bal ≤ r.n) := by
  obtain ⟨h1, h2, _⟩ := hears_rep h
  have hn := (nums_p (rep_parts h1).1).1
  unfold numsP at hn
  obtain ⟨_, _, h3⟩ := msg_facts h2 (by rcases hk with hk | hk <;> rw [hk] <;> decide)
  have h4 := h3 (by rcases hk with hk | hk <;> rw [hk] <;> decide)
  unfold firstB
  rw [decide_eq_decide]
  omega
end Go.Proofs.YtbjepdfnmbdplaaGreat
end
section
namespace Go.Proofs.YtbjepdfnmbdplaaGreat
open Go.RowKit
set_option linter.unusedSimpArgs false
set_option linter.unusedVariables false
set_option maxRecDepth 100000
set_option maxHeartbeats 4000000
instance rescue28_spec (r : Rpl) (m : Msg) : HasSpec Tryz.prog 36 [.agg r.cs, .agg m.cs] (.tup [.agg (onRsc r m).1.cs, PV.outs (onRsc r m).2]) := by
  have jh := hears26_spec r m
  have jl := learn_spec r m.id m.quorum m.payload
  by_cases hk : m.kind = 6
  · cases hh : hearsB r m with
    | false =>
      rw [hh] at jh
      rw [rsc_no (fun h => by rw [hh] at h; cases h.2.1)]
      refine ⟨?_⟩; refine Spec.ofR (h := fun F w0 => ?_)
      repeat' ((conv => whnf); first | refine Q.E ?_ | (refine Stk.both (fun hb => ?_) (fun hb => ?_) <;> (try simp only [lE] at hb))); all_goals (conv => whnf)
      all_goals (refine Q.r6 (h := ?_); repeat' (first | exact Q.r0 | refine Q.r1 ?_ ?_ | refine Q.r2 ?_ | exact Q.r7 | refine Q.r3 ?_ | refine Q.r4 ?_ | refine Q.r5 ?_))
    | true =>
      rw [hh] at jh
      have jf := first_spec m.bal r.n
      rw [first_hears hh (.inl hk)] at jf
      by_cases hb : r.n < m.bal
      · rw [decide_eq_false (by omega)] at jf
        by_cases ho : ownI m.bal r.n = m.fr
        · cases hl : lrnB r m.id m.quorum m.payload with
          | false =>
            rw [hl] at jl
            rw [rsc_no (fun h => by rw [hl] at h; cases h.2.2.2.2)]
            generalize lrnR r m.id m.quorum m.payload = s at *
            generalize lrnE r m.id m.quorum m.payload = e at *
            refine ⟨?_⟩; refine Spec.ofR (h := fun F w0 => ?_)
            repeat' ((conv => whnf); first | refine Q.E ?_ | (refine Stk.both (fun hb => ?_) (fun hb => ?_) <;> (try simp only [lE] at hb))); all_goals (conv => whnf)
            all_goals (refine Q.r6 (h := ?_); repeat' (first | exact Q.r0 | refine Q.r1 ?_ ?_ | refine Q.r2 ?_ | exact Q.r7 | refine Q.r3 ?_ | refine Q.r4 ?_ | refine Q.r5 ?_))
          | true =>
            rw [hl] at jl
            rw [rsc_in ⟨hk, hh, hb, ho, hl⟩ rfl rfl]
            have hen := lrn_ent hl
            have hsf := lrn_self (r := r) (id := m.id) (q := m.quorum) (p := m.payload)
            clear hl
            generalize lrnR r m.id m.quorum m.payload = s at *
            generalize lrnE r m.id m.quorum m.payload = e at *
            have hph := ent_facts hen
            have js := phasesett_spec e.phase
            cases hp : settB e.phase with
            | true =>
              rw [hp] at js
              have hp5 := settB_iff.1 hp
              rw [if_pos rfl]
              have jo := help_spec s e m.fr
              generalize helpO s e m.fr = o at *
              refine ⟨?_⟩; refine Spec.ofR (h := fun F w0 => ?_)
              repeat' ((conv => whnf); first | refine Q.E ?_ | (refine Stk.both (fun hb => ?_) (fun hb => ?_) <;> (try simp only [lE] at hb))); all_goals (conv => whnf)
              all_goals (refine Q.r6 (h := ?_); repeat' (first | exact Q.r0 | refine Q.r1 ?_ ?_ | refine Q.r2 ?_ | exact Q.r7 | refine Q.r3 ?_ | refine Q.r4 ?_ | refine Q.r5 ?_))
            | false =>
              rw [hp] at js
              have hp5 : ¬ (e.phase = 5 ∨ e.phase = 6) := fun h => by rw [settB_iff.2 h] at hp; cases hp
              rw [if_neg (by simp)]
              by_cases h1 : m.bal < e.bal
              · rw [if_pos h1]
                have jb := back28_spec r m 8 0 e.bal 0 0
                rw [show [(⟨m.fr, bckM r m 8 0 e.bal 0 0⟩ : Out)] = ansO r m 8 e.bal from rfl] at jb
                generalize ansO r m 8 e.bal = o at *
                refine ⟨?_⟩; refine Spec.ofR (h := fun F w0 => ?_)
                repeat' ((conv => whnf); first | refine Q.E ?_ | (refine Stk.both (fun hb => ?_) (fun hb => ?_) <;> (try simp only [lE] at hb))); all_goals (conv => whnf)
                refine Stk.by jb (h := ?_)
                repeat' ((conv => whnf); first | refine Q.E ?_ | (refine Stk.both (fun hb => ?_) (fun hb => ?_) <;> (try simp only [lE] at hb))); all_goals (conv => whnf)
                all_goals (refine Q.r6 (h := ?_); repeat' (first | exact Q.r0 | refine Q.r1 ?_ ?_ | refine Q.r2 ?_ | exact Q.r7 | refine Q.r3 ?_ | refine Q.r4 ?_ | refine Q.r5 ?_))
              · rw [if_neg h1]
                by_cases h2 : m.bal = e.bal
                · rw [if_pos h2]
                  refine ⟨?_⟩; refine Spec.ofR (h := fun F w0 => ?_)
                  repeat' ((conv => whnf); first | refine Q.E ?_ | (refine Stk.both (fun hb => ?_) (fun hb => ?_) <;> (try simp only [lE] at hb))); all_goals (conv => whnf)
                  all_goals (refine Q.r6 (h := ?_); repeat' (first | exact Q.r0 | refine Q.r1 ?_ ?_ | refine Q.r2 ?_ | exact Q.r7 | refine Q.r3 ?_ | refine Q.r4 ?_ | refine Q.r5 ?_))
                · rw [if_neg h2]
                  have jp := promise28_spec s e m.bal
                  have hpb := @promise_bal s e m.bal
                  cases hB : p28B s e m.bal with
                  | false =>
                    rw [if_neg (by simp)]
                    rw [hB] at jp
                    generalize p28R s e m.bal = u at *
                    generalize p28E s e m.bal = p at *
                    refine ⟨?_⟩; refine Spec.ofR (h := fun F w0 => ?_)
                    repeat' ((conv => whnf); first | refine Q.E ?_ | (refine Stk.both (fun hb => ?_) (fun hb => ?_) <;> (try simp only [lE] at hb))); all_goals (conv => whnf)
                    all_goals (refine Q.r6 (h := ?_); repeat' (first | exact Q.r0 | refine Q.r1 ?_ ?_ | refine Q.r2 ?_ | exact Q.r7 | refine Q.r3 ?_ | refine Q.r4 ?_ | refine Q.r5 ?_))
                  | true =>
                    rw [if_pos rfl]
                    obtain ⟨b1, _⟩ := hpb hB
                    rw [hB] at jp
                    generalize p28R s e m.bal = u at *
                    generalize p28E s e m.bal = p at *
                    have jb := back28_spec r m 7 p.t p.bal p.abal p.phase
                    rw [show [(⟨m.fr, bckM r m 7 p.t p.bal p.abal p.phase⟩ : Out)] = [⟨m.fr, rsdM r.self m p⟩] from rfl] at jb
                    generalize [(⟨m.fr, rsdM r.self m p⟩ : Out)] = o at *
                    refine ⟨?_⟩; refine Spec.ofR (h := fun F w0 => ?_)
                    repeat' ((conv => whnf); first | refine Q.E ?_ | (refine Stk.both (fun hb => ?_) (fun hb => ?_) <;> (try simp only [lE] at hb))); all_goals (conv => whnf)
                    refine Stk.by jb (h := ?_)
                    repeat' ((conv => whnf); first | refine Q.E ?_ | (refine Stk.both (fun hb => ?_) (fun hb => ?_) <;> (try simp only [lE] at hb))); all_goals (conv => whnf)
                    all_goals (refine Q.r6 (h := ?_); repeat' (first | exact Q.r0 | refine Q.r1 ?_ ?_ | refine Q.r2 ?_ | exact Q.r7 | refine Q.r3 ?_ | refine Q.r4 ?_ | refine Q.r5 ?_))
        · rw [rsc_no (fun h => ho h.2.2.2.1)]
          have jo := owner_spec m.bal r.n
          refine ⟨?_⟩; refine Spec.ofR (h := fun F w0 => ?_)
          repeat' ((conv => whnf); first | refine Q.E ?_ | (refine Stk.both (fun hb => ?_) (fun hb => ?_) <;> (try simp only [lE] at hb))); all_goals (conv => whnf)
          all_goals (refine Q.r6 (h := ?_); repeat' (first | exact Q.r0 | refine Q.r1 ?_ ?_ | refine Q.r2 ?_ | exact Q.r7 | refine Q.r3 ?_ | refine Q.r4 ?_ | refine Q.r5 ?_))
      · rw [rsc_no (fun h => hb h.2.2.1)]
        rw [decide_eq_true (by omega)] at jf
        refine ⟨?_⟩; refine Spec.ofR (h := fun F w0 => ?_)
        repeat' ((conv => whnf); first | refine Q.E ?_ | (refine Stk.both (fun hb => ?_) (fun hb => ?_) <;> (try simp only [lE] at hb))); all_goals (conv => whnf)
        all_goals (refine Q.r6 (h := ?_); repeat' (first | exact Q.r0 | refine Q.r1 ?_ ?_ | refine Q.r2 ?_ | exact Q.r7 | refine Q.r3 ?_ | refine Q.r4 ?_ | refine Q.r5 ?_))
  · rw [rsc_no (fun h => hk h.1)]
    refine ⟨?_⟩; refine Spec.ofR (h := fun F w0 => ?_)
    repeat' ((conv => whnf); first | refine Q.E ?_ | (refine Stk.both (fun hb => ?_) (fun hb => ?_) <;> (try simp only [lE] at hb))); all_goals (conv => whnf)
    all_goals (refine Q.r6 (h := ?_); repeat' (first | exact Q.r0 | refine Q.r1 ?_ ?_ | refine Q.r2 ?_ | exact Q.r7 | refine Q.r3 ?_ | refine Q.r4 ?_ | refine Q.r5 ?_))
end Go.Proofs.YtbjepdfnmbdplaaGreat
end
section
namespace Go.Proofs.YtbjepdfnmbdplaaGreat
open Go.RowKit
set_option linter.unusedSimpArgs false
set_option linter.unusedVariables false
set_option maxRecDepth 100000
set_option maxHeartbeats 4000000
theorem rsd_no {r : Rpl} {m : Msg} (h : ¬ (m.kind = 7 ∧ hearsB r m = true ∧ r.n < m.bal ∧ ownI m.bal r.n = r.self ∧ findB r.entries m.id = true)) : onRsd r m = (r, []) := if_neg h
open Classical in
noncomputable def rsdT (r : Rpl) (m : Msg) (q : Ent) : Rpl × List Out :=
  if readyB r.n r.f (ofL q.acks 3 m.bal) = true then (if (chooseR r.n r.f q.quorum q.id (ofL q.acks 3 m.bal)).2 = 0 ∧ tkB (rputR r q) q (chooseR r.n r.f q.quorum q.id (ofL q.acks 3 m.bal)).1 m.bal = true then (tkR (rputR r q) q (chooseR r.n r.f q.quorum q.id (ofL q.acks 3 m.bal)).1 m.bal, allO (tkR (rputR r q) q (chooseR r.n r.f q.quorum q.id (ofL q.acks 3 m.bal)).1 m.bal) (takM r.self (chooseR r.n r.f q.quorum q.id (ofL q.acks 3 m.bal)).1 m.bal q)) else (r, []))
  else (rputR r q, [])
open Classical in
theorem rsd_in {r : Rpl} {m : Msg} {e : Ent} (h : m.kind = 7 ∧ hearsB r m = true ∧ r.n < m.bal ∧ ownI m.bal r.n = r.self ∧ findB r.entries m.id = true) (he : findT r.entries m.id = e) : onRsd r m = if openB e.phase = true ∧ e.bal = m.bal ∧ e.abal ≠ m.bal ∧ ackB e (rsdA m) = true ∧ rputX r (ackR e (rsdA m)) = 0 then rsdT r m (ackR e (rsdA m)) else (r, []) := by
  subst he
  exact if_pos h
end Go.Proofs.YtbjepdfnmbdplaaGreat
end
section
namespace Go.Proofs.YtbjepdfnmbdplaaGreat
open Go.RowKit
set_option linter.unusedSimpArgs false
set_option linter.unusedVariables false
set_option maxRecDepth 100000
set_option maxHeartbeats 4000000
open Classical in
noncomputable def takP (s : Rpl) (q : Ent) : Rpl × List Out × Bool :=
  if readyB s.n s.f (ofL q.acks 3 q.bal) = true then (if (chooseR s.n s.f q.quorum q.id (ofL q.acks 3 q.bal)).2 = 0 ∧ tkB s q (chooseR s.n s.f q.quorum q.id (ofL q.acks 3 q.bal)).1 q.bal = true then (tkR s q (chooseR s.n s.f q.quorum q.id (ofL q.acks 3 q.bal)).1 q.bal, allO (tkR s q (chooseR s.n s.f q.quorum q.id (ofL q.acks 3 q.bal)).1 q.bal) (takM s.self (chooseR s.n s.f q.quorum q.id (ofL q.acks 3 q.bal)).1 q.bal q), true) else (s, [], false))
  else (s, [], true)
theorem ofL_len28 (l : List Ack) (k b : Int) : (ofL l k b).length ≤ l.length := by unfold ofL; exact List.length_filter_le _ _
theorem taken28_spec (s : Rpl) (q : Ent) (hl : q.acks.length ≤ 1000000) : HasSpec Tryz.prog 105 [.agg s.cs, .agg q.cs] (.tup [.agg (takP s q).1.cs, PV.outs (takP s q).2.1, .v (.bool (takP s q).2.2)]) := by
  have j7 := entof_spec q 3 q.bal hl
  have j8 := ready_spec s.n s.f (ofL q.acks 3 q.bal)
  have j9 := choose_spec s.n s.f q.quorum q.id (ofL q.acks 3 q.bal) (by have := ofL_len28 q.acks 3 q.bal; omega)
  unfold takP
  cases hR : readyB s.n s.f (ofL q.acks 3 q.bal) with
  | false =>
    rw [hR] at j8
    rw [if_neg (by simp)]
    generalize ofL q.acks 3 q.bal = l at *
    refine ⟨?_⟩; refine Spec.ofR (h := fun F w0 => ?_)
    repeat' ((conv => whnf); first | refine Q.E ?_ | (refine Stk.both (fun hb => ?_) (fun hb => ?_) <;> (try simp only [lE] at hb))); all_goals (conv => whnf)
    all_goals (refine Q.r6 (h := ?_); repeat' (first | exact Q.r0 | refine Q.r1 ?_ ?_ | refine Q.r2 ?_ | exact Q.r7 | refine Q.r3 ?_ | refine Q.r4 ?_ | refine Q.r5 ?_))
  | true =>
    rw [hR] at j8
    rw [if_pos rfl]
    generalize ofL q.acks 3 q.bal = l at *
    generalize chooseR s.n s.f q.quorum q.id l = c at *
    obtain ⟨t, y⟩ := c
    dsimp only at j9 ⊢
    have j10 := take_spec s q t q.bal
    have j11 := all_raw (tkR s q t q.bal) (m := ⟨3, 0, q.id, t, q.bal, 0, 0, q.quorum, q.payload, 0, 0, [], [], 0⟩) rfl rfl
    rw [show allO (tkR s q t q.bal) ⟨3, 0, q.id, t, q.bal, 0, 0, q.quorum, q.payload, 0, 0, [], [], 0⟩ = allO (tkR s q t q.bal) (takM s.self t q.bal q) from allO_from rfl] at j11
    by_cases hy : y = 0 ∧ tkB s q t q.bal = true
    · rw [if_pos hy]
      obtain ⟨hy, hT⟩ := hy
      subst hy
      rw [hT] at j10
      generalize tkR s q t q.bal = u at *
      generalize allO u (takM s.self t q.bal q) = w at *
      refine ⟨?_⟩; refine Spec.ofR (h := fun F w0 => ?_)
      repeat' ((conv => whnf); first | refine Q.E ?_ | (refine Stk.both (fun hb => ?_) (fun hb => ?_) <;> (try simp only [lE] at hb))); all_goals (conv => whnf)
      refine Stk.by j11 (h := ?_)
      repeat' ((conv => whnf); first | refine Q.E ?_ | (refine Stk.both (fun hb => ?_) (fun hb => ?_) <;> (try simp only [lE] at hb))); all_goals (conv => whnf)
      all_goals (refine Q.r6 (h := ?_); repeat' (first | exact Q.r0 | refine Q.r1 ?_ ?_ | refine Q.r2 ?_ | exact Q.r7 | refine Q.r3 ?_ | refine Q.r4 ?_ | refine Q.r5 ?_))
    · rw [if_neg hy]
      generalize tkR s q t q.bal = u at *
      cases hT : tkB s q t q.bal with
      | false =>
        rw [hT] at j10
        refine ⟨?_⟩; refine Spec.ofR (h := fun F w0 => ?_)
        repeat' ((conv => whnf); first | refine Q.E ?_ | (refine Stk.both (fun hb => ?_) (fun hb => ?_) <;> (try simp only [lE] at hb))); all_goals (conv => whnf)
        all_goals (refine Q.r6 (h := ?_); repeat' (first | exact Q.r0 | refine Q.r1 ?_ ?_ | refine Q.r2 ?_ | exact Q.r7 | refine Q.r3 ?_ | refine Q.r4 ?_ | refine Q.r5 ?_))
      | true =>
        rw [hT] at j10
        have hy2 : y ≠ 0 := fun h => hy ⟨h, hT⟩
        refine ⟨?_⟩; refine Spec.ofR (h := fun F w0 => ?_)
        repeat' ((conv => whnf); first | refine Q.E ?_ | (refine Stk.both (fun hb => ?_) (fun hb => ?_) <;> (try simp only [lE] at hb))); all_goals (conv => whnf)
        all_goals (refine Q.r6 (h := ?_); repeat' (first | exact Q.r0 | refine Q.r1 ?_ ?_ | refine Q.r2 ?_ | exact Q.r7 | refine Q.r3 ?_ | refine Q.r4 ?_ | refine Q.r5 ?_))
end Go.Proofs.YtbjepdfnmbdplaaGreat
end
section
namespace Go.Proofs.YtbjepdfnmbdplaaGreat
open Go.RowKit
set_option linter.unusedSimpArgs false
set_option linter.unusedVariables false
set_option maxRecDepth 100000
set_option maxHeartbeats 4000000
theorem tak_rsd {r : Rpl} {m : Msg} {q : Ent} (hq : q.bal = m.bal) : rsdT r m q = if (takP (rputR r q) q).2.2 = true then ((takP (rputR r q) q).1, (takP (rputR r q) q).2.1) else (r, []) := by
  have st := rput_stays r q
  unfold rsdT takP
  rw [st.n, st.f, st.self, hq]
  split
  · split
    · rfl
    · rfl
  · rfl
instance rescued28_spec (r : Rpl) (m : Msg) : HasSpec Tryz.prog 38 [.agg r.cs, .agg m.cs] (.tup [.agg (onRsd r m).1.cs, PV.outs (onRsd r m).2]) := by
  have jh := hears26_spec r m
  have jo := owner_spec m.bal r.n
  have j1 := tablefind_spec r.entries m.id
  by_cases hk : m.kind = 7
  · cases hh : hearsB r m with
    | false =>
      rw [hh] at jh
      rw [rsd_no (fun h => by rw [hh] at h; cases h.2.1)]
      refine ⟨?_⟩; refine Spec.ofR (h := fun F w0 => ?_)
      repeat' ((conv => whnf); first | refine Q.E ?_ | (refine Stk.both (fun hb => ?_) (fun hb => ?_) <;> (try simp only [lE] at hb))); all_goals (conv => whnf)
      all_goals (refine Q.r6 (h := ?_); repeat' (first | exact Q.r0 | refine Q.r1 ?_ ?_ | refine Q.r2 ?_ | exact Q.r7 | refine Q.r3 ?_ | refine Q.r4 ?_ | refine Q.r5 ?_))
    | true =>
      rw [hh] at jh
      have hr := (hears_rep hh).1
      have jf := first_spec m.bal r.n
      rw [first_hears hh (.inr hk)] at jf
      by_cases hb : r.n < m.bal
      · rw [decide_eq_false (by omega)] at jf
        by_cases ho : ownI m.bal r.n = r.self
        · cases hf : findB r.entries m.id with
          | false =>
            rw [hf] at j1
            rw [rsd_no (fun h => by rw [hf] at h; cases h.2.2.2.2)]
            refine ⟨?_⟩; refine Spec.ofR (h := fun F w0 => ?_)
            repeat' ((conv => whnf); first | refine Q.E ?_ | (refine Stk.both (fun hb => ?_) (fun hb => ?_) <;> (try simp only [lE] at hb))); all_goals (conv => whnf)
            all_goals (refine Q.r6 (h := ?_); repeat' (first | exact Q.r0 | refine Q.r1 ?_ ?_ | refine Q.r2 ?_ | exact Q.r7 | refine Q.r3 ?_ | refine Q.r4 ?_ | refine Q.r5 ?_))
          | true =>
            rw [hf] at j1
            rw [rsd_in ⟨hk, hh, hb, ho, hf⟩ rfl]
            have he := find_ent hr hf
            generalize findT r.entries m.id = e at *
            have hph := ent_facts he
            by_cases hc : openB e.phase = true ∧ e.bal = m.bal ∧ e.abal ≠ m.bal
            · obtain ⟨c1, c2, c3⟩ := hc
              have c1' := openB_iff.1 c1
              have j5 := entryack_spec e (rsdA m)
              have j6 := put_spec r (ackR e (rsdA m))
              have hl := ack_len e (rsdA m) he
              cases hA : ackB e (rsdA m) with
              | false =>
                rw [hA] at j5
                rw [if_neg (fun h => by cases h.2.2.2.1)]
                generalize ackR e (rsdA m) = q at *
                generalize rputR r q = s at *
                generalize rputX r q = x at *
                refine ⟨?_⟩; refine Spec.ofR (h := fun F w0 => ?_)
                repeat' ((conv => whnf); first | refine Q.E ?_ | (refine Stk.both (fun hb => ?_) (fun hb => ?_) <;> (try simp only [lE] at hb))); all_goals (conv => whnf)
                refine Stk.by j5 (h := ?_)
                repeat' ((conv => whnf); first | refine Q.E ?_ | (refine Stk.both (fun hb => ?_) (fun hb => ?_) <;> (try simp only [lE] at hb))); all_goals (conv => whnf)
                all_goals (refine Q.r6 (h := ?_); repeat' (first | exact Q.r0 | refine Q.r1 ?_ ?_ | refine Q.r2 ?_ | exact Q.r7 | refine Q.r3 ?_ | refine Q.r4 ?_ | refine Q.r5 ?_))
              | true =>
                rw [hA] at j5
                by_cases hQ : rputX r (ackR e (rsdA m)) = 0
                · rw [if_pos ⟨c1, c2, c3, rfl, hQ⟩]
                  rw [hQ] at j6
                  have hq : (ackR e (rsdA m)).bal = m.bal := by rw [ackR_yes hA]; exact c2
                  generalize ackR e (rsdA m) = q at *
                  rw [tak_rsd hq]
                  have j7 := taken28_spec (rputR r q) q hl
                  generalize takP (rputR r q) q = w at *
                  generalize rputR r q = s at *
                  obtain ⟨u, o, b⟩ := w
                  dsimp only at j7 ⊢
                  cases b with
                  | false =>
                    rw [if_neg (by simp)]
                    refine ⟨?_⟩; refine Spec.ofR (h := fun F w0 => ?_)
                    repeat' ((conv => whnf); first | refine Q.E ?_ | (refine Stk.both (fun hb => ?_) (fun hb => ?_) <;> (try simp only [lE] at hb))); all_goals (conv => whnf)
                    refine Stk.by j5 (h := ?_)
                    repeat' ((conv => whnf); first | refine Q.E ?_ | (refine Stk.both (fun hb => ?_) (fun hb => ?_) <;> (try simp only [lE] at hb))); all_goals (conv => whnf)
                    all_goals (refine Q.r6 (h := ?_); repeat' (first | exact Q.r0 | refine Q.r1 ?_ ?_ | refine Q.r2 ?_ | exact Q.r7 | refine Q.r3 ?_ | refine Q.r4 ?_ | refine Q.r5 ?_))
                  | true =>
                    rw [if_pos rfl]
                    refine ⟨?_⟩; refine Spec.ofR (h := fun F w0 => ?_)
                    repeat' ((conv => whnf); first | refine Q.E ?_ | (refine Stk.both (fun hb => ?_) (fun hb => ?_) <;> (try simp only [lE] at hb))); all_goals (conv => whnf)
                    refine Stk.by j5 (h := ?_)
                    repeat' ((conv => whnf); first | refine Q.E ?_ | (refine Stk.both (fun hb => ?_) (fun hb => ?_) <;> (try simp only [lE] at hb))); all_goals (conv => whnf)
                    all_goals (refine Q.r6 (h := ?_); repeat' (first | exact Q.r0 | refine Q.r1 ?_ ?_ | refine Q.r2 ?_ | exact Q.r7 | refine Q.r3 ?_ | refine Q.r4 ?_ | refine Q.r5 ?_))
                · rw [if_neg (fun h => hQ h.2.2.2.2)]
                  generalize ackR e (rsdA m) = q at *
                  generalize rputR r q = s at *
                  generalize rputX r q = x at *
                  refine ⟨?_⟩; refine Spec.ofR (h := fun F w0 => ?_)
                  repeat' ((conv => whnf); first | refine Q.E ?_ | (refine Stk.both (fun hb => ?_) (fun hb => ?_) <;> (try simp only [lE] at hb))); all_goals (conv => whnf)
                  refine Stk.by j5 (h := ?_)
                  repeat' ((conv => whnf); first | refine Q.E ?_ | (refine Stk.both (fun hb => ?_) (fun hb => ?_) <;> (try simp only [lE] at hb))); all_goals (conv => whnf)
                  all_goals (refine Q.r6 (h := ?_); repeat' (first | exact Q.r0 | refine Q.r1 ?_ ?_ | refine Q.r2 ?_ | exact Q.r7 | refine Q.r3 ?_ | refine Q.r4 ?_ | refine Q.r5 ?_))
            · rw [if_neg (fun h => hc ⟨h.1, h.2.1, h.2.2.1⟩)]
              have hc2 : ¬ (1 ≤ e.phase ∧ e.phase ≤ 4 ∧ e.bal = m.bal ∧ e.abal ≠ m.bal) := fun h => hc ⟨openB_iff.2 ⟨h.1, h.2.1⟩, h.2.2⟩
              refine ⟨?_⟩; refine Spec.ofR (h := fun F w0 => ?_)
              repeat' ((conv => whnf); first | refine Q.E ?_ | (refine Stk.both (fun hb => ?_) (fun hb => ?_) <;> (try simp only [lE] at hb))); all_goals (conv => whnf)
              all_goals first | (exfalso; omega) | (refine Q.r6 (h := ?_); repeat' (first | exact Q.r0 | refine Q.r1 ?_ ?_ | refine Q.r2 ?_ | exact Q.r7 | refine Q.r3 ?_ | refine Q.r4 ?_ | refine Q.r5 ?_))
        · rw [rsd_no (fun h => ho h.2.2.2.1)]
          refine ⟨?_⟩; refine Spec.ofR (h := fun F w0 => ?_)
          repeat' ((conv => whnf); first | refine Q.E ?_ | (refine Stk.both (fun hb => ?_) (fun hb => ?_) <;> (try simp only [lE] at hb))); all_goals (conv => whnf)
          all_goals (refine Q.r6 (h := ?_); repeat' (first | exact Q.r0 | refine Q.r1 ?_ ?_ | refine Q.r2 ?_ | exact Q.r7 | refine Q.r3 ?_ | refine Q.r4 ?_ | refine Q.r5 ?_))
      · rw [rsd_no (fun h => hb h.2.2.1)]
        rw [decide_eq_true (by omega)] at jf
        refine ⟨?_⟩; refine Spec.ofR (h := fun F w0 => ?_)
        repeat' ((conv => whnf); first | refine Q.E ?_ | (refine Stk.both (fun hb => ?_) (fun hb => ?_) <;> (try simp only [lE] at hb))); all_goals (conv => whnf)
        all_goals (refine Q.r6 (h := ?_); repeat' (first | exact Q.r0 | refine Q.r1 ?_ ?_ | refine Q.r2 ?_ | exact Q.r7 | refine Q.r3 ?_ | refine Q.r4 ?_ | refine Q.r5 ?_))
  · rw [rsd_no (fun h => hk h.1)]
    refine ⟨?_⟩; refine Spec.ofR (h := fun F w0 => ?_)
    repeat' ((conv => whnf); first | refine Q.E ?_ | (refine Stk.both (fun hb => ?_) (fun hb => ?_) <;> (try simp only [lE] at hb))); all_goals (conv => whnf)
    all_goals (refine Q.r6 (h := ?_); repeat' (first | exact Q.r0 | refine Q.r1 ?_ ?_ | refine Q.r2 ?_ | exact Q.r7 | refine Q.r3 ?_ | refine Q.r4 ?_ | refine Q.r5 ?_))
end Go.Proofs.YtbjepdfnmbdplaaGreat
end
section
namespace Go.Proofs.YtbjepdfnmbdplaaGreat
open Go.RowKit
set_option linter.unusedSimpArgs false
set_option linter.unusedVariables false
set_option maxRecDepth 100000
set_option maxHeartbeats 4000000
def fewE (e : Ent) : Bool := decide (e.acks.length ≤ 100) && decide (e.payload.size ≤ 1000)
instance fewent_spec (e : Ent) : HasSpec Tryz.prog 12 [.agg e.cs] (.v (.bool (fewE e))) := by
  unfold fewE
  by_cases h : e.acks.length ≤ 100
  · rw [decide_eq_true h]
    refine ⟨?_⟩; refine Spec.ofR (h := fun F w0 => ?_)
    repeat' ((conv => whnf); first | refine Q.E ?_ | (refine Stk.both (fun hb => ?_) (fun hb => ?_) <;> (try simp only [lE] at hb))); all_goals (conv => whnf)
    (refine Q.r6 (h := ?_); repeat' (first | exact Q.r0 | refine Q.r1 ?_ ?_ | refine Q.r2 ?_ | exact Q.r7 | refine Q.r3 ?_ | refine Q.r4 ?_ | refine Q.r5 ?_))
    rw [tst_eq, Bool.true_and, decide_eq_decide]
    omega
  · rw [decide_eq_false h]
    refine ⟨?_⟩; refine Spec.ofR (h := fun F w0 => ?_)
    repeat' ((conv => whnf); first | refine Q.E ?_ | (refine Stk.both (fun hb => ?_) (fun hb => ?_) <;> (try simp only [lE] at hb))); all_goals (conv => whnf)
    (refine Q.r6 (h := ?_); repeat' (first | exact Q.r0 | refine Q.r1 ?_ ?_ | refine Q.r2 ?_ | exact Q.r7 | refine Q.r3 ?_ | refine Q.r4 ?_ | refine Q.r5 ?_))
def fewM (m : Msg) : Bool := decide (m.payload.size ≤ 1000) && decide (m.atts.length ≤ 300) && decide (m.marks.length ≤ 100)
instance fewmsg_spec (m : Msg) : HasSpec Tryz.prog 11 [.agg m.cs] (.v (.bool (fewM m))) := by
  unfold fewM
  by_cases h1 : m.payload.size ≤ 1000
  · by_cases h2 : m.atts.length ≤ 300
    · by_cases h3 : m.marks.length ≤ 100
      · rw [decide_eq_true h1, decide_eq_true h2, decide_eq_true h3]
        refine ⟨?_⟩; refine Spec.ofR (h := fun F w0 => ?_)
        repeat' ((conv => whnf); first | refine Q.E ?_ | (refine Stk.both (fun hb => ?_) (fun hb => ?_) <;> (try simp only [lE] at hb))); all_goals (conv => whnf)
        (refine Q.r6 (h := ?_); repeat' (first | exact Q.r0 | refine Q.r1 ?_ ?_ | refine Q.r2 ?_ | exact Q.r7 | refine Q.r3 ?_ | refine Q.r4 ?_ | refine Q.r5 ?_))
        all_goals (first | rfl | exact tst_true.2 (by omega) | exact tst_false.2 (by omega) | (simp [tst_eq]; done) | (simp only [Bool.not_true, Bool.not_false, Bool.and_true, Bool.true_and, Bool.and_false, Bool.false_and]; first | done | exact tst_true.2 (by omega) | exact tst_false.2 (by omega) | (rw [tst_true.2 (by omega)]; done) | (rw [tst_false.2 (by omega)]; done)))
      · rw [decide_eq_true h1, decide_eq_true h2, decide_eq_false h3]
        refine ⟨?_⟩; refine Spec.ofR (h := fun F w0 => ?_)
        repeat' ((conv => whnf); first | refine Q.E ?_ | (refine Stk.both (fun hb => ?_) (fun hb => ?_) <;> (try simp only [lE] at hb))); all_goals (conv => whnf)
        (refine Q.r6 (h := ?_); repeat' (first | exact Q.r0 | refine Q.r1 ?_ ?_ | refine Q.r2 ?_ | exact Q.r7 | refine Q.r3 ?_ | refine Q.r4 ?_ | refine Q.r5 ?_))
        all_goals (first | rfl | exact tst_true.2 (by omega) | exact tst_false.2 (by omega) | (simp [tst_eq]; done) | (simp only [Bool.not_true, Bool.not_false, Bool.and_true, Bool.true_and, Bool.and_false, Bool.false_and]; first | done | exact tst_true.2 (by omega) | exact tst_false.2 (by omega) | (rw [tst_true.2 (by omega)]; done) | (rw [tst_false.2 (by omega)]; done)))
    · rw [decide_eq_true h1, decide_eq_false h2]
      refine ⟨?_⟩; refine Spec.ofR (h := fun F w0 => ?_)
      repeat' ((conv => whnf); first | refine Q.E ?_ | (refine Stk.both (fun hb => ?_) (fun hb => ?_) <;> (try simp only [lE] at hb))); all_goals (conv => whnf)
      (refine Q.r6 (h := ?_); repeat' (first | exact Q.r0 | refine Q.r1 ?_ ?_ | refine Q.r2 ?_ | exact Q.r7 | refine Q.r3 ?_ | refine Q.r4 ?_ | refine Q.r5 ?_))
      all_goals (first | rfl | exact tst_true.2 (by omega) | exact tst_false.2 (by omega) | (simp [tst_eq]; done) | (simp only [Bool.not_true, Bool.not_false, Bool.and_true, Bool.true_and, Bool.and_false, Bool.false_and]; first | done | exact tst_true.2 (by omega) | exact tst_false.2 (by omega) | (rw [tst_true.2 (by omega)]; done) | (rw [tst_false.2 (by omega)]; done)))
  · rw [decide_eq_false h1]
    refine ⟨?_⟩; refine Spec.ofR (h := fun F w0 => ?_)
    repeat' ((conv => whnf); first | refine Q.E ?_ | (refine Stk.both (fun hb => ?_) (fun hb => ?_) <;> (try simp only [lE] at hb))); all_goals (conv => whnf)
    (refine Q.r6 (h := ?_); repeat' (first | exact Q.r0 | refine Q.r1 ?_ ?_ | refine Q.r2 ?_ | exact Q.r7 | refine Q.r3 ?_ | refine Q.r4 ?_ | refine Q.r5 ?_))
    all_goals (first | rfl | exact tst_true.2 (by omega) | exact tst_false.2 (by omega) | (simp [tst_eq]; done) | (simp only [Bool.not_true, Bool.not_false, Bool.and_true, Bool.true_and, Bool.and_false, Bool.false_and]; first | done | exact tst_true.2 (by omega) | exact tst_false.2 (by omega) | (rw [tst_true.2 (by omega)]; done) | (rw [tst_false.2 (by omega)]; done)))
def fewK (k : Kno) : Bool := decide (k.rs.length ≤ 100) && decide (k.atts.length ≤ 100)
instance fewkno_spec (k : Kno) : HasSpec Tryz.prog 45 [.agg k.cs] (.v (.bool (fewK k))) := by
  unfold fewK
  by_cases h : k.rs.length ≤ 100
  · rw [decide_eq_true h]
    refine ⟨?_⟩; refine Spec.ofR (h := fun F w0 => ?_)
    repeat' ((conv => whnf); first | refine Q.E ?_ | (refine Stk.both (fun hb => ?_) (fun hb => ?_) <;> (try simp only [lE] at hb))); all_goals (conv => whnf)
    (refine Q.r6 (h := ?_); repeat' (first | exact Q.r0 | refine Q.r1 ?_ ?_ | refine Q.r2 ?_ | exact Q.r7 | refine Q.r3 ?_ | refine Q.r4 ?_ | refine Q.r5 ?_))
    rw [tst_eq, Bool.true_and, decide_eq_decide]
    omega
  · rw [decide_eq_false h]
    refine ⟨?_⟩; refine Spec.ofR (h := fun F w0 => ?_)
    repeat' ((conv => whnf); first | refine Q.E ?_ | (refine Stk.both (fun hb => ?_) (fun hb => ?_) <;> (try simp only [lE] at hb))); all_goals (conv => whnf)
    (refine Q.r6 (h := ?_); repeat' (first | exact Q.r0 | refine Q.r1 ?_ ?_ | refine Q.r2 ?_ | exact Q.r7 | refine Q.r3 ?_ | refine Q.r4 ?_ | refine Q.r5 ?_))
def fewL (l : List Ent) : Bool := decide (l.length ≤ 60) && l.all fewE
theorem all_bad {α : Type} {p : α → Bool} {l : List α} {i : Nat} (h : i < l.length) (hq : p l[i] = false) : l.all p = false := List.all_eq_false.2 ⟨l[i], List.getElem_mem h, by rw [hq]; simp⟩
theorem all_good {α : Type} {p : α → Bool} {l : List α} {i : Nat} (h : ¬ i < l.length) (hq : ∀ x ∈ l.take i, (!p x) = false) : l.all p = true := List.all_eq_true.2 fun x hx => by
  have := take_all (p := fun x => !p x) (by omega) hq x hx
  simpa using this
instance fewents_spec (l : List Ent) : HasSpec Tryz.prog 43 [PV.ents l] (.v (.bool (fewL l))) := by
  unfold fewL
  by_cases h60 : l.length ≤ 60
  · rw [decide_eq_true h60, Bool.true_and]
    refine ⟨?_⟩; refine Spec.ofR (h := fun F w0 => ?_)
    repeat' ((conv => whnf); first | refine Q.E ?_ | (refine Stk.both (fun hb => ?_) (fun hb => ?_) <;> (try simp only [lE] at hb))); all_goals (conv => whnf)
    refine Stk.loop (ι := Nat) (fun i => [(0, PV.ents l), (3, PV.int (i : Nat))]) (fun _ => []) (fun i => i ≤ l.length ∧ ∀ x ∈ l.take i, (!fewE x) = false) (fun i => l.length - i) 0 ⟨Nat.zero_le _, by simp⟩ (Weak.gc ⟨rfl, rfl, trivial⟩ trivial rfl rfl rfl) (fun i hi => ?_)
    obtain ⟨hi, hno⟩ := hi
    by_cases hlt : i < l.length
    · have j1 := fewent_spec l[i]
      cases hq : fewE l[i] with
      | false =>
        rw [hq] at j1
        rw [all_bad hlt hq]
        repeat' ((conv => whnf); first | refine Q.E ?_ | (refine Stk.both (fun hb => ?_) (fun hb => ?_) <;> (try simp only [lE] at hb))); all_goals (conv => whnf)
        (refine Q.r6 (h := ?_); repeat' (first | exact Q.r0 | refine Q.r1 ?_ ?_ | refine Q.r2 ?_ | exact Q.r7 | refine Q.r3 ?_ | refine Q.r4 ?_ | refine Q.r5 ?_))
      | true =>
        rw [hq] at j1
        repeat' ((conv => whnf); first | refine Q.E ?_ | (refine Stk.both (fun hb => ?_) (fun hb => ?_) <;> (try simp only [lE] at hb))); all_goals (conv => whnf)
        exact ⟨i + 1, ⟨by omega, take_no (p := fun x => !fewE x) hlt hno (by show (!fewE l[i]) = false; rw [hq]; rfl)⟩, by omega, Weak.gc ⟨rfl, rfl, trivial⟩ trivial rfl rfl rfl⟩
    · rw [all_good hlt hno]
      repeat' ((conv => whnf); first | refine Q.E ?_ | (refine Stk.both (fun hb => ?_) (fun hb => ?_) <;> (try simp only [lE] at hb))); all_goals (conv => whnf)
      (refine Q.r6 (h := ?_); repeat' (first | exact Q.r0 | refine Q.r1 ?_ ?_ | refine Q.r2 ?_ | exact Q.r7 | refine Q.r3 ?_ | refine Q.r4 ?_ | refine Q.r5 ?_))
  · rw [decide_eq_false h60]
    refine ⟨?_⟩; refine Spec.ofR (h := fun F w0 => ?_)
    repeat' ((conv => whnf); first | refine Q.E ?_ | (refine Stk.both (fun hb => ?_) (fun hb => ?_) <;> (try simp only [lE] at hb))); all_goals (conv => whnf)
    (refine Q.r6 (h := ?_); repeat' (first | exact Q.r0 | refine Q.r1 ?_ ?_ | refine Q.r2 ?_ | exact Q.r7 | refine Q.r3 ?_ | refine Q.r4 ?_ | refine Q.r5 ?_))
def fewR1 (r : Rpl) : Bool := fewL r.entries && decide (r.own.length ≤ 100) && decide (r.known.length ≤ 20) && fewT r.marks && decide (r.fronts.length ≤ 20) && decide (r.done.length ≤ 20)
def fewR (r : Rpl) : Bool := fewR1 r && r.known.all fewK && (r.done.all fun l => decide (l.length ≤ 100)) && decide (r.items.length ≤ 60) && decide (r.sess.length ≤ 60)
theorem few_no1 {r : Rpl} (h : fewR1 r = false) : fewR r = false := by unfold fewR; rw [h]; rfl
theorem few_parts {r : Rpl} (h : fewR1 r = true) : fewL r.entries = true ∧ r.own.length ≤ 100 ∧ r.known.length ≤ 20 ∧ fewT r.marks = true ∧ r.fronts.length ≤ 20 ∧ r.done.length ≤ 20 := by
  unfold fewR1 at h
  simp only [Bool.and_eq_true, decide_eq_true_eq] at h
  exact ⟨h.1.1.1.1.1, h.1.1.1.1.2, h.1.1.1.2, h.1.1.2, h.1.2, h.2⟩
theorem few_nots {r : Rpl} (h : fewR1 r = false) : ¬ (fewL r.entries = true ∧ r.own.length ≤ 100 ∧ r.known.length ≤ 20 ∧ fewT r.marks = true ∧ r.fronts.length ≤ 20 ∧ r.done.length ≤ 20) := by
  rintro ⟨h1, h2, h3, h4, h5, h6⟩
  unfold fewR1 at h
  rw [h1, decide_eq_true h2, decide_eq_true h3, h4, decide_eq_true h5, decide_eq_true h6] at h
  cases h
instance fewrep_spec (r : Rpl) : HasSpec Tryz.prog 10 [.agg r.cs] (.v (.bool (fewR r))) := by
  have je := fewents_spec r.entries
  have jt := few18_spec r.marks
  cases h1 : fewR1 r with
  | false =>
    rw [few_no1 h1]
    have hn := few_nots h1
    cases he : fewL r.entries with
    | false =>
      rw [he] at je
      refine ⟨?_⟩; refine Spec.ofR (h := fun F w0 => ?_)
      repeat' ((conv => whnf); first | refine Q.E ?_ | (refine Stk.both (fun hb => ?_) (fun hb => ?_) <;> (try simp only [lE] at hb))); all_goals (conv => whnf)
      (refine Q.r6 (h := ?_); repeat' (first | exact Q.r0 | refine Q.r1 ?_ ?_ | refine Q.r2 ?_ | exact Q.r7 | refine Q.r3 ?_ | refine Q.r4 ?_ | refine Q.r5 ?_))
    | true =>
      rw [he] at je hn
      cases hm : fewT r.marks with
      | false =>
        rw [hm] at jt
        refine ⟨?_⟩; refine Spec.ofR (h := fun F w0 => ?_)
        repeat' ((conv => whnf); first | refine Q.E ?_ | (refine Stk.both (fun hb => ?_) (fun hb => ?_) <;> (try simp only [lE] at hb))); all_goals (conv => whnf)
        all_goals (refine Q.r6 (h := ?_); repeat' (first | exact Q.r0 | refine Q.r1 ?_ ?_ | refine Q.r2 ?_ | exact Q.r7 | refine Q.r3 ?_ | refine Q.r4 ?_ | refine Q.r5 ?_))
      | true =>
        rw [hm] at jt hn
        have hn2 : ¬ (r.own.length ≤ 100 ∧ r.known.length ≤ 20 ∧ r.fronts.length ≤ 20 ∧ r.done.length ≤ 20) := fun h => hn ⟨rfl, h.1, h.2.1, rfl, h.2.2.1, h.2.2.2⟩
        refine ⟨?_⟩; refine Spec.ofR (h := fun F w0 => ?_)
        repeat' ((conv => whnf); first | refine Q.E ?_ | (refine Stk.both (fun hb => ?_) (fun hb => ?_) <;> (try simp only [lE] at hb))); all_goals (conv => whnf)
        all_goals first | (exfalso; omega) | (refine Q.r6 (h := ?_); repeat' (first | exact Q.r0 | refine Q.r1 ?_ ?_ | refine Q.r2 ?_ | exact Q.r7 | refine Q.r3 ?_ | refine Q.r4 ?_ | refine Q.r5 ?_))
  | true =>
    obtain ⟨he, h2, h3, hm, h5, h6⟩ := few_parts h1
    rw [he] at je
    rw [hm] at jt
    unfold fewR
    rw [h1, Bool.true_and]
    refine ⟨?_⟩; refine Spec.ofR (h := fun F w0 => ?_)
    repeat' ((conv => whnf); first | refine Q.E ?_ | (refine Stk.both (fun hb => ?_) (fun hb => ?_) <;> (try simp only [lE] at hb))); all_goals (conv => whnf)
    refine Stk.loop (ι := Nat) (fun i => [(1, .lp 1 0), (3, PV.int (i : Nat))]) (fun _ => [(1, .box r.cs)]) (fun i => i ≤ r.known.length ∧ ∀ x ∈ r.known.take i, (!fewK x) = false) (fun i => r.known.length - i) 0 ⟨Nat.zero_le _, by simp⟩ (Weak.gc ⟨rfl, rfl, trivial⟩ ⟨rfl, trivial⟩ rfl rfl rfl) (fun i hi => ?_)
    obtain ⟨hi, hno⟩ := hi
    by_cases hlt : i < r.known.length
    · have j1 := fewkno_spec r.known[i]
      cases hq : fewK r.known[i] with
      | false =>
        rw [hq] at j1
        rw [all_bad hlt hq]
        repeat' ((conv => whnf); first | refine Q.E ?_ | (refine Stk.both (fun hb => ?_) (fun hb => ?_) <;> (try simp only [lE] at hb))); all_goals (conv => whnf)
        (refine Q.r6 (h := ?_); repeat' (first | exact Q.r0 | refine Q.r1 ?_ ?_ | refine Q.r2 ?_ | exact Q.r7 | refine Q.r3 ?_ | refine Q.r4 ?_ | refine Q.r5 ?_))
      | true =>
        rw [hq] at j1
        repeat' ((conv => whnf); first | refine Q.E ?_ | (refine Stk.both (fun hb => ?_) (fun hb => ?_) <;> (try simp only [lE] at hb))); all_goals (conv => whnf)
        exact ⟨i + 1, ⟨by omega, take_no (p := fun x => !fewK x) hlt hno (by show (!fewK r.known[i]) = false; rw [hq]; rfl)⟩, by omega, Weak.gc ⟨rfl, rfl, trivial⟩ ⟨rfl, trivial⟩ rfl rfl rfl⟩
    · rw [all_good hlt hno, Bool.true_and]
      repeat' ((conv => whnf); first | refine Q.E ?_ | (refine Stk.both (fun hb => ?_) (fun hb => ?_) <;> (try simp only [lE] at hb))); all_goals (conv => whnf)
      refine Stk.loop (ι := Nat) (fun i => [(1, .lp 1 0), (4, PV.int (i : Nat))]) (fun _ => [(1, .box r.cs)]) (fun i => i ≤ r.done.length ∧ ∀ x ∈ r.done.take i, (!decide (x.length ≤ 100)) = false) (fun i => r.done.length - i) 0 ⟨Nat.zero_le _, by simp⟩ (Weak.gc ⟨rfl, rfl, trivial⟩ ⟨rfl, trivial⟩ rfl rfl rfl) (fun i hi => ?_)
      obtain ⟨hi, hno⟩ := hi
      by_cases hlt : i < r.done.length
      · by_cases hq : r.done[i].length ≤ 100
        · repeat' ((conv => whnf); first | refine Q.E ?_ | (refine Stk.both (fun hb => ?_) (fun hb => ?_) <;> (try simp only [lE] at hb))); all_goals (conv => whnf)
          exact ⟨i + 1, ⟨by omega, take_no (p := fun x => !decide (x.length ≤ 100)) hlt hno (by show (!decide (r.done[i].length ≤ 100)) = false; rw [decide_eq_true hq]; rfl)⟩, by omega, Weak.gc ⟨rfl, rfl, trivial⟩ ⟨rfl, trivial⟩ rfl rfl rfl⟩
        · rw [all_bad (p := fun l => decide (l.length ≤ 100)) hlt (decide_eq_false hq)]
          repeat' ((conv => whnf); first | refine Q.E ?_ | (refine Stk.both (fun hb => ?_) (fun hb => ?_) <;> (try simp only [lE] at hb))); all_goals (conv => whnf)
          (refine Q.r6 (h := ?_); repeat' (first | exact Q.r0 | refine Q.r1 ?_ ?_ | refine Q.r2 ?_ | exact Q.r7 | refine Q.r3 ?_ | refine Q.r4 ?_ | refine Q.r5 ?_))
      · rw [all_good (p := fun l => decide (l.length ≤ 100)) hlt hno, Bool.true_and]
        by_cases hi60 : r.items.length ≤ 60
        · rw [decide_eq_true hi60, Bool.true_and]
          repeat' ((conv => whnf); first | refine Q.E ?_ | (refine Stk.both (fun hb => ?_) (fun hb => ?_) <;> (try simp only [lE] at hb))); all_goals (conv => whnf)
          (refine Q.r6 (h := ?_); repeat' (first | exact Q.r0 | refine Q.r1 ?_ ?_ | refine Q.r2 ?_ | exact Q.r7 | refine Q.r3 ?_ | refine Q.r4 ?_ | refine Q.r5 ?_))
          rw [tst_eq, decide_eq_decide]
          omega
        · rw [decide_eq_false hi60, Bool.false_and]
          repeat' ((conv => whnf); first | refine Q.E ?_ | (refine Stk.both (fun hb => ?_) (fun hb => ?_) <;> (try simp only [lE] at hb))); all_goals (conv => whnf)
          (refine Q.r6 (h := ?_); repeat' (first | exact Q.r0 | refine Q.r1 ?_ ?_ | refine Q.r2 ?_ | exact Q.r7 | refine Q.r3 ?_ | refine Q.r4 ?_ | refine Q.r5 ?_))
end Go.Proofs.YtbjepdfnmbdplaaGreat
end
section
namespace Go.Proofs.YtbjepdfnmbdplaaGreat
open Go.RowKit
set_option linter.unusedSimpArgs false
set_option linter.unusedVariables false
set_option maxRecDepth 100000
set_option maxHeartbeats 4000000
theorem noIdB_map {α : Type} {f : α → List PV} {id t sz ver : Nat} (h : ∀ x, noIdL id (f x) = true) (l : List α) : LB.noId id (.row t sz ver (l.map f)) = true := List.all_eq_true.2 fun e he => by
  obtain ⟨x, _, rfl⟩ := List.mem_map.1 he
  exact h x
theorem newtab_spec (N : Nat) (hn : 3 ≤ N ∧ N ≤ 9) : HasSpec Tryz.prog 120 [PV.int (N : Nat)] (.tup [PV.tab (List.replicate N (List.replicate N 0)), PV.int 0]) := by
  generalize hZ : List.replicate N (0 : Int) = Z
  refine ⟨?_⟩; refine Spec.ofR (h := fun F w0 => ?_)
  repeat' ((conv => whnf); first | refine Q.E ?_ | (refine Stk.both (fun hb => ?_) (fun hb => ?_) <;> (try simp only [lE] at hb))); all_goals (conv => whnf)
  refine Stk.loop (ι := Nat) (fun i => [(0, PV.int (N : Nat)), (4, .row 4 i), (5, PV.int (i : Nat))]) (fun i => [(4, .row 26 1 i ((List.replicate i Z).map rcs))]) (fun i => i ≤ N) (fun i => N - i) 0 (Nat.zero_le _) (Weak.trans (Weak.nilrow (t := 4) (id := 4) (rt := 26) (sz := 1) rfl rfl) (Weak.gc ⟨rfl, rfl, rfl, trivial⟩ ⟨rfl, trivial⟩ rfl rfl rfl)) (fun i hi => ?_)
  have htl : (List.replicate i Z).length = i := List.length_replicate
  have hrs : List.replicate (i + 1) Z = List.replicate i Z ++ [Z] := List.replicate_succ'
  generalize hT : List.replicate i Z = T at *
  by_cases hlt : i < N
  · repeat' ((conv => whnf); first | refine Q.E ?_ | (refine Stk.both (fun hb => ?_) (fun hb => ?_) <;> (try simp only [lE] at hb))); all_goals (conv => whnf)
    refine Stk.loopW (ι := Nat) (fun k => [(0, PV.int (N : Nat)), (4, .row 4 i), (5, PV.int (i : Nat)), (6, .row 6 k), (7, PV.int (k : Nat))]) (fun k => [(4, .row 26 1 i (T.map rcs)), (6, .row 3 1 k ((List.replicate k (0 : Int)).map ics))]) (fun k => k ≤ N) (fun k => N - k) 0 (Nat.zero_le _) (Weak.trans (Weak.nilrow (t := 6) (id := 6) (rt := 3) (sz := 1) rfl rfl) (Weak.gc ⟨rfl, rfl, rfl, rfl, rfl, trivial⟩ ⟨rfl, rfl, trivial⟩ rfl (onlyH_row (fun _ => rfl) rfl) rfl)) (fun k hk => ?_)
    have hul : (List.replicate k (0 : Int)).length = k := List.length_replicate
    have hus : List.replicate (k + 1) (0 : Int) = List.replicate k 0 ++ [0] := List.replicate_succ'
    by_cases hlt2 : k < N
    · generalize hU : List.replicate k (0 : Int) = U at *
      repeat' ((conv => whnf); first | refine Q.E ?_ | (refine Stk.both (fun hb => ?_) (fun hb => ?_) <;> (try simp only [lE] at hb))); all_goals (conv => whnf)
      (refine Stk.app rfl Q.app ?_)
      repeat' ((conv => whnf); first | refine Q.E ?_ | (refine Stk.both (fun hb => ?_) (fun hb => ?_) <;> (try simp only [lE] at hb))); all_goals (conv => whnf)
      refine ⟨k + 1, by show k + 1 ≤ N; omega, by omega, ?_⟩
      rw [hus]
      exact Weak.gc ⟨rfl, rfl, rfl, rfl, rfl, trivial⟩ ⟨rfl, by rw [List.map_append]; rfl, trivial⟩ rfl (onlyH_row (fun _ => rfl) (onlyH_row (fun _ => rfl) rfl)) rfl
    · obtain rfl : k = N := by omega
      rw [hZ]
      repeat' ((conv => whnf); first | refine Q.E ?_ | (refine Stk.both (fun hb => ?_) (fun hb => ?_) <;> (try simp only [lE] at hb))); all_goals (conv => whnf)
      refine ⟨[(0, PV.int (k : Nat)), (4, .row 4 i), (5, PV.int (i : Nat)), (6, PV.ints Z)], [(4, .row 26 1 i (T.map rcs))], Weak.frz (id := 6) (ver := k) (rt := 3) (sz := 1) (xs := Z.map ics) rfl (all_map_closed (fun _ => rfl) _) ⟨.inl ⟨rfl, rfl⟩, .inl ⟨rfl, rfl⟩, .inl ⟨rfl, rfl⟩, .inr ⟨rfl, rfl⟩, trivial⟩ ⟨⟨by decide, noIdB_map (fun _ => rfl) T, rfl⟩, trivial⟩ rfl, ?_⟩
      repeat' ((conv => whnf); first | refine Q.E ?_ | (refine Stk.both (fun hb => ?_) (fun hb => ?_) <;> (try simp only [lE] at hb))); all_goals (conv => whnf)
      (refine Stk.app rfl Q.app ?_)
      repeat' ((conv => whnf); first | refine Q.E ?_ | (refine Stk.both (fun hb => ?_) (fun hb => ?_) <;> (try simp only [lE] at hb))); all_goals (conv => whnf)
      refine ⟨i + 1, by show i + 1 ≤ k; omega, by omega, ?_⟩
      rw [hrs]
      exact Weak.gc ⟨rfl, rfl, rfl, trivial⟩ ⟨by rw [List.map_append]; rfl, trivial⟩ rfl (onlyH_row (fun _ => rfl) rfl) rfl
  · obtain rfl : i = N := by omega
    rw [← hT]
    repeat' ((conv => whnf); first | refine Q.E ?_ | (refine Stk.both (fun hb => ?_) (fun hb => ?_) <;> (try simp only [lE] at hb))); all_goals (conv => whnf)
    (refine Q.r6 (h := ?_); repeat' (first | exact Q.r0 | refine Q.r1 ?_ ?_ | refine Q.r2 ?_ | exact Q.r7 | refine Q.r3 ?_ | refine Q.r4 ?_ | refine Q.r5 ?_))
def tab3 : List (List Int) := [[0, 0, 0], [0, 0, 0], [0, 0, 0]]
theorem new18_3 : HasSpec Tryz.prog 120 [PV.int 3] (.tup [PV.tab tab3, PV.int 0]) := newtab_spec 3 (by omega)
def kno0 : Kno := ⟨0, [], []⟩
def newRpl (s : Int) : Rpl := ⟨3, 1, s, 0, 0, 0, 0, [], [], [kno0, kno0, kno0], tab3, [0, 0, 0], [[], [], []], ⟨0, 0⟩, 0, [], []⟩
def knoW : List PV := [PV.int 0, .v (.slice none 0 0), .v (.slice none 0 0)]
def donW : List PV := [.v (.slice none 0 0)]
def newW (s : Int) : List PV := [PV.int 3, PV.int 1, PV.int s, PV.int 0, PV.int 0, PV.int 0, PV.int 0, .v (.slice none 0 0), .v (.slice none 0 0), .sl 3 [knoW, knoW, knoW], PV.tab tab3, .sl 1 [[PV.int 0], [PV.int 0], [PV.int 0]], .sl 1 [donW, donW, donW], PV.int 0, PV.int 0, PV.int 0, .v (.slice none 0 0), .v (.slice none 0 0)]
theorem knoW_sub : SubXL knoW kno0.cs := .cons (.refl _) (.cons (.nil _) (.cons (.nil _) .nil))
theorem donW_sub : SubXL donW (dcs []) := .cons (.nil _) .nil
theorem newW_sub (s : Int) : SubXL (newW s) (newRpl s).cs :=
  .cons (.refl _) (.cons (.refl _) (.cons (.refl _) (.cons (.refl _) (.cons (.refl _) (.cons (.refl _) (.cons (.refl _) (.cons (.nil _) (.cons (.nil _) (.cons (SubX.sl (.cons knoW_sub (.cons knoW_sub (.cons knoW_sub .nil)))) (.cons (.refl _) (.cons (.refl _) (.cons (SubX.sl (.cons donW_sub (.cons donW_sub (.cons donW_sub .nil)))) (.cons (.refl _) (.cons (.refl _) (.cons (.refl _) (.cons (.nil _) (.cons (.nil _) .nil)))))))))))))))))
theorem new25_spec (s : Int) (hs : 1 ≤ s ∧ s ≤ 3) : HasSpec Tryz.prog 46 [PV.int 3, PV.int 1, PV.int s] (.tup [.agg (newRpl s).cs, PV.int 0]) := by
  refine HasSpec.mono (r := .tup [.agg (newW s), PV.int 0]) ?_ (SubX.tup (.cons (SubX.agg (newW_sub s)) (.cons (.refl _) .nil)))
  have j1 := rsizeok (n := 3) (f := 1) (by decide)
  have j2 := new18_3
  unfold newW
  generalize tab3 = M at *
  refine ⟨?_⟩; refine Spec.ofR (h := fun F w0 => ?_)
  repeat' ((conv => whnf); first | refine Q.E ?_ | (refine Stk.both (fun hb => ?_) (fun hb => ?_) <;> (try simp only [lE] at hb))); all_goals (conv => whnf)
  refine Stk.unroll 4 ?_
  repeat' ((conv => whnf); first | refine Q.E ?_ | (refine Stk.both (fun hb => ?_) (fun hb => ?_) <;> (try simp only [lE] at hb))); all_goals (conv => whnf)
  refine Stk.weak (Weak.nilrow (t := 48) (id := 91) (rt := 81) (sz := 3) rfl rfl) ?_ trivial
  repeat' ((conv => whnf); first | refine Q.E ?_ | (refine Stk.both (fun hb => ?_) (fun hb => ?_) <;> (try simp only [lE] at hb))); all_goals (conv => whnf)
  (refine Stk.app rfl Q.app ?_)
  repeat' ((conv => whnf); first | refine Q.E ?_ | (refine Stk.both (fun hb => ?_) (fun hb => ?_) <;> (try simp only [lE] at hb))); all_goals (conv => whnf)
  refine Stk.weak (Weak.nilrow (t := 54) (id := 92) (rt := 3) (sz := 1) rfl rfl) ?_ trivial
  repeat' ((conv => whnf); first | refine Q.E ?_ | (refine Stk.both (fun hb => ?_) (fun hb => ?_) <;> (try simp only [lE] at hb))); all_goals (conv => whnf)
  (refine Stk.app rfl Q.app ?_)
  repeat' ((conv => whnf); first | refine Q.E ?_ | (refine Stk.both (fun hb => ?_) (fun hb => ?_) <;> (try simp only [lE] at hb))); all_goals (conv => whnf)
  refine Stk.weak (Weak.nilrow (t := 59) (id := 93) (rt := 79) (sz := 1) rfl rfl) ?_ trivial
  repeat' ((conv => whnf); first | refine Q.E ?_ | (refine Stk.both (fun hb => ?_) (fun hb => ?_) <;> (try simp only [lE] at hb))); all_goals (conv => whnf)
  (refine Stk.app rfl Q.app ?_)
  repeat' ((conv => whnf); first | refine Q.E ?_ | (refine Stk.both (fun hb => ?_) (fun hb => ?_) <;> (try simp only [lE] at hb))); all_goals (conv => whnf)
  (refine Stk.app rfl Q.app ?_)
  repeat' ((conv => whnf); first | refine Q.E ?_ | (refine Stk.both (fun hb => ?_) (fun hb => ?_) <;> (try simp only [lE] at hb))); all_goals (conv => whnf)
  (refine Stk.app rfl Q.app ?_)
  repeat' ((conv => whnf); first | refine Q.E ?_ | (refine Stk.both (fun hb => ?_) (fun hb => ?_) <;> (try simp only [lE] at hb))); all_goals (conv => whnf)
  (refine Stk.app rfl Q.app ?_)
  repeat' ((conv => whnf); first | refine Q.E ?_ | (refine Stk.both (fun hb => ?_) (fun hb => ?_) <;> (try simp only [lE] at hb))); all_goals (conv => whnf)
  (refine Stk.app rfl Q.app ?_)
  repeat' ((conv => whnf); first | refine Q.E ?_ | (refine Stk.both (fun hb => ?_) (fun hb => ?_) <;> (try simp only [lE] at hb))); all_goals (conv => whnf)
  (refine Stk.app rfl Q.app ?_)
  repeat' ((conv => whnf); first | refine Q.E ?_ | (refine Stk.both (fun hb => ?_) (fun hb => ?_) <;> (try simp only [lE] at hb))); all_goals (conv => whnf)
  (refine Stk.app rfl Q.app ?_)
  repeat' ((conv => whnf); first | refine Q.E ?_ | (refine Stk.both (fun hb => ?_) (fun hb => ?_) <;> (try simp only [lE] at hb))); all_goals (conv => whnf)
  (refine Q.r6 (h := ?_); repeat' (first | exact Q.r0 | refine Q.r1 ?_ ?_ | refine Q.r2 ?_ | exact Q.r7 | refine Q.r3 ?_ | refine Q.r4 ?_ | refine Q.r5 ?_))
end Go.Proofs.YtbjepdfnmbdplaaGreat
end
section
namespace Go.Proofs.YtbjepdfnmbdplaaGreat
open Go.RowKit
set_option linter.unusedSimpArgs false
set_option linter.unusedVariables false
set_option maxRecDepth 100000
theorem ents_nil : entsB [] = true := ents_pw.2 ⟨by simp, by simp, by simp⟩
theorem ents_one {e : Ent} (h : entB e = true) : entsB [e] = true := ents_pw.2 ⟨by simp, by simpa using h, by simp⟩
theorem newRep (s : Int) (hs : 1 ≤ s ∧ s ≤ 3) : repB (newRpl s) = true := by
  have h1 : numsB (newRpl s) = true := by
    unfold numsB newRpl
    rw [Bool.and_eq_true]
    exact ⟨decide_eq_true (by simp only; omega), rfl⟩
  have h2 : cmdB (newRpl s) = true := by
    unfold cmdB
    show (entsB [] && true) = true
    rw [ents_nil]
    rfl
  unfold repB
  rw [h1, h2]
  rfl
theorem one_put {r : Rpl} {l : List Ent} {e : Ent} (hr : repB r = true) (he : r.entries = l) (hl : l = [] ∨ ∃ x, l = [x] ∧ x.id = e.id ∧ entB x = true) (h1 : entB e = true) (h2 : 1 ≤ selfI e.id ∧ selfI e.id ≤ r.n) (h3 : doneAt r e.id = false) : rputX r e = 0 ∧ putE r.entries e = [e] := by
  subst he
  have hd : ¬ (doneAt r e.id = true ∧ e.phase ≠ 6) := fun h => by rw [h3] at h; cases h.1
  rw [rputX_put ⟨hr, h2⟩ hd]
  rcases hl with hl | ⟨x, hl, hx, h4⟩
  · rw [hl]
    refine ⟨?_, rfl⟩
    unfold putX
    rw [if_neg (not_not_intro ⟨ents_nil, h1⟩), if_neg (by simp [findB]), if_pos (by simp)]
  · rw [hl]
    have hf : findB [x] e.id = true := by simp [findB, isId, hx]
    refine ⟨?_, ?_⟩
    · unfold putX
      rw [if_neg (not_not_intro ⟨ents_one h4, h1⟩), if_pos hf]
    · unfold putE
      rw [if_pos hf, show posE [x] e.id = 0 from by simp [posE, hx]]
      rfl
def hiP : ByteArray := ⟨#[104, 105]⟩
def accM : Msg := ⟨3, 1, 11, 5, 1, 0, 0, 3, hiP, 0, 0, [], [], 0⟩
def eN : Ent := ⟨11, 1, 3, 0, 0, 0, 0, 0, hiP, []⟩
def eA : Ent := ⟨11, 1, 3, 5, 1, 1, 0, 0, hiP, []⟩
def eC : Ent := ⟨11, 5, 3, 5, 1, 1, 0, 0, hiP, []⟩
def e1 : Ent := ⟨11, 2, 3, 5, 1, 1, 0, 0, hiP, [⟨2, 1, 1, 0, 0, 0⟩]⟩
def e2 : Ent := ⟨11, 2, 3, 5, 1, 1, 0, 0, hiP, [⟨2, 1, 1, 0, 0, 0⟩, ⟨2, 2, 1, 0, 0, 0⟩]⟩
def e8 : Ent := ⟨11, 2, 3, 5, 1, 1, 9, 0, hiP, [⟨2, 1, 1, 0, 0, 0⟩]⟩
def oneR (s : Int) (e : Ent) (c : Int) : Rpl := { newRpl s with entries := [e], clock := c }
theorem oneRep {s : Int} (hs : 1 ≤ s ∧ s ≤ 3) {e : Ent} (h : entB e = true) (hi : selfI e.id ≤ 3) {c : Int} (hc : 0 ≤ c ∧ c ≤ 1000000) : repB (oneR s e c) = true :=
  rep_with (newRep s hs) (ents_one h) (by intro x hx; rw [List.mem_singleton] at hx; subst hx; exact hi) hc.1 hc.2
theorem aN : entB eN = true := by decide
theorem aA : entB eA = true := by decide
theorem aC : entB eC = true := by decide
theorem a1 : entB e1 = true := by decide
theorem a2 : entB e2 = true := by decide
theorem a8 : entB e8 = true := by decide
theorem hears_of {r : Rpl} {m : Msg} (h1 : repB r = true) (h2 : msgB m = true) (h3 : m.fr ≤ r.n ∧ m.fr ≠ r.self ∧ selfI m.id ≤ r.n ∧ m.quorum < 2 ^ r.n.toNat) : hearsB r m = true := by
  unfold hearsB
  rw [h1, h2, decide_eq_true h3]
  rfl
theorem doneB_no {r : Rpl} {id : Int} (h : doneAt r id = false) : doneB r id = false := by unfold doneB; rw [h, Bool.and_false]
theorem lrn_old {r : Rpl} {id q : Int} {p : ByteArray} {e : Ent} (hr : repB r = true) (hd : doneAt r id = false) (hf : findB r.entries id = true) (ht : findT r.entries id = e) : lrnB r id q p = true ∧ lrnR r id q p = r ∧ lrnE r id q p = e := by
  have h : repB r = true ∧ doneB r id = false := ⟨hr, doneB_no hd⟩
  exact ⟨(if_pos h).trans (if_pos hf), (if_pos h).trans (if_pos hf), (if_pos h).trans ((if_pos hf).trans ht)⟩
theorem lrn_new {r : Rpl} {id q : Int} {p : ByteArray} (hr : repB r = true) (hd : doneAt r id = false) (hf : findB r.entries id = false) (he : entB (.new id q p) = true) (hx : rputX r (.new id q p) = 0) : lrnB r id q p = true ∧ lrnR r id q p = { r with entries := putE r.entries (.new id q p) } ∧ lrnE r id q p = .new id q p := by
  have hn : ¬ findB r.entries id = true := by rw [hf]; simp
  have h : repB r = true ∧ doneB r id = false := ⟨hr, doneB_no hd⟩
  exact ⟨(if_pos h).trans ((if_neg hn).trans (if_pos ⟨he, hx⟩)), (if_pos h).trans ((if_neg hn).trans ((if_pos he).trans (rputR_yes hx))), (if_pos h).trans ((if_neg hn).trans (if_pos ⟨he, hx⟩))⟩
theorem one_puts {s c : Int} (hs : 1 ≤ s ∧ s ≤ 3) (hc : 0 ≤ c ∧ c ≤ 1000000) {x e : Ent} (hx : entB x = true) (he : entB e = true) (h1 : x.id = 11) (h2 : e.id = 11) : rputX (oneR s x c) e = 0 ∧ putE (oneR s x c).entries e = [e] :=
  one_put (oneRep hs hx (by rw [h1]; decide) hc) rfl (.inr ⟨x, rfl, by rw [h1, h2], hx⟩) he (by rw [h2]; exact ⟨by decide, show selfI 11 ≤ 3 by decide⟩) (by rw [h2]; rfl)
theorem one_bmp {s c t : Int} (hs : 1 ≤ s ∧ s ≤ 3) (hc : 0 ≤ c ∧ c ≤ 1000000) {x e : Ent} (hx : entB x = true) (he : entB e = true) (h1 : x.id = 11) (h2 : e.id = 11) : bmpR (oneR s x c) e t = oneR s e (bumpI c t) := by
  obtain ⟨h3, h4⟩ := one_puts hs hc hx he h1 h2
  unfold bmpR
  rw [if_pos h3, h4]
  rfl
theorem f1 : onAcc (newRpl 2) accM = (oneR 2 eA 5, [⟨1, ⟨4, 2, 11, 0, 1, 0, 0, 0, noByte, 0, 0, [], [], 0⟩⟩]) := by
  have hr := newRep 2 (by omega)
  obtain ⟨p1, p2⟩ := one_put (r := newRpl 2) (e := eN) hr rfl (.inl rfl) aN ⟨by decide, by decide⟩ rfl
  obtain ⟨l1, l2, l3⟩ := lrn_new (r := newRpl 2) (id := 11) (q := 3) (p := hiP) hr rfl rfl aN p1
  have l2' : lrnR (newRpl 2) 11 3 hiP = oneR 2 eN 0 := by rw [l2, show Ent.new 11 3 hiP = eN from rfl, p2]; rfl
  have l3' : lrnE (newRpl 2) 11 3 hiP = eN := l3
  obtain ⟨q1, q2⟩ := one_puts (s := 2) (c := 0) (by omega) (by omega) aN aA rfl rfl
  unfold onAcc
  rw [if_pos ⟨by decide, by decide, hears_of hr (by decide) (by decide), l1⟩]
  show (if settB (lrnE (newRpl 2) 11 3 hiP).phase = true then _ else _) = _
  rw [show lrnE (newRpl 2) accM.id accM.quorum accM.payload = eN from l3', show lrnR (newRpl 2) accM.id accM.quorum accM.payload = oneR 2 eN 0 from l2', l3']
  rw [if_neg (by decide), if_neg (by decide), show accE eN accM.t accM.bal = eA from rfl, if_pos ⟨by decide, q1⟩, one_bmp (by omega) (by omega) aN aA rfl rfl]
  rfl
def m4 : Msg := ⟨4, 2, 11, 0, 1, 0, 0, 0, noByte, 0, 0, [], [], 0⟩
def m5 : Msg := ⟨5, 1, 11, 5, 0, 0, 0, 3, hiP, 0, 0, [], [], 0⟩
def m8 : Msg := ⟨8, 3, 11, 0, 9, 0, 0, 0, noByte, 0, 0, [], [], 0⟩
theorem cmt_one {s c t : Int} (hs : 1 ≤ s ∧ s ≤ 3) (hc : 0 ≤ c ∧ c ≤ 1000000) {x e : Ent} (hx : entB x = true) (he : entB e = true) (h1 : x.id = 11) (h2 : e.id = 11) (hX : commX e t = 0) (he2 : entB (commE e t) = true) (h3 : (commE e t).id = 11) : cmtB (oneR s x c) e t = true ∧ cmtR (oneR s x c) e t = oneR s (commE e t) (bumpI c t) := by
  obtain ⟨h4, h5⟩ := one_puts hs hc hx he2 h1 h3
  refine ⟨(if_pos hX).trans ?_, (if_pos hX).trans (one_bmp hs hc hx he2 h1 h3)⟩
  unfold bmpB
  exact @decide_eq_true _ (_) h4
theorem f2 : onAcd (oneR 1 e1 0) m4 = (oneR 1 { e2 with phase := 5, acks := [] } 5, [⟨2, m5⟩, ⟨3, m5⟩]) := by
  have hr := oneRep (s := 1) (c := 0) (by omega) a1 (by decide) (by omega)
  obtain ⟨q1, q2⟩ := one_puts (s := 1) (c := 0) (by omega) (by omega) a1 a2 rfl rfl
  obtain ⟨c1, c2⟩ := cmt_one (s := 1) (c := 0) (t := 5) (by omega) (by omega) a2 a2 rfl rfl (by decide) (by decide) rfl
  have hr2 := oneRep (s := 1) (e := commE e2 5) (c := 5) (by omega) (by decide) (by decide) (by omega)
  have hput : rputR (oneR 1 e1 0) e2 = oneR 1 e2 0 := by rw [rputR_yes q1, q2]; rfl
  have hack : ackR e1 (accA m4) = e2 := rfl
  unfold onAcd
  rw [if_pos ⟨by decide, hears_of hr (by decide) (by decide), by decide, by decide⟩]
  show (if openB e1.phase = true ∧ e1.bal = m4.bal ∧ e1.abal = m4.bal ∧ ackB e1 (accA m4) = true ∧ rputX (oneR 1 e1 0) (ackR e1 (accA m4)) = 0 then (if wonB (ackR e1 (accA m4)) m4.bal (oneR 1 e1 0).f = true then (if cmtB (rputR (oneR 1 e1 0) (ackR e1 (accA m4))) (ackR e1 (accA m4)) (ackR e1 (accA m4)).t = true then (cmtR (rputR (oneR 1 e1 0) (ackR e1 (accA m4))) (ackR e1 (accA m4)) (ackR e1 (accA m4)).t, allO (cmtR (rputR (oneR 1 e1 0) (ackR e1 (accA m4))) (ackR e1 (accA m4)) (ackR e1 (accA m4)).t) (tolM (rputR (oneR 1 e1 0) (ackR e1 (accA m4))) (ackR e1 (accA m4)))) else ((oneR 1 e1 0), [])) else (rputR (oneR 1 e1 0) (ackR e1 (accA m4)), [])) else ((oneR 1 e1 0), [])) = _
  rw [hack, hput, if_pos ⟨by decide, by decide, by decide, by decide, q1⟩, if_pos (by decide), show e2.t = 5 from rfl, if_pos c1, c2, show bumpI 0 5 = 5 from rfl]
  unfold allO
  rw [if_pos hr2]
  rfl
theorem f3 : onCmt (oneR 2 eA 5) m5 = (oneR 2 eC 5, []) := by
  have hr := oneRep (s := 2) (c := 5) (by omega) aA (by decide) (by omega)
  obtain ⟨l1, l2, l3⟩ := lrn_old (r := oneR 2 eA 5) (id := 11) (q := 3) (p := hiP) (e := eA) hr rfl rfl rfl
  obtain ⟨c1, c2⟩ := cmt_one (s := 2) (c := 5) (t := 5) (by omega) (by omega) aA aA rfl rfl (by decide) (by decide) rfl
  unfold onCmt
  rw [if_pos ⟨by decide, hears_of hr (by decide) (by decide), l1⟩]
  show (if settB (lrnE (oneR 2 eA 5) 11 3 hiP).phase = true then (lrnR (oneR 2 eA 5) 11 3 hiP, []) else if cmtB (lrnR (oneR 2 eA 5) 11 3 hiP) (lrnE (oneR 2 eA 5) 11 3 hiP) 5 = true then (cmtR (lrnR (oneR 2 eA 5) 11 3 hiP) (lrnE (oneR 2 eA 5) 11 3 hiP) 5, []) else (oneR 2 eA 5, [])) = _
  rw [l2, l3, if_neg (by decide), if_pos c1, c2]
  rfl
theorem f4 : onAcc (oneR 2 eC 5) accM = (oneR 2 eC 5, [⟨1, ⟨5, 2, 11, 5, 0, 0, 0, 3, hiP, 0, 0, [], [], 0⟩⟩]) := by
  have hr := oneRep (s := 2) (c := 5) (by omega) aC (by decide) (by omega)
  obtain ⟨l1, l2, l3⟩ := lrn_old (r := oneR 2 eC 5) (id := 11) (q := 3) (p := hiP) (e := eC) hr rfl rfl rfl
  unfold onAcc
  rw [if_pos ⟨by decide, by decide, hears_of hr (by decide) (by decide), l1⟩]
  show (if settB (lrnE (oneR 2 eC 5) 11 3 hiP).phase = true then (lrnR (oneR 2 eC 5) 11 3 hiP, helpO (lrnR (oneR 2 eC 5) 11 3 hiP) (lrnE (oneR 2 eC 5) 11 3 hiP) 1) else _) = _
  rw [if_pos (by rw [l3]; decide), l2, l3]
  unfold helpO
  rw [if_pos ⟨by decide, hr, by decide, by decide, by decide⟩]
  rfl
theorem f5 : onRef (oneR 1 e1 0) m8 = (oneR 1 e8 0, []) := by
  have hr := oneRep (s := 1) (c := 0) (by omega) a1 (by decide) (by omega)
  obtain ⟨q1, q2⟩ := one_puts (s := 1) (c := 0) (by omega) (by omega) a1 a8 rfl rfl
  have hh : hearE (findT (oneR 1 e1 0).entries m8.id) m8.bal = e8 := rfl
  unfold onRef
  rw [hh, if_pos ⟨by decide, hears_of hr (by decide) (by decide), by decide, q1⟩, rputR_yes q1, q2]
  rfl
end Go.Proofs.YtbjepdfnmbdplaaGreat
end
section
namespace Go.Proofs.YtbjepdfnmbdplaaGreat
open Go.RowKit
set_option linter.unusedSimpArgs false
set_option linter.unusedVariables false
set_option maxRecDepth 100000
set_option maxHeartbeats 4000000
end Go.Proofs.YtbjepdfnmbdplaaGreat
end
section
namespace Go.Proofs.YtbjepdfnmbdplaaGreat
open Go.RowKit
set_option linter.unusedSimpArgs false
set_option linter.unusedVariables false
set_option maxRecDepth 100000
set_option maxHeartbeats 4000000
def eNW : List PV := [PV.int 11, PV.int 1, PV.int 3, PV.int 0, PV.int 0, PV.int 0, PV.int 0, PV.int 0, .v (.string hiP), .v (.slice none 0 0)]
def oneW (s c : Int) : List PV := [PV.int 3, PV.int 1, PV.int s, PV.int c, PV.int 0, PV.int 0, PV.int 0, .sl 10 [eNW], .sl 2 [], PV.knos [kno0, kno0, kno0], PV.tab tab3, PV.ints [0, 0, 0], PV.dons [[], [], []], PV.int 0, PV.int 0, PV.int 0, .sl 4 [], .sl 3 []]
theorem eNW_sub : SubXL eNW eN.cs := .cons (.refl _) (.cons (.refl _) (.cons (.refl _) (.cons (.refl _) (.cons (.refl _) (.cons (.refl _) (.cons (.refl _) (.cons (.refl _) (.cons (.refl _) (.cons (.nil _) .nil)))))))))
theorem oneW_sub (s c : Int) : SubXL (oneW s c) (oneR s eN c).cs :=
  .cons (.refl _) (.cons (.refl _) (.cons (.refl _) (.cons (.refl _) (.cons (.refl _) (.cons (.refl _) (.cons (.refl _) (.cons (SubX.sl (.cons eNW_sub .nil)) (.cons (.refl _) (.cons (.refl _) (.cons (.refl _) (.cons (.refl _) (.cons (.refl _) (.cons (.refl _) (.cons (.refl _) (.cons (.refl _) (.cons (.refl _) (.cons (.refl _) .nil)))))))))))))))))
theorem with28_spec (s c : Int) (hs : 1 ≤ s ∧ s ≤ 3) : HasSpec Tryz.prog 97 [PV.int s, PV.int c] (.agg (oneR s eN c).cs) := by
  refine HasSpec.mono (r := .agg (oneW s c)) ?_ (SubX.agg (oneW_sub s c))
  have j1 := new25_spec s hs
  unfold oneW eNW hiP
  refine ⟨?_⟩; refine Spec.ofR (h := fun F w0 => ?_)
  repeat' ((conv => whnf); first | refine Q.E ?_ | (refine Stk.both (fun hb => ?_) (fun hb => ?_) <;> (try simp only [lE] at hb))); all_goals (conv => whnf)
  (refine Q.r6 (h := ?_); repeat' (first | exact Q.r0 | refine Q.r1 ?_ ?_ | refine Q.r2 ?_ | exact Q.r7 | refine Q.r3 ?_ | refine Q.r4 ?_ | refine Q.r5 ?_))
end Go.Proofs.YtbjepdfnmbdplaaGreat
end
section
namespace Go.Proofs.YtbjepdfnmbdplaaGreat
open Go.RowKit
set_option linter.unusedSimpArgs false
set_option linter.unusedVariables false
set_option maxRecDepth 100000
theorem one_time {s c : Int} {e : Ent} (hr : repB (oneR s e c) = true) (hc : 0 ≤ c ∧ c + 1 ≤ 1000000) : timX (oneR s e c) 11 0 = 0 ∧ timT (oneR s e c) 11 0 = c + 1 ∧ timR (oneR s e c) 11 0 = { oneR s e c with clock := c + 1, own := [⟨c + 1, 11⟩] } := by
  have hk : clkB c 0 [] = true := by
    unfold clkB
    rw [decide_eq_true (show (0 : Int) ≤ 0 ∧ 0 ≤ c ∧ c ≤ 1000000 by omega)]
    rfl
  have hm : max 0 (c + 1) = c + 1 := by omega
  have hX : propsX c [] 11 0 = 0 := propsX_0 ⟨hk, by decide, by omega, by omega⟩ rfl (by omega)
  have hT : timX (oneR s e c) 11 0 = 0 := (if_pos hr).trans hX
  obtain ⟨h1, h2⟩ := props_yes hX
  rw [hm] at h1 h2
  obtain ⟨h3, h4⟩ := tim_yes hT
  refine ⟨hT, h4.trans h1, h3.trans ?_⟩
  show { oneR s e c with clock := propsT c [] 11 0, own := propsL c [] 11 0 } = _
  rw [h1, h2]
  rfl
def eP (t b : Int) : Ent := ⟨11, 4, 3, t, b, 0, 0, 0, hiP, []⟩
theorem aP5 : entB (eP 5 5) = true := by decide
theorem aP9 : entB (eP 9 5) = true := by decide
theorem needN : needsB eN = true := by decide
theorem g1a : rscI (oneR 2 eN 4) eN = 5 ∧ rscX (oneR 2 eN 4) eN = 0 := by decide
theorem g1b : promE eN 5 5 = eP 5 5 ∧ promX eN 5 5 = 0 := ⟨rfl, by decide⟩
theorem g2b : promE eN 5 9 = eP 9 5 ∧ promX eN 5 9 = 0 := ⟨rfl, by decide⟩
end Go.Proofs.YtbjepdfnmbdplaaGreat
end
section
namespace Go.Proofs.YtbjepdfnmbdplaaGreat
open Go.RowKit
set_option linter.unusedSimpArgs false
set_option linter.unusedVariables false
theorem clk_prop {now floor T id : Int} {own : List Att} (h : clkB now floor own = true) (hid : idB id = true) (hno : own.any (sameId id) = false) (h1 : now < T) (h2 : T ≤ 1000000) : clkB T floor (own ++ [⟨T, id⟩]) = true := by
  obtain ⟨k1, k2, k3⟩ := clk_le h
  have hp : pref (ownP floor now) own = true := by
    unfold clkB at h
    rw [Bool.and_eq_true] at h
    exact h.2
  unfold clkB
  rw [decide_eq_true (show 0 ≤ floor ∧ floor ≤ T ∧ T ≤ 1000000 by omega), Bool.true_and]
  refine pref_iff.2 fun i hi => ?_
  rw [List.length_append, List.length_singleton] at hi
  by_cases hl : i < own.length
  · rw [List.getElem_append_left hl, List.take_append_of_le_length (by omega)]
    have := ownP_iff.1 (pref_iff.1 hp i hl)
    exact ownP_iff.2 ⟨⟨this.1.1, this.1.2.1, by omega, this.1.2.2.2⟩, this.2⟩
  · obtain rfl : i = own.length := by omega
    rw [List.take_left]
    have e : (own ++ [⟨T, id⟩])[own.length] = (⟨T, id⟩ : Att) := by simp
    rw [e]
    refine ownP_iff.2 ⟨⟨by show floor < T; omega, ?_, Int.le_refl _, hid⟩, hno⟩
    show lastI Att.t floor own < T
    by_cases h0 : own.length = 0
    · rw [List.eq_nil_of_length_eq_zero h0]
      show floor < T
      omega
    · have h3 := lastI_pos Att.t floor (l := own) (i := own.length) (Nat.le_refl _) (by omega)
      rw [List.take_length] at h3
      rw [h3]
      have := ownP_iff.1 (pref_iff.1 hp (own.length - 1) (by omega))
      omega
theorem tim_parts {r : Rpl} {id least : Int} (h : timX r id least = 0) : repB r = true ∧ idB id = true ∧ r.own.any (sameId id) = false ∧ max least (r.clock + 1) ≤ 1000000 ∧ timT r id least = max least (r.clock + 1) ∧ timR r id least = { r with clock := max least (r.clock + 1), own := r.own ++ [⟨max least (r.clock + 1), id⟩] } := by
  have h0 := h
  unfold timX at h
  split at h
  · rename_i hr
    obtain ⟨e1, e2⟩ := tim_yes h0
    obtain ⟨p1, p2⟩ := props_yes h
    unfold propsX at h
    split at h
    · cases h
    · rename_i hc
      have hc := Classical.not_not.1 hc
      split at h
      · cases h
      · rename_i ha
        split at h
        · rename_i hm
          refine ⟨hr, hc.2.1, by simpa using ha, hm, e2.trans p1, ?_⟩
          rw [e1, p1, p2]
        · cases h
  · cases h
theorem rep_own {r : Rpl} {c : Int} {l : List Att} (h : repB r = true) (hc : clkB c r.floor l = true) : repB { r with clock := c, own := l } = true := by
  obtain ⟨a1, a2, a3, a4⟩ := rep_parts h
  obtain ⟨b1, b2⟩ := nums_p a1
  have c1 : numsB { r with clock := c, own := l } = true := by
    rw [nums_yes (r := { r with clock := c, own := l }) b1]
    exact hc
  unfold repB
  rw [c1, show cmdB { r with clock := c, own := l } = cmdB r from rfl, show hrsB { r with clock := c, own := l } = hrsB r from rfl, show finB { r with clock := c, own := l } = finB r from rfl, a2, a3, a4]
  rfl
theorem tim_stays (r : Rpl) (id least : Int) : Stays r (timR r id least) := by
  by_cases h : timX r id least = 0
  · obtain ⟨h1, h2, h3, h4, _, h6⟩ := tim_parts h
    rw [h6]
    have hk := clk_prop (nums_p (rep_parts h1).1).2 h2 h3 (T := max least (r.clock + 1)) (by omega) h4
    exact ⟨rfl, rfl, rfl, rfl, by show r.clock ≤ max least (r.clock + 1); omega, fun _ => rep_own h1 hk⟩
  · rw [(tim_no h).1]
    exact .refl r
theorem p28S_stays (r : Rpl) (e : Ent) : Stays r (p28S r e) := by
  unfold p28S
  split
  · exact tim_stays r _ _
  · exact .refl r
theorem p28_stays (r : Rpl) (e : Ent) (b : Int) : Stays r (p28R r e b) := by
  unfold p28R
  split
  · exact (p28S_stays r e).trans (rput_stays _ _)
  · exact .refl r
theorem p28_all {r : Rpl} {e : Ent} {b : Int} (h : p28B r e b = true) : (repB r = true ∧ entB e = true ∧ p28X r e = 0 ∧ promX e b (p28T r e) = 0 ∧ rputX (p28S r e) (p28P r e b) = 0) ∧ p28R r e b = rputR (p28S r e) (p28P r e b) ∧ p28E r e b = p28P r e b := by
  by_cases hc : repB r = true ∧ entB e = true ∧ p28X r e = 0 ∧ promX e b (p28T r e) = 0 ∧ rputX (p28S r e) (p28P r e b) = 0
  · exact ⟨hc, (p28_yes hc).2⟩
  · rw [(p28_no hc).1] at h
    cases h
theorem prom_tells {r : Rpl} {e : Ent} {b : Int} (h : p28B r e b = true) : Kept e (p28E r e b) ∧ (1 ≤ b ∧ b ≤ 1000000) ∧ e.bal < b ∧ (p28E r e b).bal = b ∧ (p28E r e b).abal = e.abal ∧ e.abal < b ∧ (1 ≤ (p28E r e b).phase ∧ (p28E r e b).phase ≤ 4) ∧ (0 < (p28E r e b).abal ∨ 3 ≤ (p28E r e b).phase) ∧ 0 < (p28E r e b).t ∧ e.phase < 5 := by
  obtain ⟨⟨c1, c2, c3, c4, c5⟩, e1, e2⟩ := p28_all h
  obtain ⟨d1, d2, d3, d4, d5⟩ := prom_ok c4
  have k : Kept e (p28E r e b) := by rw [e2]; exact prom_kept c2
  have hb : (p28E r e b).bal = b ∧ (p28E r e b).abal = e.abal ∧ (p28E r e b).phase = (if e.bal = 0 then n3P e.phase else e.phase) := by
    rw [e2]
    unfold p28P
    rw [promE_yes c4]
    exact ⟨rfl, rfl, rfl⟩
  obtain ⟨hb, ha, hph⟩ := hb
  have f := ent_facts c2
  have g := ent_facts k.ent
  have hn : n3P e.phase = if e.phase = 2 ∨ e.phase = 3 then 3 else 4 := by
    unfold n3P
    rw [if_pos (by omega)]
  rw [hn] at hph
  generalize p28E r e b = p at *
  refine ⟨k, d2, d5, hb, ha, by omega, ?_, ?_, ?_, d4⟩
  all_goals (repeat' split at hph)
  all_goals omega
theorem msg_rsc {s id b : Int} {e : Ent} (hs : 1 ≤ s ∧ s ≤ 9) (he : entB e = true) (hi : idB id = true) (hb : 1 ≤ b ∧ b ≤ 1000000) : msgB (rscM s id b e) = true := by
  obtain ⟨h1, _, _, h4, h5, h6, _⟩ := entB_iff.1 he
  unfold msgB inN rscM
  simp only [show kI 6 = true from rfl, show kT 6 = false from rfl, show kL 6 = true from rfl, show kC 6 = true from rfl, show kA 6 = false from rfl, show kP 6 = false from rfl, if_true, Bool.false_eq_true, if_false, hi, Bool.true_or, Bool.and_true, Bool.true_and, and_self]
  rw [decide_eq_true hs, decide_eq_true hb, decide_eq_true (show 1 ≤ e.quorum ∧ e.quorum ≤ 511 by omega), decide_eq_true h6]
  rfl
theorem msg_rsd {s : Int} {m : Msg} {e : Ent} (hs : 1 ≤ s ∧ s ≤ 9) (hi : idB m.id = true) (ht : 1 ≤ e.t ∧ e.t ≤ 1000000) (hb : 1 ≤ e.bal ∧ e.bal ≤ 1000000) (ha : 0 ≤ e.abal ∧ e.abal < e.bal ∧ 1 ≤ e.phase ∧ e.phase ≤ 4 ∧ (0 < e.abal ∨ 3 ≤ e.phase)) : msgB (rsdM s m e) = true := by
  unfold msgB inN rsdM
  simp only [show kI 7 = true from rfl, show kT 7 = true from rfl, show kL 7 = true from rfl, show kC 7 = false from rfl, show kA 7 = true from rfl, show kP 7 = false from rfl, if_true, Bool.false_eq_true, if_false, hi, Bool.true_or, Bool.false_or, Bool.and_true, Bool.true_and, and_self]
  rw [decide_eq_true hs, decide_eq_true hb, decide_eq_true ht, decide_eq_true ha]
  rfl
theorem msg_tak {s t b : Int} {e : Ent} (hs : 1 ≤ s ∧ s ≤ 9) (he : entB e = true) (ht : 1 ≤ t ∧ t ≤ 1000000) (hb : 1 ≤ b ∧ b ≤ 1000000) : msgB (takM s t b e) = true := by
  obtain ⟨h1, _, _, h4, h5, h6, _⟩ := entB_iff.1 he
  unfold msgB inN takM
  simp only [show kI 3 = true from rfl, show kT 3 = true from rfl, show kL 3 = true from rfl, show kC 3 = true from rfl, show kA 3 = false from rfl, show kP 3 = false from rfl, if_true, Bool.false_eq_true, if_false, h1, Bool.true_or, Bool.and_true, Bool.true_and, and_self]
  rw [decide_eq_true hs, decide_eq_true hb, decide_eq_true ht, decide_eq_true (show 1 ≤ e.quorum ∧ e.quorum ≤ 511 by omega), decide_eq_true h6]
  rfl
theorem allm_send {r u : Rpl} {m : Msg} (hn : u.n = r.n) (hs : u.self = r.self) (hf : m.fr = r.self) (hm : msgB m = true) : ∀ o ∈ allO u m, sendB r o = true := by
  intro o ho
  unfold allO at ho
  split at ho
  · rw [List.mem_map] at ho
    obtain ⟨d, hd, rfl⟩ := ho
    have h1 := oth_mem hd
    have he : m.from u.self = m := by
      unfold Msg.from
      rw [hs, ← hf]
    refine send_of ⟨h1.1, by rw [← hn]; exact h1.2.1, by rw [← hs]; exact h1.2.2, hs⟩ ?_
    show msgB (m.from u.self) = true
    rw [he]
    exact hm
  · cases ho
theorem staE_ent {r : Rpl} {e : Ent} (h : p28B r e (rscI r e) = true) : entB (staE r e) = true ∧ (staE r e).id = e.id := by
  obtain ⟨k, _⟩ := prom_tells h
  obtain ⟨a1, _, _, a4, _⟩ := ackR_facts (a := rscA r.self (p28E r e (rscI r e))) k.ent
  exact ⟨a1, a4.trans k.id⟩
theorem onSta_keeps (r : Rpl) (id : Int) : Stays r (onSta r id).1 ∧ ∀ o ∈ (onSta r id).2, sendB r o = true := by
  unfold onSta
  split
  · rename_i h
    obtain ⟨hr, hf, ho, hX, hB, hA, hQ⟩ := h
    have st : Stays r (staR r (findT r.entries id)) := (p28_stays r _ _).trans (rput_stays _ _)
    have he := find_ent hr hf
    have hi := (find_mem hf).2
    obtain ⟨a1, a2⟩ := staE_ent hB
    obtain ⟨_, hb, _⟩ := prom_tells hB
    have hs := rep_self hr
    have hid : idB id = true := by
      rw [← hi]
      exact (entB_iff.1 he).1
    exact ⟨st, allm_send st.n st.self rfl (msg_rsc ⟨hs.1, by omega⟩ a1 hid hb)⟩
  · exact ⟨.refl r, by simp⟩
theorem onRsc_keeps (r : Rpl) (m : Msg) : Stays r (onRsc r m).1 ∧ ∀ o ∈ (onRsc r m).2, sendB r o = true := by
  unfold onRsc
  split
  · rename_i h
    obtain ⟨hk, hh, _, _, hl⟩ := h
    obtain ⟨hr, hm, h1, h2, h3⟩ := hears_rep hh
    obtain ⟨m1, m2, m3⟩ := msg_facts hm (by rw [hk]; decide)
    have mb := m3 (by rw [hk]; decide)
    have he := lrn_ent hl
    have st := lrn_stays r m.id m.quorum m.payload
    dsimp only
    split
    · exact ⟨st, help_send st.n st.self he⟩
    · split
      · refine ⟨st, ans_send hr ⟨m1, h1, h2⟩ (.inr rfl) m2 ?_⟩
        have := ent_facts he
        omega
      · split
        · exact ⟨.refl r, by simp⟩
        · split
          · rename_i hB
            refine ⟨st.trans (p28_stays _ _ _), fun o ho => ?_⟩
            rw [List.mem_singleton] at ho
            subst ho
            obtain ⟨k, b1, b2, b3, b4, b5, b6, b7, b8, _⟩ := prom_tells hB
            have hs := rep_self hr
            have f := ent_facts k.ent
            exact send_of ⟨m1, h1, h2, rfl⟩ (msg_rsd ⟨hs.1, by omega⟩ m2 ⟨by omega, by omega⟩ (by omega) (by have := ent_facts he; omega))
          · exact ⟨.refl r, by simp⟩
  · exact ⟨.refl r, by simp⟩
theorem tk_parts {r : Rpl} {e : Ent} {t b : Int} (h : tkB r e t b = true) : accX e t b = 0 ∧ ackB (accE e t b) (ackA r b) = true ∧ rputX r (ackR (accE e t b) (ackA r b)) = 0 := by
  unfold tkB at h
  split at h
  · rename_i hc
    unfold bmpB at h
    exact ⟨hc.1, hc.2, of_decide_eq_true h⟩
  · cases h
theorem onRsd_keeps (r : Rpl) (m : Msg) : Stays r (onRsd r m).1 ∧ ∀ o ∈ (onRsd r m).2, sendB r o = true := by
  unfold onRsd
  split
  · rename_i h
    obtain ⟨hk, hh, _, _, hf⟩ := h
    obtain ⟨hr, hm, h1, h2, h3⟩ := hears_rep hh
    have he := find_ent hr hf
    obtain ⟨m1, m2, m3⟩ := msg_facts hm (by rw [hk]; decide)
    have mb := m3 (by rw [hk]; decide)
    dsimp only
    split
    · rename_i hc
      obtain ⟨c1, c2, c3, c4, c5⟩ := hc
      obtain ⟨a1, a2, a3, _⟩ := ackR_facts (a := rsdA m) he
      have sp := rput_stays r (ackR (findT r.entries m.id) (rsdA m))
      split
      · split
        · rename_i ht
          obtain ⟨t1, t2, t3⟩ := tk_parts ht.2
          obtain ⟨_, w1, w2, _⟩ := acc_ok t1
          have sc := sp.trans (tk_stays (rputR r (ackR (findT r.entries m.id) (rsdA m))) (ackR (findT r.entries m.id) (rsdA m)) (chooseR r.n r.f (ackR (findT r.entries m.id) (rsdA m)).quorum (ackR (findT r.entries m.id) (rsdA m)).id (ofL (ackR (findT r.entries m.id) (rsdA m)).acks 3 m.bal)).1 m.bal)
          have hs := rep_self hr
          exact ⟨sc, allm_send sc.n sc.self rfl (msg_tak ⟨hs.1, by omega⟩ a1 w1 w2)⟩
        · exact ⟨.refl r, by simp⟩
      · exact ⟨sp, by simp⟩
    · exact ⟨.refl r, by simp⟩
  · exact ⟨.refl r, by simp⟩
end Go.Proofs.YtbjepdfnmbdplaaGreat
end
section
namespace Go.Proofs.YtbjepdfnmbdplaaGreat
open Go.RowKit
set_option linter.unusedSimpArgs false
set_option linter.unusedVariables false
set_option maxRecDepth 100000
def ownR (s : Int) (e : Ent) (c : Int) (l : List Att) : Rpl := { oneR s e c with own := l }
theorem ownRep {s : Int} (hs : 1 ≤ s ∧ s ≤ 3) {e : Ent} (h : entB e = true) (hi : selfI e.id ≤ 3) {c t : Int} (hc : 1 ≤ t ∧ t ≤ c ∧ c ≤ 1000000) : repB (ownR s e c [⟨t, 11⟩]) = true := by
  have h0 : clkB (t - 1) 0 [] = true := by
    unfold clkB
    rw [decide_eq_true (show (0 : Int) ≤ 0 ∧ 0 ≤ t - 1 ∧ t - 1 ≤ 1000000 by omega)]
    rfl
  have h1 : clkB t 0 ([] ++ [⟨t, 11⟩]) = true := clk_prop h0 (by decide) rfl (by omega) (by omega)
  have h2 : clkB c 0 [⟨t, 11⟩] = true := clk_later h1 hc.2.1 hc.2.2
  exact rep_own (r := oneR s e c) (oneRep hs h hi (by omega)) h2
theorem p28_one {s c b : Int} (hs : 1 ≤ s ∧ s ≤ 3) (hc : 0 ≤ c ∧ c + 1 ≤ 1000000) (h1 : promX eN b (c + 1) = 0) (h2 : promE eN b (c + 1) = eP (c + 1) b) (h3 : entB (eP (c + 1) b) = true) : p28B (oneR s eN c) eN b = true ∧ p28R (oneR s eN c) eN b = ownR s (eP (c + 1) b) (c + 1) [⟨c + 1, 11⟩] ∧ p28E (oneR s eN c) eN b = eP (c + 1) b := by
  have hr := oneRep hs aN (by decide) (c := c) (by omega)
  obtain ⟨t1, t2, t3⟩ := one_time hr hc
  obtain ⟨n1, n2, n3⟩ := p28_ne (r := oneR s eN c) needN
  rw [show eN.id = 11 from rfl] at n1 n2 n3
  rw [t3] at n1
  rw [t2] at n2
  rw [t1] at n3
  have hP : p28P (oneR s eN c) eN b = eP (c + 1) b := by
    unfold p28P
    rw [n2, h2]
  have hr2 : repB { oneR s eN c with clock := c + 1, own := [⟨c + 1, 11⟩] } = true := ownRep hs aN (by decide) (c := c + 1) (t := c + 1) (by omega)
  obtain ⟨q1, q2⟩ := one_put (r := { oneR s eN c with clock := c + 1, own := [⟨c + 1, 11⟩] }) (e := eP (c + 1) b) hr2 rfl (.inr ⟨eN, rfl, rfl, aN⟩) h3 ⟨show 1 ≤ selfI 11 by decide, show selfI 11 ≤ 3 by decide⟩ rfl
  obtain ⟨y1, y2, y3⟩ := p28_yes (r := oneR s eN c) (e := eN) (b := b) ⟨hr, aN, n3, by rw [n2]; exact h1, by rw [n1, hP]; exact q1⟩
  refine ⟨y1, ?_, y3.trans hP⟩
  rw [y2, n1, hP, rputR_yes q1, q2]
  rfl
def eS : Ent := ⟨11, 4, 3, 5, 5, 0, 0, 0, hiP, [⟨3, 2, 5, 5, 0, 4⟩]⟩
def eU : Ent := ⟨11, 4, 3, 5, 5, 0, 0, 0, hiP, [⟨3, 2, 5, 5, 0, 4⟩, ⟨3, 3, 5, 9, 0, 4⟩]⟩
def eT : Ent := ⟨11, 4, 3, 9, 5, 5, 0, 0, hiP, [⟨2, 2, 5, 0, 0, 0⟩]⟩
theorem aS : entB eS = true := by decide
theorem aU : entB eU = true := by decide
theorem aT : entB eT = true := by decide
def m6 : Msg := ⟨6, 2, 11, 0, 5, 0, 0, 3, hiP, 0, 0, [], [], 0⟩
def m7 : Msg := ⟨7, 3, 11, 9, 5, 0, 4, 0, noByte, 0, 0, [], [], 0⟩
def m3 : Msg := ⟨3, 2, 11, 9, 5, 0, 0, 3, hiP, 0, 0, [], [], 0⟩
def at5 : List Att := [⟨5, 11⟩]
def at9 : List Att := [⟨9, 11⟩]
theorem own_puts {s c t : Int} (hs : 1 ≤ s ∧ s ≤ 3) (hc : 1 ≤ t ∧ t ≤ c ∧ c ≤ 1000000) {x e : Ent} (hx : entB x = true) (he : entB e = true) (h1 : x.id = 11) (h2 : e.id = 11) : rputX (ownR s x c [⟨t, 11⟩]) e = 0 ∧ putE (ownR s x c [⟨t, 11⟩]).entries e = [e] :=
  one_put (ownRep hs hx (by rw [h1]; decide) hc) rfl (.inr ⟨x, rfl, by rw [h1, h2], hx⟩) he (by rw [h2]; exact ⟨by decide, show selfI 11 ≤ 3 by decide⟩) (by rw [h2]; rfl)
theorem g1 : onSta (oneR 2 eN 4) 11 = (ownR 2 eS 5 at5, [⟨1, m6⟩, ⟨3, m6⟩]) := by
  have hr := oneRep (s := 2) (e := eN) (c := 4) (by omega) aN (by decide) (by omega)
  obtain ⟨b1, b2, b3⟩ := p28_one (s := 2) (c := 4) (b := 5) (by omega) (by omega) g1b.2 g1b.1 aP5
  rw [show (4 : Int) + 1 = 5 from rfl] at b2 b3
  obtain ⟨i1, i2⟩ := g1a
  have hf : findT (oneR 2 eN 4).entries 11 = eN := rfl
  have hk : ackR (eP 5 5) (rscA 2 (eP 5 5)) = eS := rfl
  have hS : staE (oneR 2 eN 4) eN = eS := by
    unfold staE
    rw [i1, b3]
    exact hk
  obtain ⟨q1, q2⟩ := own_puts (s := 2) (c := 5) (t := 5) (x := eP 5 5) (e := eS) (by omega) (by omega) aP5 aS rfl rfl
  have hR : staR (oneR 2 eN 4) eN = ownR 2 eS 5 at5 := by
    unfold staR
    rw [i1, b2, hS, rputR_yes q1, q2]
    rfl
  have hr3 : repB (ownR 2 eS 5 at5) = true := ownRep (by omega) aS (by decide) (by omega)
  rw [sta_yes (by rw [hf]; exact ⟨hr, rfl, by decide, i2, by rw [i1]; exact b1, by rw [i1, b3]; decide, by rw [i1, b2, hS]; exact q1⟩), hf, hR, hS, i1]
  unfold allO
  rw [if_pos hr3]
  rfl
theorem g2 : onRsc (oneR 3 eN 8) m6 = (ownR 3 (eP 9 5) 9 at9, [⟨2, m7⟩]) := by
  have hr := oneRep (s := 3) (e := eN) (c := 8) (by omega) aN (by decide) (by omega)
  obtain ⟨b1, b2, b3⟩ := p28_one (s := 3) (c := 8) (b := 5) (by omega) (by omega) g2b.2 g2b.1 aP9
  rw [show (8 : Int) + 1 = 9 from rfl] at b2 b3
  obtain ⟨l1, l2, l3⟩ := lrn_old (r := oneR 3 eN 8) (id := m6.id) (q := m6.quorum) (p := m6.payload) (e := eN) hr rfl rfl rfl
  unfold onRsc
  rw [if_pos ⟨rfl, hears_of hr (by decide) (by decide), by decide, by decide, l1⟩]
  dsimp only
  rw [l2, l3, if_neg (by decide), if_neg (by decide), if_neg (by decide), show m6.bal = 5 from rfl, if_pos b1, b2, b3]
  rfl
theorem g3 : onRsd (ownR 2 eS 5 at5) m7 = (ownR 2 eT 9 at5, [⟨1, m3⟩, ⟨3, m3⟩]) := by
  have hr : repB (ownR 2 eS 5 at5) = true := ownRep (by omega) aS (by decide) (by omega)
  have hr2 : repB (ownR 2 eT 9 at5) = true := ownRep (by omega) aT (by decide) (by omega)
  obtain ⟨q1, q2⟩ := own_puts (s := 2) (c := 5) (t := 5) (x := eS) (e := eU) (by omega) (by omega) aS aU rfl rfl
  obtain ⟨p1, p2⟩ := own_puts (s := 2) (c := 5) (t := 5) (x := eU) (e := eT) (by omega) (by omega) aU aT rfl rfl
  have hf : findT (ownR 2 eS 5 at5).entries m7.id = eS := rfl
  have hk : ackR eS (rsdA m7) = eU := rfl
  have hput : rputR (ownR 2 eS 5 at5) eU = ownR 2 eU 5 at5 := (rputR_yes q1).trans (by rw [q2]; rfl)
  have hrdy : readyB 3 1 [⟨3, 2, 5, 5, 0, 4⟩, ⟨3, 3, 5, 9, 0, 4⟩] = true := readyB_iff.2 ⟨by decide, fun j hj _ => by
    match j, hj with
    | 0, _ => exact ⟨rfl, by simp⟩
    | 1, _ => exact ⟨rfl, by simp⟩
    | n + 2, h => exact absurd h (by simp), by decide⟩
  have hch : chooseR 3 1 3 11 [⟨3, 2, 5, 5, 0, 4⟩, ⟨3, 3, 5, 9, 0, 4⟩] = (9, 0) := by
    unfold chooseR
    rw [if_pos ⟨hrdy, by decide +kernel, by decide, by decide⟩, if_neg (by decide), if_pos (by decide +kernel)]
    decide
  have ht1 : accX eU 9 5 = 0 ∧ ackB (accE eU 9 5) (ackA (ownR 2 eU 5 at5) 5) = true := ⟨by decide, by decide⟩
  have hT : ackR (accE eU 9 5) (ackA (ownR 2 eU 5 at5) 5) = eT := rfl
  have htk : tkB (ownR 2 eU 5 at5) eU 9 5 = true := (if_pos ht1).trans (by
    unfold bmpB
    rw [hT]
    exact @decide_eq_true _ (_) p1)
  have htr : tkR (ownR 2 eU 5 at5) eU 9 5 = ownR 2 eT 9 at5 := (if_pos ht1).trans (by
    unfold bmpR
    rw [hT, if_pos (show rputX (ownR 2 eU 5 at5) eT = 0 from p1), show putE (ownR 2 eU 5 at5).entries eT = [eT] from p2]
    rfl)
  unfold onRsd
  rw [if_pos ⟨rfl, hears_of hr (by decide) (by decide), by decide, by decide, by decide⟩]
  dsimp only
  rw [hf, hk, if_pos ⟨by decide, by decide, by decide, by decide, q1⟩, hput, show ofL eU.acks 3 m7.bal = [⟨3, 2, 5, 5, 0, 4⟩, ⟨3, 3, 5, 9, 0, 4⟩] from rfl, show (ownR 2 eS 5 at5).n = 3 from rfl, show (ownR 2 eS 5 at5).f = 1 from rfl, show eU.quorum = 3 from rfl, show eU.id = 11 from rfl, if_pos hrdy, hch, show m7.bal = 5 from rfl, if_pos ⟨rfl, htk⟩, htr]
  unfold allO
  rw [if_pos hr2]
  rfl
theorem g4 : onRsd (ownR 2 eT 9 at5) m7 = (ownR 2 eT 9 at5, []) := by
  have hr2 : repB (ownR 2 eT 9 at5) = true := ownRep (by omega) aT (by decide) (by omega)
  unfold onRsd
  rw [if_pos ⟨rfl, hears_of hr2 (by decide) (by decide), by decide, by decide, by decide⟩]
  dsimp only
  rw [if_neg]
  rintro ⟨_, _, h, _⟩
  exact h rfl
theorem g5 : onRsc (ownR 3 (eP 9 5) 9 at9) m6 = (ownR 3 (eP 9 5) 9 at9, []) := by
  have hr : repB (ownR 3 (eP 9 5) 9 at9) = true := ownRep (by omega) aP9 (by decide) (by omega)
  obtain ⟨l1, l2, l3⟩ := lrn_old (r := ownR 3 (eP 9 5) 9 at9) (id := m6.id) (q := m6.quorum) (p := m6.payload) (e := eP 9 5) hr rfl rfl rfl
  unfold onRsc
  rw [if_pos ⟨rfl, hears_of hr (by decide) (by decide), by decide, by decide, l1⟩]
  dsimp only
  rw [l2, l3, if_neg (by decide), if_neg (by decide), if_pos (show m6.bal = (eP 9 5).bal from rfl)]
theorem g6 (r : Rpl) (b : Int) : p28B r Ent.zero b = false ∧ p28R r Ent.zero b = r ∧ p28E r Ent.zero b = Ent.zero := p28_no fun h => by
  have : entB Ent.zero = false := by decide
  rw [this] at h
  exact absurd h.2.1 (by simp)
end Go.Proofs.YtbjepdfnmbdplaaGreat
end
section
namespace Go.Proofs.YtbjepdfnmbdplaaGreat
open Go.RowKit
set_option linter.unusedSimpArgs false
set_option linter.unusedVariables false
set_option maxRecDepth 100000
set_option maxHeartbeats 4000000
instance awake28_spec : HasSpec Tryz.prog 33 [] (.v (.bool true)) := by
  have w2 := with28_spec 2 4 (by omega)
  have w3 := with28_spec 3 8 (by omega)
  have j1 : HasSpec Tryz.prog 34 [.agg (oneR 2 eN 4).cs, PV.int 11] (.tup [.agg [PV.int 3, PV.int 1, PV.int 2, PV.int 5, PV.int 0, PV.int 0, PV.int 0, .sl 10 [[PV.int 11, PV.int 4, PV.int 3, PV.int 5, PV.int 5, PV.int 0, PV.int 0, PV.int 0, .v (.string hiP), .sl 6 [[PV.int 3, PV.int 2, PV.int 5, PV.int 5, PV.int 0, PV.int 4]]]], .sl 2 [[PV.int 5, PV.int 11]], PV.knos [kno0, kno0, kno0], PV.tab tab3, PV.ints [0, 0, 0], PV.dons [[], [], []], PV.int 0, PV.int 0, PV.int 0, .sl 4 [], .sl 3 []], .sl 15 [[PV.int 1, PV.int 6, PV.int 2, PV.int 11, PV.int 0, PV.int 5, PV.int 0, PV.int 0, PV.int 3, .v (.string hiP), PV.int 0, PV.int 0, .sl 2 [], .sl 1 [], PV.int 0], [PV.int 3, PV.int 6, PV.int 2, PV.int 11, PV.int 0, PV.int 5, PV.int 0, PV.int 0, PV.int 3, .v (.string hiP), PV.int 0, PV.int 0, .sl 2 [], .sl 1 [], PV.int 0]]]) := by
    have := start28_spec (oneR 2 eN 4) 11
    rw [g1] at this
    exact this
  have j2 : HasSpec Tryz.prog 36 [.agg (oneR 3 eN 8).cs, .agg [PV.int 6, PV.int 2, PV.int 11, PV.int 0, PV.int 5, PV.int 0, PV.int 0, PV.int 3, .v (.string hiP), PV.int 0, PV.int 0, .sl 2 [], .sl 1 [], PV.int 0]] (.tup [.agg [PV.int 3, PV.int 1, PV.int 3, PV.int 9, PV.int 0, PV.int 0, PV.int 0, .sl 10 [[PV.int 11, PV.int 4, PV.int 3, PV.int 9, PV.int 5, PV.int 0, PV.int 0, PV.int 0, .v (.string hiP), .sl 6 []]], .sl 2 [[PV.int 9, PV.int 11]], PV.knos [kno0, kno0, kno0], PV.tab tab3, PV.ints [0, 0, 0], PV.dons [[], [], []], PV.int 0, PV.int 0, PV.int 0, .sl 4 [], .sl 3 []], .sl 15 [[PV.int 2, PV.int 7, PV.int 3, PV.int 11, PV.int 9, PV.int 5, PV.int 0, PV.int 4, PV.int 0, .v (.string noByte), PV.int 0, PV.int 0, .sl 2 [], .sl 1 [], PV.int 0]]]) := by
    have := rescue28_spec (oneR 3 eN 8) m6
    rw [g2] at this
    exact this
  have j3 : HasSpec Tryz.prog 38 [.agg [PV.int 3, PV.int 1, PV.int 2, PV.int 5, PV.int 0, PV.int 0, PV.int 0, .sl 10 [[PV.int 11, PV.int 4, PV.int 3, PV.int 5, PV.int 5, PV.int 0, PV.int 0, PV.int 0, .v (.string hiP), .sl 6 [[PV.int 3, PV.int 2, PV.int 5, PV.int 5, PV.int 0, PV.int 4]]]], .sl 2 [[PV.int 5, PV.int 11]], PV.knos [kno0, kno0, kno0], PV.tab tab3, PV.ints [0, 0, 0], PV.dons [[], [], []], PV.int 0, PV.int 0, PV.int 0, .sl 4 [], .sl 3 []], .agg [PV.int 7, PV.int 3, PV.int 11, PV.int 9, PV.int 5, PV.int 0, PV.int 4, PV.int 0, .v (.string noByte), PV.int 0, PV.int 0, .sl 2 [], .sl 1 [], PV.int 0]] (.tup [.agg [PV.int 3, PV.int 1, PV.int 2, PV.int 9, PV.int 0, PV.int 0, PV.int 0, .sl 10 [[PV.int 11, PV.int 4, PV.int 3, PV.int 9, PV.int 5, PV.int 5, PV.int 0, PV.int 0, .v (.string hiP), .sl 6 [[PV.int 2, PV.int 2, PV.int 5, PV.int 0, PV.int 0, PV.int 0]]]], .sl 2 [[PV.int 5, PV.int 11]], PV.knos [kno0, kno0, kno0], PV.tab tab3, PV.ints [0, 0, 0], PV.dons [[], [], []], PV.int 0, PV.int 0, PV.int 0, .sl 4 [], .sl 3 []], .sl 15 [[PV.int 1, PV.int 3, PV.int 2, PV.int 11, PV.int 9, PV.int 5, PV.int 0, PV.int 0, PV.int 3, .v (.string hiP), PV.int 0, PV.int 0, .sl 2 [], .sl 1 [], PV.int 0], [PV.int 3, PV.int 3, PV.int 2, PV.int 11, PV.int 9, PV.int 5, PV.int 0, PV.int 0, PV.int 3, .v (.string hiP), PV.int 0, PV.int 0, .sl 2 [], .sl 1 [], PV.int 0]]]) := by
    have := rescued28_spec (ownR 2 eS 5 at5) m7
    rw [g3] at this
    exact this
  have j4 : HasSpec Tryz.prog 38 [.agg [PV.int 3, PV.int 1, PV.int 2, PV.int 9, PV.int 0, PV.int 0, PV.int 0, .sl 10 [[PV.int 11, PV.int 4, PV.int 3, PV.int 9, PV.int 5, PV.int 5, PV.int 0, PV.int 0, .v (.string hiP), .sl 6 [[PV.int 2, PV.int 2, PV.int 5, PV.int 0, PV.int 0, PV.int 0]]]], .sl 2 [[PV.int 5, PV.int 11]], PV.knos [kno0, kno0, kno0], PV.tab tab3, PV.ints [0, 0, 0], PV.dons [[], [], []], PV.int 0, PV.int 0, PV.int 0, .sl 4 [], .sl 3 []], .agg [PV.int 7, PV.int 3, PV.int 11, PV.int 9, PV.int 5, PV.int 0, PV.int 4, PV.int 0, .v (.string noByte), PV.int 0, PV.int 0, .sl 2 [], .sl 1 [], PV.int 0]] (.tup [.agg [PV.int 3, PV.int 1, PV.int 2, PV.int 9, PV.int 0, PV.int 0, PV.int 0, .sl 10 [[PV.int 11, PV.int 4, PV.int 3, PV.int 9, PV.int 5, PV.int 5, PV.int 0, PV.int 0, .v (.string hiP), .sl 6 [[PV.int 2, PV.int 2, PV.int 5, PV.int 0, PV.int 0, PV.int 0]]]], .sl 2 [[PV.int 5, PV.int 11]], PV.knos [kno0, kno0, kno0], PV.tab tab3, PV.ints [0, 0, 0], PV.dons [[], [], []], PV.int 0, PV.int 0, PV.int 0, .sl 4 [], .sl 3 []], .sl 15 []]) := by
    have := rescued28_spec (ownR 2 eT 9 at5) m7
    rw [g4] at this
    exact this
  have j5 : HasSpec Tryz.prog 36 [.agg [PV.int 3, PV.int 1, PV.int 3, PV.int 9, PV.int 0, PV.int 0, PV.int 0, .sl 10 [[PV.int 11, PV.int 4, PV.int 3, PV.int 9, PV.int 5, PV.int 0, PV.int 0, PV.int 0, .v (.string hiP), .sl 6 []]], .sl 2 [[PV.int 9, PV.int 11]], PV.knos [kno0, kno0, kno0], PV.tab tab3, PV.ints [0, 0, 0], PV.dons [[], [], []], PV.int 0, PV.int 0, PV.int 0, .sl 4 [], .sl 3 []], .agg [PV.int 6, PV.int 2, PV.int 11, PV.int 0, PV.int 5, PV.int 0, PV.int 0, PV.int 3, .v (.string hiP), PV.int 0, PV.int 0, .sl 2 [], .sl 1 [], PV.int 0]] (.tup [.agg [PV.int 3, PV.int 1, PV.int 3, PV.int 9, PV.int 0, PV.int 0, PV.int 0, .sl 10 [[PV.int 11, PV.int 4, PV.int 3, PV.int 9, PV.int 5, PV.int 0, PV.int 0, PV.int 0, .v (.string hiP), .sl 6 []]], .sl 2 [[PV.int 9, PV.int 11]], PV.knos [kno0, kno0, kno0], PV.tab tab3, PV.ints [0, 0, 0], PV.dons [[], [], []], PV.int 0, PV.int 0, PV.int 0, .sl 4 [], .sl 3 []], .sl 15 []]) := by
    have := rescue28_spec (ownR 3 (eP 9 5) 9 at9) m6
    rw [g5] at this
    exact this
  have j6 : HasSpec Tryz.prog 40 [.agg [PV.int 3, PV.int 1, PV.int 3, PV.int 9, PV.int 0, PV.int 0, PV.int 0, .sl 10 [[PV.int 11, PV.int 4, PV.int 3, PV.int 9, PV.int 5, PV.int 0, PV.int 0, PV.int 0, .v (.string hiP), .sl 6 []]], .sl 2 [[PV.int 9, PV.int 11]], PV.knos [kno0, kno0, kno0], PV.tab tab3, PV.ints [0, 0, 0], PV.dons [[], [], []], PV.int 0, PV.int 0, PV.int 0, .sl 4 [], .sl 3 []], .agg [PV.int 0, PV.int 0, PV.int 0, PV.int 0, PV.int 0, PV.int 0, PV.int 0, PV.int 0, .v (.string noByte), .v (.slice none 0 0)], PV.int 9] (.tup [.agg [PV.int 3, PV.int 1, PV.int 3, PV.int 9, PV.int 0, PV.int 0, PV.int 0, .sl 10 [[PV.int 11, PV.int 4, PV.int 3, PV.int 9, PV.int 5, PV.int 0, PV.int 0, PV.int 0, .v (.string hiP), .sl 6 []]], .sl 2 [[PV.int 9, PV.int 11]], PV.knos [kno0, kno0, kno0], PV.tab tab3, PV.ints [0, 0, 0], PV.dons [[], [], []], PV.int 0, PV.int 0, PV.int 0, .sl 4 [], .sl 3 []], .agg [PV.int 0, PV.int 0, PV.int 0, PV.int 0, PV.int 0, PV.int 0, PV.int 0, PV.int 0, .v (.string noByte), .sl 6 []], .v (.bool false)]) := by
    have := promise28_spec (ownR 3 (eP 9 5) 9 at9) Ent.zero 9
    rw [(g6 _ _).1, (g6 _ _).2.1, (g6 _ _).2.2] at this
    exact HasSpec.sub (.cons (.refl _) (.cons (.agg (.cons (.refl _) (.cons (.refl _) (.cons (.refl _) (.cons (.refl _) (.cons (.refl _) (.cons (.refl _) (.cons (.refl _) (.cons (.refl _) (.cons (.refl _) (.cons (.nil _) .nil))))))))))) (.cons (.refl _) .nil))) this
  have q0 : ([[PV.int 1, PV.int 6, PV.int 2, PV.int 11, PV.int 0, PV.int 5, PV.int 0, PV.int 0, PV.int 3, .v (.string hiP), PV.int 0, PV.int 0, .sl 2 [], .sl 1 [], PV.int 0], [PV.int 3, PV.int 6, PV.int 2, PV.int 11, PV.int 0, PV.int 5, PV.int 0, PV.int 0, PV.int 3, .v (.string hiP), PV.int 0, PV.int 0, .sl 2 [], .sl 1 [], PV.int 0]] : List (List PV)).length = 2 := rfl
  have q1 : ([[PV.int 2, PV.int 7, PV.int 3, PV.int 11, PV.int 9, PV.int 5, PV.int 0, PV.int 4, PV.int 0, .v (.string noByte), PV.int 0, PV.int 0, .sl 2 [], .sl 1 [], PV.int 0]] : List (List PV)).length = 1 := rfl
  have q2 : ([[PV.int 1, PV.int 3, PV.int 2, PV.int 11, PV.int 9, PV.int 5, PV.int 0, PV.int 0, PV.int 3, .v (.string hiP), PV.int 0, PV.int 0, .sl 2 [], .sl 1 [], PV.int 0], [PV.int 3, PV.int 3, PV.int 2, PV.int 11, PV.int 9, PV.int 5, PV.int 0, PV.int 0, PV.int 3, .v (.string hiP), PV.int 0, PV.int 0, .sl 2 [], .sl 1 [], PV.int 0]] : List (List PV)).length = 2 := rfl
  have q3 : ([] : List (List PV)).length = 0 := rfl
  refine ⟨?_⟩; refine Spec.ofR (h := fun F w0 => ?_)
  repeat' ((conv => whnf); first | refine Q.E ?_ | (refine Stk.both (fun hb => ?_) (fun hb => ?_) <;> (try simp only [lE] at hb))); all_goals (conv => whnf)
  refine Stk.by j2 (h := ?_)
  repeat' ((conv => whnf); first | refine Q.E ?_ | (refine Stk.both (fun hb => ?_) (fun hb => ?_) <;> (try simp only [lE] at hb))); all_goals (conv => whnf)
  refine Stk.by j3 (h := ?_)
  repeat' ((conv => whnf); first | refine Q.E ?_ | (refine Stk.both (fun hb => ?_) (fun hb => ?_) <;> (try simp only [lE] at hb))); all_goals (conv => whnf)
  refine Stk.by j4 (h := ?_)
  repeat' ((conv => whnf); first | refine Q.E ?_ | (refine Stk.both (fun hb => ?_) (fun hb => ?_) <;> (try simp only [lE] at hb))); all_goals (conv => whnf)
  refine Stk.by j5 (h := ?_)
  repeat' ((conv => whnf); first | refine Q.E ?_ | (refine Stk.both (fun hb => ?_) (fun hb => ?_) <;> (try simp only [lE] at hb))); all_goals (conv => whnf)
  refine Stk.by j6 (h := ?_)
  repeat' ((conv => whnf); first | refine Q.E ?_ | (refine Stk.both (fun hb => ?_) (fun hb => ?_) <;> (try simp only [lE] at hb))); all_goals (conv => whnf)
  (refine Q.r6 (h := ?_); repeat' (first | exact Q.r0 | refine Q.r1 ?_ ?_ | refine Q.r2 ?_ | exact Q.r7 | refine Q.r3 ?_ | refine Q.r4 ?_ | refine Q.r5 ?_))
  all_goals first | exact tst_true.2 rfl | skip
end Go.Proofs.YtbjepdfnmbdplaaGreat
end
section
namespace Go.Proofs.YtbjepdfnmbdplaaGreat
open Go.RowKit
set_option linter.unusedSimpArgs false
set_option linter.unusedVariables false
set_option maxRecDepth 100000
set_option maxHeartbeats 4000000
end Go.Proofs.YtbjepdfnmbdplaaGreat
end
section
namespace Go.Proofs.YtbjepdfnmbdplaaGreat
open Go.RowKit
set_option linter.unusedSimpArgs false
set_option linter.unusedVariables false
set_option maxRecDepth 100000
set_option maxHeartbeats 4000000
theorem send_iff {r : Rpl} {o : Out} : sendB r o = true ↔ (1 ≤ o.dest ∧ o.dest ≤ r.n ∧ o.dest ≠ r.self ∧ o.m.fr = r.self) ∧ msgB o.m = true := by
  unfold sendB
  rw [Bool.and_eq_true, decide_eq_true_iff]
theorem told_yes (r : Rpl) (l : List Out) (h : ∀ o ∈ l, sendB r o = true) : HasSpec Tryz.prog 28 [.agg r.cs, PV.outs l] (.v (.bool true)) := by
  refine ⟨Spec.bound 1 rfl fun hl => ?_⟩; rw [List.length_map] at hl; refine Spec.ofR (h := fun F w0 => ?_)
  repeat' ((conv => whnf); first | refine Q.E ?_ | (refine Stk.both (fun hb => ?_) (fun hb => ?_) <;> (try simp only [lE] at hb))); all_goals (conv => whnf)
  refine Stk.loop (ι := Nat) (fun i => [(1, PV.outs l), (2, .lp 2 0), (5, PV.int (i : Nat))]) (fun _ => [(2, .box r.cs)]) (fun i => i ≤ l.length) (fun i => l.length - i) 0 (Nat.zero_le _) (Weak.gc ⟨rfl, rfl, rfl, trivial⟩ ⟨rfl, trivial⟩ rfl rfl rfl) (fun i hi => ?_)
  by_cases hlt : i < l.length
  · obtain ⟨⟨h1, h2, h3, h4⟩, h5⟩ := send_iff.1 (h l[i] (List.getElem_mem hlt))
    have j1 := mck_yes h5
    repeat' ((conv => whnf); first | refine Q.E ?_ | (refine Stk.both (fun hb => ?_) (fun hb => ?_) <;> (try simp only [lE] at hb))); all_goals (conv => whnf)
    refine Stk.by j1 (h := ?_)
    repeat' ((conv => whnf); first | refine Q.E ?_ | (refine Stk.both (fun hb => ?_) (fun hb => ?_) <;> (try simp only [lE] at hb))); all_goals (conv => whnf)
    refine Stk.opDG rfl rfl rfl (by simp [tst_eq, h1, h2, h3, h4]; try omega) (ok_nilNe rfl rfl) rfl ?_
    repeat' ((conv => whnf); first | refine Q.E ?_ | (refine Stk.both (fun hb => ?_) (fun hb => ?_) <;> (try simp only [lE] at hb))); all_goals (conv => whnf)
    exact ⟨i + 1, by omega, by omega, Weak.gc ⟨rfl, rfl, rfl, trivial⟩ ⟨rfl, trivial⟩ rfl rfl rfl⟩
  · repeat' ((conv => whnf); first | refine Q.E ?_ | (refine Stk.both (fun hb => ?_) (fun hb => ?_) <;> (try simp only [lE] at hb))); all_goals (conv => whnf)
    (refine Q.r6 (h := ?_); repeat' (first | exact Q.r0 | refine Q.r1 ?_ ?_ | refine Q.r2 ?_ | exact Q.r7 | refine Q.r3 ?_ | refine Q.r4 ?_ | refine Q.r5 ?_))
end Go.Proofs.YtbjepdfnmbdplaaGreat
end
section
namespace Go.Proofs.YtbjepdfnmbdplaaGreat
open Go.RowKit
set_option linter.unusedSimpArgs false
set_option linter.unusedVariables false
set_option maxRecDepth 100000
set_option maxHeartbeats 4000000
end Go.Proofs.YtbjepdfnmbdplaaGreat
end
section
namespace Go.Proofs.YtbjepdfnmbdplaaGreat
open Go.RowKit
set_option linter.unusedSimpArgs false
set_option linter.unusedVariables false
set_option maxRecDepth 100000
set_option maxHeartbeats 4000000
theorem few28_no (r : Rpl) (m : Msg) (id : Int) (h : fewR r = false ∨ (fewR r = true ∧ fewM m = false)) : HasSpec Tryz.prog 8 [.agg r.cs, .agg m.cs, PV.int id] (.v (.bool true)) := by
  have k1 := fewrep_spec r
  have k2 := fewmsg_spec m
  rcases h with h | ⟨h, h2⟩
  · rw [h] at k1
    refine ⟨?_⟩; refine Spec.ofR (h := fun F w0 => ?_)
    repeat' ((conv => whnf); first | refine Q.E ?_ | (refine Stk.both (fun hb => ?_) (fun hb => ?_) <;> (try simp only [lE] at hb))); all_goals (conv => whnf)
    (refine Q.r6 (h := ?_); repeat' (first | exact Q.r0 | refine Q.r1 ?_ ?_ | refine Q.r2 ?_ | exact Q.r7 | refine Q.r3 ?_ | refine Q.r4 ?_ | refine Q.r5 ?_))
  · rw [h] at k1
    rw [h2] at k2
    refine ⟨?_⟩; refine Spec.ofR (h := fun F w0 => ?_)
    repeat' ((conv => whnf); first | refine Q.E ?_ | (refine Stk.both (fun hb => ?_) (fun hb => ?_) <;> (try simp only [lE] at hb))); all_goals (conv => whnf)
    (refine Q.r6 (h := ?_); repeat' (first | exact Q.r0 | refine Q.r1 ?_ ?_ | refine Q.r2 ?_ | exact Q.r7 | refine Q.r3 ?_ | refine Q.r4 ?_ | refine Q.r5 ?_))
instance regainkeeps_spec (r : Rpl) (m : Msg) (id : Int) : HasSpec Tryz.prog 8 [.agg r.cs, .agg m.cs, PV.int id] (.v (.bool true)) := by
  have k1 := fewrep_spec r
  have k2 := fewmsg_spec m
  have k3 := statecheck_spec r
  cases h1 : fewR r with
  | false => exact few28_no r m id (.inl h1)
  | true =>
    rw [h1] at k1
    cases h2 : fewM m with
    | false => exact few28_no r m id (.inr ⟨h1, h2⟩)
    | true =>
      rw [h2] at k2
      cases hr : repB r with
      | false =>
        rw [hr] at k3
        have k3 : HasSpec Tryz.prog 26 [.agg r.cs] (PV.int 2) := k3
        refine ⟨?_⟩; refine Spec.ofR (h := fun F w0 => ?_)
        repeat' ((conv => whnf); first | refine Q.E ?_ | (refine Stk.both (fun hb => ?_) (fun hb => ?_) <;> (try simp only [lE] at hb))); all_goals (conv => whnf)
        (refine Q.r6 (h := ?_); repeat' (first | exact Q.r0 | refine Q.r1 ?_ ?_ | refine Q.r2 ?_ | exact Q.r7 | refine Q.r3 ?_ | refine Q.r4 ?_ | refine Q.r5 ?_))
      | true =>
        rw [hr] at k3
        have k3 : HasSpec Tryz.prog 26 [.agg r.cs] (PV.int 0) := k3
        obtain ⟨sa, ha⟩ := onSta_keeps r id
        obtain ⟨sb, hb⟩ := onRsc_keeps r m
        obtain ⟨sc, hc⟩ := onRsd_keeps r m
        have a1 := start28_spec r id
        have a2 := rescue28_spec r m
        have a3 := rescued28_spec r m
        have t1 := told_yes r (onSta r id).2 ha
        have t2 := told_yes r (onRsc r m).2 hb
        have t3 := told_yes r (onRsd r m).2 hc
        have c1 := stk_yes (sa.rep hr)
        have c2 := stk_yes (sb.rep hr)
        have c3 := stk_yes (sc.rep hr)
        have e1 := sa.self
        have e2 := sa.seq
        have e3 := sa.clock
        have f1 := sb.self
        have f2 := sb.seq
        have f3 := sb.clock
        have g1 := sc.self
        have g2 := sc.seq
        have g3 := sc.clock
        clear sa sb sc ha hb hc
        generalize (onSta r id).1 = s1 at *
        generalize (onSta r id).2 = o1 at *
        generalize (onRsc r m).1 = s2 at *
        generalize (onRsc r m).2 = o2 at *
        generalize (onRsd r m).1 = s3 at *
        generalize (onRsd r m).2 = o3 at *
        refine ⟨?_⟩; refine Spec.ofR (h := fun F w0 => ?_)
        repeat' ((conv => whnf); first | refine Q.E ?_ | (refine Stk.both (fun hb => ?_) (fun hb => ?_) <;> (try simp only [lE] at hb))); all_goals (conv => whnf)
        refine Stk.unroll 4 ?_
        repeat' ((conv => whnf); first | refine Q.E ?_ | (refine Stk.both (fun hb => ?_) (fun hb => ?_) <;> (try simp only [lE] at hb))); all_goals (conv => whnf)
        refine Stk.by c1 (h := ?_)
        repeat' ((conv => whnf); first | refine Q.E ?_ | (refine Stk.both (fun hb => ?_) (fun hb => ?_) <;> (try simp only [lE] at hb))); all_goals (conv => whnf)
        refine Stk.by c2 (h := ?_)
        repeat' ((conv => whnf); first | refine Q.E ?_ | (refine Stk.both (fun hb => ?_) (fun hb => ?_) <;> (try simp only [lE] at hb))); all_goals (conv => whnf)
        refine Stk.by c3 (h := ?_)
        repeat' ((conv => whnf); first | refine Q.E ?_ | (refine Stk.both (fun hb => ?_) (fun hb => ?_) <;> (try simp only [lE] at hb))); all_goals (conv => whnf)
        (refine Q.r6 (h := ?_); repeat' (first | exact Q.r0 | refine Q.r1 ?_ ?_ | refine Q.r2 ?_ | exact Q.r7 | refine Q.r3 ?_ | refine Q.r4 ?_ | refine Q.r5 ?_))
end Go.Proofs.YtbjepdfnmbdplaaGreat
end
section
namespace Go.Proofs.YtbjepdfnmbdplaaGreat
set_option linter.unusedSectionVars false
open Go.RowKit
set_option linter.unusedSimpArgs false
set_option linter.unusedVariables false
theorem reads_ack {w : World} : Reads Tryz.prog w 86 (fun _ : Ack => True) Ack.cs :=
  Reads.map (reads_struct Tryz.underlying86 (by kernel_rfl) (by kernel_rfl) (readsL_cons (reads_int Tryz.underlying3) (readsL_cons (reads_int Tryz.underlying3) (readsL_cons (reads_int Tryz.underlying3) (readsL_cons (reads_int Tryz.underlying3) (readsL_cons (reads_int Tryz.underlying3) (readsL_cons (reads_int Tryz.underlying3) readsL_nil))))))) (fun x => Ack.mk x.1 x.2.1 x.2.2.1 x.2.2.2.1 x.2.2.2.2.1 x.2.2.2.2.2.1) (fun _ => rfl) (fun _ _ => trivial)
theorem reads_acks {w : World} : Reads Tryz.prog w 38 (fun l : List Ack => ∀ x ∈ l, True) (fun l => [.sl 6 (l.map Ack.cs)]) :=
  reads_slice (f := Ack.cs) Tryz.underlying38 (by kernel_rfl) (fun _ => rfl) reads_ack
theorem reads_ent {w : World} : Reads Tryz.prog w 40 (fun _ : Ent => True) Ent.cs :=
  Reads.map (reads_struct Tryz.underlying40 (by kernel_rfl) (by kernel_rfl) (readsL_cons (reads_int Tryz.underlying3) (readsL_cons (reads_int Tryz.underlying3) (readsL_cons (reads_int Tryz.underlying3) (readsL_cons (reads_int Tryz.underlying3) (readsL_cons (reads_int Tryz.underlying3) (readsL_cons (reads_int Tryz.underlying3) (readsL_cons (reads_int Tryz.underlying3) (readsL_cons (reads_int Tryz.underlying3) (readsL_cons (reads_string Tryz.underlying9) (readsL_cons reads_acks readsL_nil))))))))))) (fun x => Ent.mk x.1 x.2.1 x.2.2.1 x.2.2.2.1 x.2.2.2.2.1 x.2.2.2.2.2.1 x.2.2.2.2.2.2.1 x.2.2.2.2.2.2.2.1 x.2.2.2.2.2.2.2.2.1 x.2.2.2.2.2.2.2.2.2.1) (fun _ => rfl) (fun _ _ => trivial)
end Go.Proofs.YtbjepdfnmbdplaaGreat
end
section
namespace Go.Proofs.YtbjepdfnmbdplaaGreat
open Go.RowKit
set_option linter.unusedSimpArgs false
set_option linter.unusedVariables false
set_option linter.unusedSectionVars false
theorem reads_ints {w : World} : Reads Tryz.prog w 26 (fun l : List Int => ∀ x ∈ l, okI x) (fun l => [PV.ints l]) :=
  reads_slice (f := ics) Tryz.underlying26 (by kernel_rfl) (fun _ => rfl) (reads_int Tryz.underlying3)
theorem reads_tab {w : World} : Reads Tryz.prog w 25 (fun l : List (List Int) => ∀ x ∈ l, ∀ y ∈ x, okI y) (fun l => [PV.tab l]) :=
  reads_slice (f := rcs) Tryz.underlying25 (by kernel_rfl) (fun _ => rfl) reads_ints
theorem reads_att {w : World} : Reads Tryz.prog w 29 (fun _ : Att => True) Att.cs :=
  Reads.map (reads_struct Tryz.underlying29 (by kernel_rfl) (by kernel_rfl) (readsL_cons (reads_int Tryz.underlying3) (readsL_cons (reads_int Tryz.underlying3) readsL_nil))) (fun x => Att.mk x.1 x.2.1) (fun _ => rfl) (fun _ _ => trivial)
theorem reads_atts {w : World} : Reads Tryz.prog w 23 (fun l : List Att => ∀ x ∈ l, True) (fun l => [.sl 2 (l.map Att.cs)]) :=
  reads_slice (sz := 2) (f := Att.cs) Tryz.underlying23 (by kernel_rfl) (fun _ => rfl) reads_att
theorem reads_rng {w : World} : Reads Tryz.prog w 195 (fun _ : Rng => True) Rng.cs :=
  Reads.map (reads_struct Tryz.underlying195 (by kernel_rfl) (by kernel_rfl) (readsL_cons (reads_int Tryz.underlying3) (readsL_cons (reads_int Tryz.underlying3) readsL_nil))) (fun x => Rng.mk x.1 x.2.1) (fun _ => rfl) (fun _ _ => trivial)
theorem reads_rngs {w : World} : Reads Tryz.prog w 79 (fun l : List Rng => ∀ x ∈ l, True) (fun l => [.sl 2 (l.map Rng.cs)]) :=
  reads_slice (sz := 2) (f := Rng.cs) Tryz.underlying79 (by kernel_rfl) (fun _ => rfl) reads_rng
theorem reads_kno {w : World} : Reads Tryz.prog w 81 (fun _ : Kno => True) Kno.cs :=
  Reads.map (reads_struct Tryz.underlying81 (by kernel_rfl) (by kernel_rfl) (readsL_cons (reads_int Tryz.underlying3) (readsL_cons reads_rngs (readsL_cons reads_atts readsL_nil)))) (fun x => Kno.mk x.1 x.2.1 x.2.2.1) (fun _ => rfl) (fun _ _ => trivial)
theorem reads_knos {w : World} : Reads Tryz.prog w 24 (fun l : List Kno => ∀ x ∈ l, True) (fun l => [.sl 3 (l.map Kno.cs)]) :=
  reads_slice (sz := 3) (f := Kno.cs) Tryz.underlying24 (by kernel_rfl) (fun _ => rfl) reads_kno
theorem reads_dons {w : World} : Reads Tryz.prog w 27 (fun l : List (List Rng) => ∀ x ∈ l, ∀ y ∈ x, True) (fun l => [.sl 1 (l.map dcs)]) :=
  reads_slice (sz := 1) (f := dcs) Tryz.underlying27 (by kernel_rfl) (fun _ => rfl) reads_rngs
theorem reads_ents {w : World} : Reads Tryz.prog w 22 (fun l : List Ent => ∀ x ∈ l, True) (fun l => [.sl 10 (l.map Ent.cs)]) :=
  reads_slice (sz := 10) (f := Ent.cs) Tryz.underlying22 (by kernel_rfl) (fun _ => rfl) reads_ent
theorem reads_itm {w : World} : Reads Tryz.prog w 286 (fun _ : Itm => True) Itm.cs :=
  Reads.map (reads_struct Tryz.underlying286 (by kernel_rfl) (by kernel_rfl) (readsL_cons (reads_int Tryz.underlying3) (readsL_cons (reads_int Tryz.underlying3) (readsL_cons (reads_int Tryz.underlying3) (readsL_cons (reads_int Tryz.underlying3) readsL_nil))))) (fun x => Itm.mk x.1 x.2.1 x.2.2.1 x.2.2.2.1) (fun _ => rfl) (fun _ _ => trivial)
theorem reads_itms {w : World} : Reads Tryz.prog w 30 (fun l : List Itm => ∀ x ∈ l, True) (fun l => [.sl 4 (l.map Itm.cs)]) :=
  reads_slice (sz := 4) (f := Itm.cs) Tryz.underlying30 (by kernel_rfl) (fun _ => rfl) reads_itm
theorem reads_ses {w : World} : Reads Tryz.prog w 288 (fun _ : Ses => True) Ses.cs :=
  Reads.map (reads_struct Tryz.underlying288 (by kernel_rfl) (by kernel_rfl) (readsL_cons (reads_int Tryz.underlying3) (readsL_cons (reads_int Tryz.underlying3) (readsL_cons (reads_string Tryz.underlying9) readsL_nil)))) (fun x => Ses.mk x.1 x.2.1 x.2.2.1) (fun _ => rfl) (fun _ _ => trivial)
theorem reads_sess {w : World} : Reads Tryz.prog w 31 (fun l : List Ses => ∀ x ∈ l, True) (fun l => [.sl 3 (l.map Ses.cs)]) :=
  reads_slice (sz := 3) (f := Ses.cs) Tryz.underlying31 (by kernel_rfl) (fun _ => rfl) reads_ses
theorem reads_store {w : World} : Reads Tryz.prog w 33 (fun _ : List Itm × List Ses => True) (fun x => [.sl 4 (x.1.map Itm.cs), .sl 3 (x.2.map Ses.cs)]) :=
  Reads.map (reads_struct Tryz.underlying33 (by kernel_rfl) (by kernel_rfl) (readsL_cons reads_itms (readsL_cons reads_sess readsL_nil))) (fun x => (x.1, x.2.1)) (fun _ => rfl) (fun _ _ => trivial)
theorem reads_rpl {w : World} : Reads Tryz.prog w 35 (fun _ : Rpl => True) Rpl.cs :=
  Reads.map (reads_struct Tryz.underlying35 (by kernel_rfl) (by kernel_rfl) (readsL_cons (reads_int Tryz.underlying3) (readsL_cons (reads_int Tryz.underlying3) (readsL_cons (reads_int Tryz.underlying3) (readsL_cons (reads_int Tryz.underlying3) (readsL_cons (reads_int Tryz.underlying3) (readsL_cons (reads_int Tryz.underlying3) (readsL_cons (reads_int Tryz.underlying3) (readsL_cons reads_ents (readsL_cons reads_atts (readsL_cons reads_knos (readsL_cons reads_tab (readsL_cons reads_ints (readsL_cons reads_dons (readsL_cons reads_att (readsL_cons (reads_int Tryz.underlying3) (readsL_cons reads_store readsL_nil))))))))))))))))) (fun x => Rpl.mk x.1 x.2.1 x.2.2.1 x.2.2.2.1 x.2.2.2.2.1 x.2.2.2.2.2.1 x.2.2.2.2.2.2.1 x.2.2.2.2.2.2.2.1 x.2.2.2.2.2.2.2.2.1 x.2.2.2.2.2.2.2.2.2.1 x.2.2.2.2.2.2.2.2.2.2.1 x.2.2.2.2.2.2.2.2.2.2.2.1 x.2.2.2.2.2.2.2.2.2.2.2.2.1 x.2.2.2.2.2.2.2.2.2.2.2.2.2.1 x.2.2.2.2.2.2.2.2.2.2.2.2.2.2.1 x.2.2.2.2.2.2.2.2.2.2.2.2.2.2.2.1.1 x.2.2.2.2.2.2.2.2.2.2.2.2.2.2.2.1.2) (fun _ => rfl) (fun _ _ => trivial)
theorem reads_msg {w : World} : Reads Tryz.prog w 37 (fun _ : Msg => True) Msg.cs :=
  Reads.map (reads_struct Tryz.underlying37 (by kernel_rfl) (by kernel_rfl) (readsL_cons (reads_int Tryz.underlying3) (readsL_cons (reads_int Tryz.underlying3) (readsL_cons (reads_int Tryz.underlying3) (readsL_cons (reads_int Tryz.underlying3) (readsL_cons (reads_int Tryz.underlying3) (readsL_cons (reads_int Tryz.underlying3) (readsL_cons (reads_int Tryz.underlying3) (readsL_cons (reads_int Tryz.underlying3) (readsL_cons (reads_string Tryz.underlying9) (readsL_cons (reads_int Tryz.underlying3) (readsL_cons (reads_int Tryz.underlying3) (readsL_cons reads_atts (readsL_cons reads_ints (readsL_cons (reads_int Tryz.underlying3) readsL_nil))))))))))))))) (fun x => Msg.mk x.1 x.2.1 x.2.2.1 x.2.2.2.1 x.2.2.2.2.1 x.2.2.2.2.2.1 x.2.2.2.2.2.2.1 x.2.2.2.2.2.2.2.1 x.2.2.2.2.2.2.2.2.1 x.2.2.2.2.2.2.2.2.2.1 x.2.2.2.2.2.2.2.2.2.2.1 x.2.2.2.2.2.2.2.2.2.2.2.1 x.2.2.2.2.2.2.2.2.2.2.2.2.1 x.2.2.2.2.2.2.2.2.2.2.2.2.2.1) (fun _ => rfl) (fun _ _ => trivial)
theorem reads_msgs {w : World} : Reads Tryz.prog w 56 (fun l : List Msg => ∀ x ∈ l, True) (fun l => [.sl 14 (l.map Msg.cs)]) :=
  reads_slice (sz := 14) (f := Msg.cs) Tryz.underlying56 (by kernel_rfl) (fun _ => rfl) reads_msg
end Go.Proofs.YtbjepdfnmbdplaaGreat
end
