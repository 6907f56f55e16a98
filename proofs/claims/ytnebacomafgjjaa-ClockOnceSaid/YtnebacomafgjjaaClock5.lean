/- What the functions of the layer clock compute: Bump, Free, Of, Sweep. -/
import Derived.Test.YtnebacomafgjjaaClock4
import Derived.Test.YtnebacomafgjjaaLAttDelete
namespace Go.Proofs.Ytnebacomafgjjaa
open Go.RowKit

def bumpI (now t : Int) : Int := if 1000000 < t then now else if now < t then t else now
theorem bump_any (now t : Int) (w : World) : Calls Try.prog 28 #[.int .i64 now, .int .i64 t] w fun e w' => e = .returned (.int .i64 (bumpI now t)) ∧ w = w' := by
  by_cases h0 : 1000000 < t
  · have H := Lib.hid (show bumpI now t = now from by unfold bumpI; rw [if_pos h0])
    go_enter Try.func28, Try.ntmps28
    go_wp2
    go_ret
    exact ⟨by rw [H.out]; rfl, rfl⟩
  · by_cases h1 : now < t
    · have H := Lib.hid (show bumpI now t = t from by unfold bumpI; rw [if_neg h0, if_pos h1])
      go_enter Try.func28, Try.ntmps28
      go_wp2
      go_ret
      exact ⟨by rw [H.out]; rfl, rfl⟩
    · have H := Lib.hid (show bumpI now t = now from by unfold bumpI; rw [if_neg h0, if_neg h1])
      go_enter Try.func28, Try.ntmps28
      go_wp2
      go_ret
      exact ⟨by rw [H.out]; rfl, rfl⟩
def freeB (now floor : Int) (own : List Att) (t : Int) : Bool := decide (floor < t ∧ t ≤ now) && !(own.any fun a => decide (a.T = t))
theorem free1_any (T Id t : Int) (bx : Addr) (w : World) (hc : w.cell? bx = some (.int .i64 t)) :
    Calls Try.prog 62 #[.agg #[.int .i64 T, .int .i64 Id], .pointer (some bx)] w fun e w' => e = .returned (.bool (decide (T = t))) ∧ Below w.heap.size w w' := by
  have hca := fun o => cell_alloc hc o
  by_cases h : T = t
  · have H := Lib.hid (decide_eq_true h)
    have hb := beq_iff_eq.2 h
    clear h
    go_enter Try.func62, Try.ntmps62
    go_wp2
    go_ret
    exact ⟨by rw [H.out]; rfl, (Below.refl _ _).alloc (Nat.le_refl _) _⟩
  · have H := Lib.hid (decide_eq_false h)
    have hb := beq_eq_false_iff_ne.2 h
    clear h
    go_enter Try.func62, Try.ntmps62
    go_wp2
    go_ret
    exact ⟨by rw [H.out]; rfl, (Below.refl _ _).alloc (Nat.le_refl _) _⟩
theorem free_pred (t : Int) (w : World) : IsPred Try.prog (w.alloc (.cells #[.int .i64 t] 3)) (.func (.func 62) #[] #[.pointer (some ⟨w.heap.size, 0, none⟩)]) attV (fun a => decide (a.T = t)) := by
  refine ⟨62, #[], #[.pointer (some ⟨w.heap.size, 0, none⟩)], rfl, enters_of Try.func62 (by kernel_rfl) (by kernel_rfl), fun a w1 hb => ?_⟩
  exact free1_any a.T a.Id t _ w1 (cell_later hb (by rw [World.cell?_alloc_new]; rfl))
theorem sweep1_any (T Id t : Int) (bx : Addr) (w : World) (hc : w.cell? bx = some (.int .i64 t)) :
    Calls Try.prog 73 #[.agg #[.int .i64 T, .int .i64 Id], .pointer (some bx)] w fun e w' => e = .returned (.bool (decide (T ≤ t))) ∧ Below w.heap.size w w' := by
  have hca := fun o => cell_alloc hc o
  go_enter Try.func73, Try.ntmps73
  go_wp2
  go_ret
  exact ⟨rfl, (Below.refl _ _).alloc (Nat.le_refl _) _⟩
theorem sweep_pred (t : Int) (w : World) : IsPred Try.prog (w.alloc (.cells #[.int .i64 t] 3)) (.func (.func 73) #[] #[.pointer (some ⟨w.heap.size, 0, none⟩)]) attV (fun a => decide (a.T ≤ t)) := by
  refine ⟨73, #[], #[.pointer (some ⟨w.heap.size, 0, none⟩)], rfl, enters_of Try.func73 (by kernel_rfl) (by kernel_rfl), fun a w1 hb => ?_⟩
  exact sweep1_any a.T a.Id t _ w1 (cell_later hb (by rw [World.cell?_alloc_new]; rfl))
theorem free_any (now floor : Int) (A : Option Addr) (c : Nat) (own : List Att) (t : Int) (w : World) (hm : c ≤ maxLen) (hl : own.length ≤ c) (hx : Row w A (attE.flat own)) :
    Calls Try.prog 29 #[.int .i64 now, .int .i64 floor, .slice A own.length c, .int .i64 t] w fun e w' => e = .returned (.bool (freeB now floor own t)) ∧ Below w.heap.size w w' := by
  by_cases h0 : floor < t
  · by_cases h1 : t ≤ now
    · have H := Lib.hid (show freeB now floor own t = !(own.any fun a => decide (a.T = t)) from by unfold freeB; rw [decide_eq_true ⟨h0, h1⟩]; rfl)
      have hb1 := balloc (Below.refl w.heap.size w) (.cells #[.int .i64 t] 3)
      have HC := Lib.hid (containsfunc_att A c own _ hm hl (hx.later hb1) _ _ (free_pred t w))
      go_enter Try.func29, Try.ntmps29
      go_wp2_with fail
      refine (HC.out).mono ?_; rintro e w3 ⟨rfl, hb3⟩
      generalize own.any (fun a => decide (a.T = t)) = q at H
      go_wp2_with fail
      go_ret
      exact ⟨by rw [H.out]; rfl, bt hb1 hb3⟩
    · have H := Lib.hid (show freeB now floor own t = false from by unfold freeB; rw [decide_eq_false (fun h => h1 h.2)]; rfl)
      go_enter Try.func29, Try.ntmps29
      go_wp2
      go_ret
      exact ⟨by rw [H.out]; rfl, (Below.refl _ _).alloc (Nat.le_refl _) _⟩
  · have H := Lib.hid (show freeB now floor own t = false from by unfold freeB; rw [decide_eq_false (fun h => h0 h.1)]; rfl)
    go_enter Try.func29, Try.ntmps29
    go_wp2
    go_ret
    exact ⟨by rw [H.out]; rfl, (Below.refl _ _).alloc (Nat.le_refl _) _⟩
theorem sweep_any (A : Option Addr) (c : Nat) (own : List Att) (t : Int) (w : World) (hm : c ≤ maxLen) (hl : own.length ≤ c) (hbig : own.length ≤ 1000000) (hx : Row w A (attE.flat own)) :
    Calls Try.prog 55 #[.slice A own.length c, .int .i64 t] w (OwnSl attE 48 w (own.filter fun a => !decide (a.T ≤ t))) := by
  have hb1 := balloc (Below.refl w.heap.size w) (.cells #[.int .i64 t] 3)
  have HC := Lib.hid (clone_att A c own _ hm hl (hx.later hb1) (by omega))
  have HP := Lib.hid (sweep_pred t w)
  go_enter Try.func55, Try.ntmps55
  go_wp2_with fail
  refine (HC.out).mono ?_; rintro e w3 ⟨v3, rfl, hown, hb3⟩
  go_wp2_with fail
  refine (deletefunc_att v3 own (w.alloc (.cells #[.int .i64 t] 3)) w3 hb3 hown _ _ HP.out).mono ?_; rintro e w4 ⟨v4, rfl, hown4, hb4⟩
  go_wp2_with fail
  go_ret
  refine ⟨_, rfl, ?_, bt hb1 hb4⟩
  rcases hown4 with ⟨g1, g2⟩
  refine ⟨g1, ?_⟩
  rcases g2 with g2 | ⟨g, cap, cur, hv, hg, r⟩
  · exact .inl g2
  · exact .inr ⟨g, cap, cur, hv, by simp at hg; omega, r⟩
theorem ofT_idx (own : List Att) (id : Int) : (idxOf (fun a : Att => decide (a.Id = id)) own < 0 ∧ ofT own id = 0) ∨ ∃ k, ∃ h : k < own.length, idxOf (fun a : Att => decide (a.Id = id)) own = (k : Int) ∧ ofT own id = (own[k]).T := by
  unfold idxOf
  cases hf : own.findIdx? (fun a => decide (a.Id = id)) with
  | none =>
    rw [List.findIdx?_eq_none_iff] at hf
    exact .inl ⟨by show (-1 : Int) < 0; omega, ofT_none (fun q h => by simpa using hf _ (List.getElem_mem h))⟩
  | some k =>
    obtain ⟨h, hp, hb⟩ := List.findIdx?_eq_some_iff_getElem.1 hf
    exact .inr ⟨k, h, rfl, ofT_hit h (fun q hq hlt => by simpa using hb q hlt) (by simpa using hp)⟩
theorem clockof_any (A : Option Addr) (c : Nat) (own : List Att) (id : Int) (w : World) (hm : c ≤ maxLen) (hl : own.length ≤ c) (hx : Row w A (attE.flat own)) :
    Calls Try.prog 54 #[.slice A own.length c, .int .i64 id] w fun e w' => e = .returned (.int .i64 (ofT own id)) ∧ Below w.heap.size w w' := by
  have hb1 := balloc (Below.refl w.heap.size w) (.cells #[.int .i64 id] 3)
  have HC := Lib.hid (indexfunc_att A c own _ hm hl (hx.later hb1) _ _ (of_pred id w))
  unfold maxLen at hm
  rcases ofT_idx own id with ⟨h0, h1⟩ | ⟨k, hk, h0, h1⟩
  · rw [h1]
    generalize idxOf (fun a : Att => decide (a.Id = id)) own = z at HC h0
    clear h1
    go_enter Try.func54, Try.ntmps54
    go_wp2_with fail
    refine (of_any _ _).mono ?_; rintro e w2 ⟨rfl, rfl⟩
    go_wp2_with fail
    refine (HC.out).mono ?_; rintro e w3 ⟨rfl, hb3⟩
    go_wp2_with fail
    go_ret
    exact ⟨rfl, bt hb1 hb3⟩
  · rw [h1]
    rw [h0] at HC
    clear h0 h1
    go_enter Try.func54, Try.ntmps54
    go_wp2_with fail
    refine (of_any _ _).mono ?_; rintro e w2 ⟨rfl, rfl⟩
    go_wp2_with fail
    refine (HC.out).mono ?_; rintro e w3 ⟨rfl, hb3⟩
    obtain ⟨ad, rfl, hx0, hx1⟩ := att_at (hx.later (bt hb1 hb3)) hk
    have hk' : (k : Int) < (own.length : Int) := by omega
    go_wp2_with fail
    go_ret
    exact ⟨rfl, bt hb1 hb3⟩
end Go.Proofs.Ytnebacomafgjjaa
