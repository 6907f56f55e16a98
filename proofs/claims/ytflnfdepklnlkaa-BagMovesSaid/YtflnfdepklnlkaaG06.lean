/- Layer 14: the law BagCuts, walked. -/
import Derived.Test.YtflnfdepklnlkaaG05
namespace Go.Proofs.Ytflnfdepklnlkaa
set_option linter.unusedSectionVars false
open Go.RowKit
set_option linter.unusedSimpArgs false
set_option linter.unusedVariables false
set_option maxRecDepth 100000
set_option maxHeartbeats 1000000
theorem has_not {s r : Int} (hs : 0 ≤ s ∧ s ≤ 511) (hr : 1 ≤ r ∧ r ≤ 9) : hasB (511 - s) r = !hasB s r := by
  unfold hasB
  rw [mayB_iff.2 hs, mayB_iff.2 (show 0 ≤ 511 - s ∧ 511 - s ≤ 511 by omega), replB_iff.2 hr, Bool.true_and, Bool.true_and, Bool.true_and, Bool.true_and]
  unfold bitB
  have h9 : r = 1 ∨ r = 2 ∨ r = 3 ∨ r = 4 ∨ r = 5 ∨ r = 6 ∨ r = 7 ∨ r = 8 ∨ r = 9 := by omega
  rw [Bool.eq_iff_iff, Bool.not_eq_true', decide_eq_true_iff, decide_eq_false_iff_not]
  rcases h9 with rfl | rfl | rfl | rfl | rfl | rfl | rfl | rfl | rfl
  · show (511 - s) / 1 % 2 = 1 ↔ ¬ s / 1 % 2 = 1; omega
  · show (511 - s) / 2 % 2 = 1 ↔ ¬ s / 2 % 2 = 1; omega
  · show (511 - s) / 4 % 2 = 1 ↔ ¬ s / 4 % 2 = 1; omega
  · show (511 - s) / 8 % 2 = 1 ↔ ¬ s / 8 % 2 = 1; omega
  · show (511 - s) / 16 % 2 = 1 ↔ ¬ s / 16 % 2 = 1; omega
  · show (511 - s) / 32 % 2 = 1 ↔ ¬ s / 32 % 2 = 1; omega
  · show (511 - s) / 64 % 2 = 1 ↔ ¬ s / 64 % 2 = 1; omega
  · show (511 - s) / 128 % 2 = 1 ↔ ¬ s / 128 % 2 = 1; omega
  · show (511 - s) / 256 % 2 = 1 ↔ ¬ s / 256 % 2 = 1; omega
theorem open_not {s : Int} {f : Fli} (hs : 0 ≤ s ∧ s ≤ 511) (hf : fliB f = true) : openF (511 - s) f = openF s f := by
  have h := fliB_iff.1 hf
  unfold openF
  rw [has_not hs (by omega), has_not hs (by omega)]
  cases hasB s f.fr <;> cases hasB s f.ft <;> rfl
theorem open_zero {f : Fli} (hf : fliB f = true) : openF 0 f = true := by
  have h0 : ∀ r : Int, hasB 0 r = false := fun r => by
    unfold hasB bitB
    rw [show decide ((0 : Int) / 2 ^ (r - 1).toNat % 2 = 1) = false from decide_eq_false (by rw [Int.zero_ediv]; decide), Bool.and_false, Bool.and_false]
  unfold openF
  rw [h0, h0]
  rfl
def opL (cut : Int) (l : List Fli) : List Fli := l.filter (openF cut)
def shL (cut : Int) (l : List Fli) : List Fli := l.filter fun f => !openF cut f
theorem opL_snoc (cut : Int) (l : List Fli) (i : Nat) (h : i < l.length) : opL cut (l.take (i + 1)) = if openF cut l[i] = true then opL cut (l.take i) ++ [l[i]] else opL cut (l.take i) := by
  unfold opL
  rw [take_snocG l i h, List.filter_append, List.filter_cons, List.filter_nil]
  split <;> simp
theorem shL_snoc (cut : Int) (l : List Fli) (i : Nat) (h : i < l.length) : shL cut (l.take (i + 1)) = if openF cut l[i] = true then shL cut (l.take i) else shL cut (l.take i) ++ [l[i]] := by
  unfold shL
  rw [take_snocG l i h, List.filter_append, List.filter_cons, List.filter_nil]
  cases openF cut l[i] <;> simp
theorem opL_len (cut : Int) (l : List Fli) (i : Nat) : (opL cut (l.take i)).length ≤ i := Nat.le_trans (List.length_filter_le _ _) (by rw [List.length_take]; omega)
theorem shL_len (cut : Int) (l : List Fli) (i : Nat) : (shL cut (l.take i)).length ≤ i := Nat.le_trans (List.length_filter_le _ _) (by rw [List.length_take]; omega)
/-- What is left when j flights were taken. -/
def leftB (cut : Int) (O S : List Fli) (j : Nat) (z : List Fli) : Prop := bagE z = 0 ∧ opL cut z = O.drop j ∧ shL cut z = S
theorem left_step {cut : Int} {O S z : List Fli} {j : Nat} (h : leftB cut O S j z) (hj : j < O.length) : ∃ z', leftB cut O S (j + 1) z' ∧ nextB cut z = true ∧ takeE z (max (idxF (openF cut) z) 0) = 0 ∧ takeF z (max (idxF (openF cut) z) 0) = O[j] ∧ takeL z (max (idxF (openF cut) z) 0) = z' := by
  obtain ⟨hb, ho, hs⟩ := h
  rw [List.drop_eq_getElem_cons hj] at ho
  unfold opL at ho
  obtain ⟨a, b, rfl, ha, hx, hf⟩ := List.filter_eq_cons_iff.1 ho
  have hal : a.length < (a ++ O[j] :: b).length := by simp
  have hat : (a ++ O[j] :: b)[a.length]'hal = O[j] := by simp
  have hidx : idxF (openF cut) (a ++ O[j] :: b) = (a.length : Nat) := idxF_at hal (by rw [List.take_left' rfl]; exact fun y hy => by simpa using ha y hy) (by rw [hat]; exact hx)
  have hmx : max (idxF (openF cut) (a ++ O[j] :: b)) 0 = (a.length : Nat) := by rw [hidx]; omega
  obtain ⟨hall, hlen⟩ := bagE_ok hb
  have ht : takeE (a ++ O[j] :: b) (a.length : Nat) = 0 := (if_neg (by simp [hb])).trans (if_pos ⟨by omega, by omega⟩)
  rw [hmx]
  refine ⟨a ++ b, ⟨?_, ?_, ?_⟩, ?_, ht, ?_, ?_⟩
  · have h1 : (a ++ b).all fliB = true := by
      rw [List.all_append, List.all_cons] at hall
      rw [List.all_append]
      simp only [Bool.and_eq_true] at hall ⊢
      exact ⟨hall.1, hall.2.2⟩
    have h2 : (a ++ b).length ≤ 5000 := by rw [List.length_append] at hlen ⊢; rw [List.length_cons] at hlen; omega
    exact (if_pos h1).trans (if_pos h2)
  · unfold opL
    rw [List.filter_append, hf, List.filter_eq_nil_iff.2 ha]
    rfl
  · rw [← hs]
    unfold shL
    rw [List.filter_append, List.filter_append, List.filter_cons, if_neg (by rw [hx]; simp)]
  · unfold nextB
    rw [List.any_append, List.any_cons, hx, Bool.true_or, Bool.or_true]
  · exact (if_pos ht).trans (by rw [Int.toNat_natCast, List.getElem?_eq_getElem hal, hat]; rfl)
  · exact (if_pos ht).trans (by rw [Int.toNat_natCast, List.eraseIdx_append_of_length_le (Nat.le_refl _), Nat.sub_self]; rfl)
theorem left_end {cut : Int} {O S z : List Fli} (h : leftB cut O S O.length z) : nextB cut z = false ∧ z = S := by
  obtain ⟨hb, ho, hs⟩ := h
  rw [List.drop_length] at ho
  have h1 : ∀ x ∈ z, ¬ openF cut x = true := List.filter_eq_nil_iff.1 ho
  refine ⟨?_, ?_⟩
  · unfold nextB
    exact List.any_eq_false.2 h1
  · rw [← hs]
    exact (List.filter_eq_self.2 fun x hx => by have := h1 x hx; simpa using this).symm
theorem bagCuts_spec (l : List Fli) (cut : Int) : HasSpec Try.prog 5 [PV.bag l, PV.int cut] (.v (.bool true)) := by
  have jf := few14_spec l
  cases hf : fewFli l with
  | false =>
    rw [hf] at jf
    refine ⟨?_⟩; refine Spec.ofR (h := fun F w0 => ?_)
    repeat' ((conv => whnf); first | refine Q.a ?_ | refine Q.b ?_ | refine Q.c ?_ | refine Stk.is (by first | assumption | ((try simp only [lC]); first | done | assumption | omega)) ?_ | refine Stk.isnt (by first | assumption | ((try simp only [lC]); first | done | assumption | omega)) ?_ | (refine Stk.both (fun hb => ?_) (fun hb => ?_) <;> (try simp only [lC] at hb)) | refine Q.d ?_ | refine Q.e ?_ | refine Q.f ?_ | refine Q.g ?_ | refine Q.h ?_ | refine Q.i ?_ | refine Q.j ?_ | refine Q.k ?_ | refine Q.l ?_ | refine Q.m ?_ | refine Q.n ?_ | refine Q.o (h := ?_) | refine Q.p (h := ?_) | refine Q.q ?_ | refine Q.r ?_ | refine Q.s ?_ | refine Q.t ?_ | refine Q.u ?_ | refine Q.v ?_ | refine Q.w ?_ | refine Q.x ?_ | refine Q.y ?_ | refine Q.z ?_); all_goals (conv => whnf)
    ((refine FinK.of (h := ?_)); (repeat' (first | exact FinL.nil | refine FinL.cons ?_ ?_ | refine Fin'.tup ?_ | exact Q.f3 | exact Q.f4 | exact Q.f5 | exact Q.f6 | refine Fin'.vb ?_ | refine Fin'.vi ?_ | refine Fin'.agg ?_)))
  | true =>
    rw [hf] at jf
    have hl := fewFli_parts hf
    by_cases hc0 : cut < 0
    · refine ⟨?_⟩; refine Spec.ofR (h := fun F w0 => ?_)
      repeat' ((conv => whnf); first | refine Q.a ?_ | refine Q.b ?_ | refine Q.c ?_ | refine Stk.is (by first | assumption | ((try simp only [lC]); first | done | assumption | omega)) ?_ | refine Stk.isnt (by first | assumption | ((try simp only [lC]); first | done | assumption | omega)) ?_ | (refine Stk.both (fun hb => ?_) (fun hb => ?_) <;> (try simp only [lC] at hb)) | refine Q.d ?_ | refine Q.e ?_ | refine Q.f ?_ | refine Q.g ?_ | refine Q.h ?_ | refine Q.i ?_ | refine Q.j ?_ | refine Q.k ?_ | refine Q.l ?_ | refine Q.m ?_ | refine Q.n ?_ | refine Q.o (h := ?_) | refine Q.p (h := ?_) | refine Q.q ?_ | refine Q.r ?_ | refine Q.s ?_ | refine Q.t ?_ | refine Q.u ?_ | refine Q.v ?_ | refine Q.w ?_ | refine Q.x ?_ | refine Q.y ?_ | refine Q.z ?_); all_goals (conv => whnf)
      ((refine FinK.of (h := ?_)); (repeat' (first | exact FinL.nil | refine FinL.cons ?_ ?_ | refine Fin'.tup ?_ | exact Q.f3 | exact Q.f4 | exact Q.f5 | exact Q.f6 | refine Fin'.vb ?_ | refine Fin'.vi ?_ | refine Fin'.agg ?_)))
    · by_cases hc1 : 511 < cut
      · refine ⟨?_⟩; refine Spec.ofR (h := fun F w0 => ?_)
        repeat' ((conv => whnf); first | refine Q.a ?_ | refine Q.b ?_ | refine Q.c ?_ | refine Stk.is (by first | assumption | ((try simp only [lC]); first | done | assumption | omega)) ?_ | refine Stk.isnt (by first | assumption | ((try simp only [lC]); first | done | assumption | omega)) ?_ | (refine Stk.both (fun hb => ?_) (fun hb => ?_) <;> (try simp only [lC] at hb)) | refine Q.d ?_ | refine Q.e ?_ | refine Q.f ?_ | refine Q.g ?_ | refine Q.h ?_ | refine Q.i ?_ | refine Q.j ?_ | refine Q.k ?_ | refine Q.l ?_ | refine Q.m ?_ | refine Q.n ?_ | refine Q.o (h := ?_) | refine Q.p (h := ?_) | refine Q.q ?_ | refine Q.r ?_ | refine Q.s ?_ | refine Q.t ?_ | refine Q.u ?_ | refine Q.v ?_ | refine Q.w ?_ | refine Q.x ?_ | refine Q.y ?_ | refine Q.z ?_); all_goals (conv => whnf)
        ((refine FinK.of (h := ?_)); (repeat' (first | exact FinL.nil | refine FinL.cons ?_ ?_ | refine Fin'.tup ?_ | exact Q.f3 | exact Q.f4 | exact Q.f5 | exact Q.f6 | refine Fin'.vb ?_ | refine Fin'.vi ?_ | refine Fin'.agg ?_)))
      · have jc := bagcheck_spec l
        by_cases hb : bagE l = 0
        · rw [hb] at jc
          refine ⟨?_⟩; refine Spec.ofR (h := fun F w0 => ?_)
          repeat' ((conv => whnf); first | refine Q.a ?_ | refine Q.b ?_ | refine Q.c ?_ | refine Stk.is (by first | assumption | ((try simp only [lC]); first | done | assumption | omega)) ?_ | refine Stk.isnt (by first | assumption | ((try simp only [lC]); first | done | assumption | omega)) ?_ | (refine Stk.both (fun hb => ?_) (fun hb => ?_) <;> (try simp only [lC] at hb)) | refine Q.d ?_ | refine Q.e ?_ | refine Q.f ?_ | refine Q.g ?_ | refine Q.h ?_ | refine Q.i ?_ | refine Q.j ?_ | refine Q.k ?_ | refine Q.l ?_ | refine Q.m ?_ | refine Q.n ?_ | refine Q.o (h := ?_) | refine Q.p (h := ?_) | refine Q.q ?_ | refine Q.r ?_ | refine Q.s ?_ | refine Q.t ?_ | refine Q.u ?_ | refine Q.v ?_ | refine Q.w ?_ | refine Q.x ?_ | refine Q.y ?_ | refine Q.z ?_); all_goals (conv => whnf)
          refine Stk.loopW (ι := Nat × Nat × Nat) (fun i => [(0, PV.bag l), (1, PV.int cut), (5, .row 5 i.2.1), (6, .row 6 i.2.2), (7, PV.int (i.1 : Nat))]) (fun i => [(5, .row 37 3 i.2.1 ((opL cut (l.take i.1)).map Fli.cs)), (6, .row 37 3 i.2.2 ((shL cut (l.take i.1)).map Fli.cs))]) (fun i => i.1 ≤ l.length) (fun i => l.length - i.1) (0, 0, 0) (Nat.zero_le _) (Weak.trans (Weak.nilrow (t := 5) (id := 5) (rt := 37) (sz := 3) rfl rfl) (Weak.trans (Weak.nilrow (t := 6) (id := 6) (rt := 37) (sz := 3) rfl rfl) (Weak.gc ⟨rfl, rfl, rfl, rfl, rfl, trivial⟩ ⟨rfl, rfl, trivial⟩ rfl (onlyH_row (f := Fli.cs) (l := []) (fun _ => rfl) (onlyH_row (f := Fli.cs) (l := []) (fun _ => rfl) rfl)) rfl))) (fun ⟨i, v1, v2⟩ hi => ?_)
          simp only at hi
          dsimp only
          have ho := opL_len cut l i
          have hs := shL_len cut l i
          by_cases hlt : i < l.length
          · have hfi := bagE_mem hb (List.getElem_mem hlt)
            have jo1 := bagopen_spec cut l[i]
            have jo2 := bagopen_spec (511 - cut) l[i]
            have jo3 := bagopen_spec 0 l[i]
            rw [open_not ⟨by omega, by omega⟩ hfi] at jo2
            rw [open_zero hfi] at jo3
            have ho2 := opL_snoc cut l i hlt
            have hs2 := shL_snoc cut l i hlt
            generalize hO : opL cut (l.take i) = O at *
            generalize hS : shL cut (l.take i) = S at *
            cases hq : openF cut l[i] with
            | true =>
              rw [hq] at jo1 jo2
              rw [if_pos hq] at ho2 hs2
              repeat' ((conv => whnf); first | refine Q.a ?_ | refine Q.b ?_ | refine Q.c ?_ | refine Stk.is (by first | assumption | ((try simp only [lC]); first | done | assumption | omega)) ?_ | refine Stk.isnt (by first | assumption | ((try simp only [lC]); first | done | assumption | omega)) ?_ | (refine Stk.both (fun hb => ?_) (fun hb => ?_) <;> (try simp only [lC] at hb)) | refine Q.d ?_ | refine Q.e ?_ | refine Q.f ?_ | refine Q.g ?_ | refine Q.h ?_ | refine Q.i ?_ | refine Q.j ?_ | refine Q.k ?_ | refine Q.l ?_ | refine Q.m ?_ | refine Q.n ?_ | refine Q.o (h := ?_) | refine Q.p (h := ?_) | refine Q.q ?_ | refine Q.r ?_ | refine Q.s ?_ | refine Q.t ?_ | refine Q.u ?_ | refine Q.v ?_ | refine Q.w ?_ | refine Q.x ?_ | refine Q.y ?_ | refine Q.z ?_); all_goals (conv => whnf)
              (refine Stk.app rfl Q.app ?_)
              repeat' ((conv => whnf); first | refine Q.a ?_ | refine Q.b ?_ | refine Q.c ?_ | refine Stk.is (by first | assumption | ((try simp only [lC]); first | done | assumption | omega)) ?_ | refine Stk.isnt (by first | assumption | ((try simp only [lC]); first | done | assumption | omega)) ?_ | (refine Stk.both (fun hb => ?_) (fun hb => ?_) <;> (try simp only [lC] at hb)) | refine Q.d ?_ | refine Q.e ?_ | refine Q.f ?_ | refine Q.g ?_ | refine Q.h ?_ | refine Q.i ?_ | refine Q.j ?_ | refine Q.k ?_ | refine Q.l ?_ | refine Q.m ?_ | refine Q.n ?_ | refine Q.o (h := ?_) | refine Q.p (h := ?_) | refine Q.q ?_ | refine Q.r ?_ | refine Q.s ?_ | refine Q.t ?_ | refine Q.u ?_ | refine Q.v ?_ | refine Q.w ?_ | refine Q.x ?_ | refine Q.y ?_ | refine Q.z ?_); all_goals (conv => whnf)
              refine ⟨(i + 1, v1 + 1, v2), by simp; omega, by simp; omega, ?_⟩
              rw [ho2, hs2]
              exact Weak.gc ⟨rfl, rfl, rfl, rfl, rfl, trivial⟩ ⟨by rw [List.map_append]; rfl, rfl, trivial⟩ rfl (onlyH_row (f := Fli.cs) (fun _ => rfl) (onlyH_row (f := Fli.cs) (fun _ => rfl) rfl)) rfl
            | false =>
              rw [hq] at jo1 jo2
              rw [if_neg (by rw [hq]; simp)] at ho2 hs2
              repeat' ((conv => whnf); first | refine Q.a ?_ | refine Q.b ?_ | refine Q.c ?_ | refine Stk.is (by first | assumption | ((try simp only [lC]); first | done | assumption | omega)) ?_ | refine Stk.isnt (by first | assumption | ((try simp only [lC]); first | done | assumption | omega)) ?_ | (refine Stk.both (fun hb => ?_) (fun hb => ?_) <;> (try simp only [lC] at hb)) | refine Q.d ?_ | refine Q.e ?_ | refine Q.f ?_ | refine Q.g ?_ | refine Q.h ?_ | refine Q.i ?_ | refine Q.j ?_ | refine Q.k ?_ | refine Q.l ?_ | refine Q.m ?_ | refine Q.n ?_ | refine Q.o (h := ?_) | refine Q.p (h := ?_) | refine Q.q ?_ | refine Q.r ?_ | refine Q.s ?_ | refine Q.t ?_ | refine Q.u ?_ | refine Q.v ?_ | refine Q.w ?_ | refine Q.x ?_ | refine Q.y ?_ | refine Q.z ?_); all_goals (conv => whnf)
              (refine Stk.app rfl Q.app ?_)
              repeat' ((conv => whnf); first | refine Q.a ?_ | refine Q.b ?_ | refine Q.c ?_ | refine Stk.is (by first | assumption | ((try simp only [lC]); first | done | assumption | omega)) ?_ | refine Stk.isnt (by first | assumption | ((try simp only [lC]); first | done | assumption | omega)) ?_ | (refine Stk.both (fun hb => ?_) (fun hb => ?_) <;> (try simp only [lC] at hb)) | refine Q.d ?_ | refine Q.e ?_ | refine Q.f ?_ | refine Q.g ?_ | refine Q.h ?_ | refine Q.i ?_ | refine Q.j ?_ | refine Q.k ?_ | refine Q.l ?_ | refine Q.m ?_ | refine Q.n ?_ | refine Q.o (h := ?_) | refine Q.p (h := ?_) | refine Q.q ?_ | refine Q.r ?_ | refine Q.s ?_ | refine Q.t ?_ | refine Q.u ?_ | refine Q.v ?_ | refine Q.w ?_ | refine Q.x ?_ | refine Q.y ?_ | refine Q.z ?_); all_goals (conv => whnf)
              refine ⟨(i + 1, v1, v2 + 1), by simp; omega, by simp; omega, ?_⟩
              rw [ho2, hs2]
              exact Weak.gc ⟨rfl, rfl, rfl, rfl, rfl, trivial⟩ ⟨rfl, by rw [List.map_append]; rfl, trivial⟩ rfl (onlyH_row (f := Fli.cs) (fun _ => rfl) (onlyH_row (f := Fli.cs) (fun _ => rfl) rfl)) rfl
          · obtain rfl : i = l.length := by omega
            have hst : leftB cut (opL cut l) (shL cut l) 0 l := ⟨hb, rfl, rfl⟩
            rw [List.take_length] at ho hs ⊢
            generalize opL cut l = O at *
            generalize shL cut l = S at *
            repeat' ((conv => whnf); first | refine Q.a ?_ | refine Q.b ?_ | refine Q.c ?_ | refine Stk.is (by first | assumption | ((try simp only [lC]); first | done | assumption | omega)) ?_ | refine Stk.isnt (by first | assumption | ((try simp only [lC]); first | done | assumption | omega)) ?_ | (refine Stk.both (fun hb => ?_) (fun hb => ?_) <;> (try simp only [lC] at hb)) | refine Q.d ?_ | refine Q.e ?_ | refine Q.f ?_ | refine Q.g ?_ | refine Q.h ?_ | refine Q.i ?_ | refine Q.j ?_ | refine Q.k ?_ | refine Q.l ?_ | refine Q.m ?_ | refine Q.n ?_ | refine Q.o (h := ?_) | refine Q.p (h := ?_) | refine Q.q ?_ | refine Q.r ?_ | refine Q.s ?_ | refine Q.t ?_ | refine Q.u ?_ | refine Q.v ?_ | refine Q.w ?_ | refine Q.x ?_ | refine Q.y ?_ | refine Q.z ?_); all_goals (conv => whnf)
            refine ⟨[(0, PV.bag l), (1, PV.int cut), (5, PV.bag O), (6, PV.bag S)], [], Weak.trans (Weak.frz (id := 5) (ver := v1) (rt := 37) (sz := 3) (xs := O.map Fli.cs) (env' := [(0, PV.bag l), (1, PV.int cut), (5, PV.bag O), (6, .row 6 v2)]) (lh' := [(6, .row 37 3 v2 (S.map Fli.cs))]) rfl (all_map_closed (fun _ => rfl) _) ⟨.inl ⟨rfl, rfl⟩, .inl ⟨rfl, rfl⟩, .inr ⟨rfl, rfl⟩, .inl ⟨rfl, rfl⟩, trivial⟩ ⟨⟨by decide, List.all_eq_true.2 (fun e he => by obtain ⟨x, _, rfl⟩ := List.mem_map.1 he; rfl), rfl⟩, trivial⟩ rfl) (Weak.frz (id := 6) (ver := v2) (rt := 37) (sz := 3) (xs := S.map Fli.cs) rfl (all_map_closed (fun _ => rfl) _) ⟨.inl ⟨rfl, rfl⟩, .inl ⟨rfl, rfl⟩, .inl ⟨rfl, rfl⟩, .inr ⟨rfl, rfl⟩, trivial⟩ trivial rfl), ?_⟩
            repeat' ((conv => whnf); first | refine Q.a ?_ | refine Q.b ?_ | refine Q.c ?_ | refine Stk.is (by first | assumption | ((try simp only [lC]); first | done | assumption | omega)) ?_ | refine Stk.isnt (by first | assumption | ((try simp only [lC]); first | done | assumption | omega)) ?_ | (refine Stk.both (fun hb => ?_) (fun hb => ?_) <;> (try simp only [lC] at hb)) | refine Q.d ?_ | refine Q.e ?_ | refine Q.f ?_ | refine Q.g ?_ | refine Q.h ?_ | refine Q.i ?_ | refine Q.j ?_ | refine Q.k ?_ | refine Q.l ?_ | refine Q.m ?_ | refine Q.n ?_ | refine Q.o (h := ?_) | refine Q.p (h := ?_) | refine Q.q ?_ | refine Q.r ?_ | refine Q.s ?_ | refine Q.t ?_ | refine Q.u ?_ | refine Q.v ?_ | refine Q.w ?_ | refine Q.x ?_ | refine Q.y ?_ | refine Q.z ?_); all_goals (conv => whnf)
            refine Stk.loop (ι := Nat × List Fli) (fun i => [(0, PV.bag i.2), (1, PV.int cut), (5, PV.bag O), (6, PV.bag S), (8, PV.int (i.1 : Nat))]) (fun _ => []) (fun i => i.1 ≤ O.length ∧ leftB cut O S i.1 i.2) (fun i => O.length - i.1) (0, l) ⟨Nat.zero_le _, hst⟩ (Weak.gc ⟨rfl, rfl, rfl, rfl, rfl, trivial⟩ trivial rfl rfl rfl) (fun ⟨j, z⟩ hj => ?_)
            obtain ⟨hj, hz⟩ := hj
            simp only at hj hz
            dsimp only
            by_cases hlt2 : j < O.length
            · obtain ⟨z', hz', hn, ht1, ht2, ht3⟩ := left_step hz hlt2
              have jn := bagnext_spec z cut
              have jt := bagtake_spec z (max (idxF (openF cut) z) 0)
              rw [hn] at jn
              rw [ht1, ht2, ht3] at jt
              generalize max (idxF (openF cut) z) 0 = k at *
              repeat' ((conv => whnf); first | refine Q.a ?_ | refine Q.b ?_ | refine Q.c ?_ | refine Stk.is (by first | assumption | ((try simp only [lC]); first | done | assumption | omega)) ?_ | refine Stk.isnt (by first | assumption | ((try simp only [lC]); first | done | assumption | omega)) ?_ | (refine Stk.both (fun hb => ?_) (fun hb => ?_) <;> (try simp only [lC] at hb)) | refine Q.d ?_ | refine Q.e ?_ | refine Q.f ?_ | refine Q.g ?_ | refine Q.h ?_ | refine Q.i ?_ | refine Q.j ?_ | refine Q.k ?_ | refine Q.l ?_ | refine Q.m ?_ | refine Q.n ?_ | refine Q.o (h := ?_) | refine Q.p (h := ?_) | refine Q.q ?_ | refine Q.r ?_ | refine Q.s ?_ | refine Q.t ?_ | refine Q.u ?_ | refine Q.v ?_ | refine Q.w ?_ | refine Q.x ?_ | refine Q.y ?_ | refine Q.z ?_); all_goals (conv => whnf)
              refine Stk.eqSN O[j].sv O[j].sv (h := ?_)
              repeat' ((conv => whnf); first | refine Q.a ?_ | refine Q.b ?_ | refine Q.c ?_ | refine Stk.is (by first | assumption | ((try simp only [lC]); first | done | assumption | omega)) ?_ | refine Stk.isnt (by first | assumption | ((try simp only [lC]); first | done | assumption | omega)) ?_ | (refine Stk.both (fun hb => ?_) (fun hb => ?_) <;> (try simp only [lC] at hb)) | refine Q.d ?_ | refine Q.e ?_ | refine Q.f ?_ | refine Q.g ?_ | refine Q.h ?_ | refine Q.i ?_ | refine Q.j ?_ | refine Q.k ?_ | refine Q.l ?_ | refine Q.m ?_ | refine Q.n ?_ | refine Q.o (h := ?_) | refine Q.p (h := ?_) | refine Q.q ?_ | refine Q.r ?_ | refine Q.s ?_ | refine Q.t ?_ | refine Q.u ?_ | refine Q.v ?_ | refine Q.w ?_ | refine Q.x ?_ | refine Q.y ?_ | refine Q.z ?_); all_goals (conv => whnf)
              exact ⟨(j + 1, z'), ⟨by show j + 1 ≤ _; omega, hz'⟩, by show _ - (j + 1) < _ - j; omega, Weak.gc ⟨rfl, rfl, rfl, rfl, rfl, trivial⟩ trivial rfl rfl rfl⟩
            · obtain rfl : j = O.length := by omega
              obtain ⟨hn, rfl⟩ := left_end hz
              have jn := bagnext_spec z cut
              rw [hn] at jn
              have ja := all14_spec z (by omega)
              have js := refsame14_spec z z
              rw [tst_true.2 rfl] at js
              repeat' ((conv => whnf); first | refine Q.a ?_ | refine Q.b ?_ | refine Q.c ?_ | refine Stk.is (by first | assumption | ((try simp only [lC]); first | done | assumption | omega)) ?_ | refine Stk.isnt (by first | assumption | ((try simp only [lC]); first | done | assumption | omega)) ?_ | (refine Stk.both (fun hb => ?_) (fun hb => ?_) <;> (try simp only [lC] at hb)) | refine Q.d ?_ | refine Q.e ?_ | refine Q.f ?_ | refine Q.g ?_ | refine Q.h ?_ | refine Q.i ?_ | refine Q.j ?_ | refine Q.k ?_ | refine Q.l ?_ | refine Q.m ?_ | refine Q.n ?_ | refine Q.o (h := ?_) | refine Q.p (h := ?_) | refine Q.q ?_ | refine Q.r ?_ | refine Q.s ?_ | refine Q.t ?_ | refine Q.u ?_ | refine Q.v ?_ | refine Q.w ?_ | refine Q.x ?_ | refine Q.y ?_ | refine Q.z ?_); all_goals (conv => whnf)
              ((refine FinK.of (h := ?_)); (repeat' (first | exact FinL.nil | refine FinL.cons ?_ ?_ | refine Fin'.tup ?_ | exact Q.f3 | exact Q.f4 | exact Q.f5 | exact Q.f6 | refine Fin'.vb ?_ | refine Fin'.vi ?_ | refine Fin'.agg ?_)))
        · generalize bagE l = q at *
          refine ⟨?_⟩; refine Spec.ofR (h := fun F w0 => ?_)
          repeat' ((conv => whnf); first | refine Q.a ?_ | refine Q.b ?_ | refine Q.c ?_ | refine Stk.is (by first | assumption | ((try simp only [lC]); first | done | assumption | omega)) ?_ | refine Stk.isnt (by first | assumption | ((try simp only [lC]); first | done | assumption | omega)) ?_ | (refine Stk.both (fun hb => ?_) (fun hb => ?_) <;> (try simp only [lC] at hb)) | refine Q.d ?_ | refine Q.e ?_ | refine Q.f ?_ | refine Q.g ?_ | refine Q.h ?_ | refine Q.i ?_ | refine Q.j ?_ | refine Q.k ?_ | refine Q.l ?_ | refine Q.m ?_ | refine Q.n ?_ | refine Q.o (h := ?_) | refine Q.p (h := ?_) | refine Q.q ?_ | refine Q.r ?_ | refine Q.s ?_ | refine Q.t ?_ | refine Q.u ?_ | refine Q.v ?_ | refine Q.w ?_ | refine Q.x ?_ | refine Q.y ?_ | refine Q.z ?_); all_goals (conv => whnf)
          ((refine FinK.of (h := ?_)); (repeat' (first | exact FinL.nil | refine FinL.cons ?_ ?_ | refine Fin'.tup ?_ | exact Q.f3 | exact Q.f4 | exact Q.f5 | exact Q.f6 | refine Fin'.vb ?_ | refine Fin'.vi ?_ | refine Fin'.agg ?_)))
end Go.Proofs.Ytflnfdepklnlkaa
