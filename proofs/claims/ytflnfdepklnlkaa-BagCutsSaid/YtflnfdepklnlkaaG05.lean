/- Layer 14: the law BagMoves, walked. -/
import Derived.Test.YtflnfdepklnlkaaG04
namespace Go.Proofs.Ytflnfdepklnlkaa
set_option linter.unusedSectionVars false
open Go.RowKit
set_option linter.unusedSimpArgs false
set_option linter.unusedVariables false
set_option maxRecDepth 100000
set_option maxHeartbeats 1000000
theorem sendE_parts {l : List Fli} {f : Fli} (h : sendE l f = 0) : bagE l = 0 ∧ l.length < 5000 := by
  unfold sendE at h
  split at h
  · exact absurd h (by assumption)
  · split at h
    · omega
    · split at h
      · rename_i h1 _ h2; exact ⟨by simpa using h1, h2⟩
      · omega
theorem takeE_parts {l : List Fli} {k : Int} (h : takeE l k = 0) : bagE l = 0 ∧ 0 ≤ k ∧ k < l.length := by
  unfold takeE at h
  split at h
  · exact absurd h (by assumption)
  · split at h
    · rename_i h1 h2; exact ⟨by simpa using h1, h2⟩
    · omega
theorem bagE_mem {l : List Fli} (h : bagE l = 0) {f : Fli} (hf : f ∈ l) : fliB f = true := List.all_eq_true.1 (bagE_ok h).1 f hf
theorem bagMoves_spec (l : List Fli) (f : Fli) (k : Int) : HasSpec Try.prog 4 [PV.bag l, .agg f.cs, PV.int k] (.v (.bool true)) := by
  have jf := few14_spec l
  cases hf : fewFli l with
  | false =>
    rw [hf] at jf
    refine ⟨?_⟩; refine Spec.ofR (h := fun F w0 => ?_)
    repeat' ((conv => whnf); first | refine Q.a ?_ | refine Q.b ?_ | refine Q.c ?_ | refine Stk.is (by first | assumption | ((try simp only [lC]); first | done | assumption | omega)) ?_ | refine Stk.isnt (by first | assumption | ((try simp only [lC]); first | done | assumption | omega)) ?_ | (refine Stk.both (fun hb => ?_) (fun hb => ?_) <;> (try simp only [lC] at hb)) | refine Q.d ?_ | refine Q.e ?_ | refine Q.f ?_ | refine Q.g ?_ | refine Q.h ?_ | refine Q.i ?_ | refine Q.j ?_ | refine Q.k ?_ | refine Q.l ?_ | refine Q.m ?_ | refine Q.n ?_ | refine Q.o (h := ?_) | refine Q.p (h := ?_) | refine Q.q ?_ | refine Q.r ?_ | refine Q.s ?_ | refine Q.t ?_ | refine Q.u ?_ | refine Q.v ?_ | refine Q.w ?_ | refine Q.x ?_ | refine Q.y ?_ | refine Q.z ?_); all_goals (conv => whnf)
    ((refine FinK.of (h := ?_)); (repeat' (first | exact FinL.nil | refine FinL.cons ?_ ?_ | refine Fin'.tup ?_ | exact Q.f3 | exact Q.f4 | exact Q.f5 | exact Q.f6 | refine Fin'.vb ?_ | refine Fin'.vi ?_ | refine Fin'.agg ?_)))
  | true =>
    rw [hf] at jf
    have hl := fewFli_parts hf
    have ja := all14_spec l (by omega)
    have js := refsame14_spec l l
    rw [tst_true.2 rfl] at js
    by_cases hd : f.data.size ≤ 3000
    · have jsd := bagsend_spec l f
      have jtk := bagtake_spec l k
      have jcp := bagcopy_spec l k
      have hS : (sendE l f ≠ 0) ∨ (sendE l f = 0 ∧ sendL l f = l ++ [f]) := by
        by_cases h : sendE l f = 0
        · exact .inr ⟨h, if_pos h⟩
        · exact .inl h
      by_cases ht : takeE l k = 0
      · obtain ⟨hb, h0, hk⟩ := takeE_parts ht
        obtain ⟨K, rfl⟩ : ∃ K : Nat, k = (K : Int) := ⟨k.toNat, by omega⟩
        have hKl : K < l.length := by omega
        have e1 : takeF l (K : Int) = l[K] := (if_pos ht).trans (by rw [Int.toNat_natCast, List.getElem?_eq_getElem hKl]; rfl)
        have e2 : takeL l (K : Int) = l.eraseIdx K := (if_pos ht).trans (by rw [Int.toNat_natCast])
        have e3 : sendE l l[K] = 0 := (if_neg (by simp [hb])).trans ((if_neg (by rw [bagE_mem hb (List.getElem_mem hKl)]; simp)).trans (if_pos (by omega)))
        have e4 : copyE l (K : Int) = 0 := (if_neg (by simp [ht])).trans (by rw [e1]; exact e3)
        have e5 : copyL l (K : Int) = l ++ [l[K]] := (if_neg (by simp [ht])).trans (by rw [e1]; exact if_pos e3)
        rw [e1, e2, ht] at jtk
        rw [e4, e5] at jcp
        have hM2L : ((l ++ [l[K]]).length : Int) = (l.length : Nat) + 1 := by rw [List.length_append]; rfl
        have hM2l : l.length < (l ++ [l[K]]).length := by omega
        have hM2at : ((l ++ [l[K]])[l.length]'hM2l).sv = l[K].sv := by simp
        have he := List.eraseIdx_eq_take_drop_succ l K
        have hEL : ((l.eraseIdx K).length : Int) = (l.length : Nat) - 1 := by rw [List.length_eraseIdx_of_lt hKl]; omega
        have hEn : (l.eraseIdx K).length ≤ 200 := by omega
        have hEt : (l.eraseIdx K).take K = l.take K := by rw [he]; exact List.take_left' (by rw [List.length_take]; omega)
        have hEd : (l.eraseIdx K).drop K = l.drop (K + 1) := by rw [he]; exact List.drop_left' (by rw [List.length_take]; omega)
        have ja1 : HasSpec Try.prog 10 [PV.bag ((l.eraseIdx K).take K)] (PV.bag (l.take K)) := by
          rw [hEt]
          exact all14_spec _ (by rw [List.length_take]; omega)
        have ja2 : HasSpec Try.prog 10 [PV.bag ((l.eraseIdx K).drop K)] (PV.bag (l.drop (K + 1))) := by
          rw [hEd]
          exact all14_spec _ (by rw [List.length_drop]; omega)
        have js1 := refsame14_spec (l.take K) (l.take K)
        have js2 := refsame14_spec (l.drop (K + 1)) (l.drop (K + 1))
        rw [tst_true.2 rfl] at js1 js2
        clear he hEt hEd e1 e2 e3 e4 e5
        generalize l ++ [l[K]] = M2 at *
        generalize l.eraseIdx K = E at *
        rcases hS with h | ⟨h1, h2⟩
        · generalize sendL l f = sl at *
          generalize sendE l f = se at *
          refine ⟨?_⟩; refine Spec.ofR (h := fun F w0 => ?_)
          repeat' ((conv => whnf); first | refine Q.a ?_ | refine Q.b ?_ | refine Q.c ?_ | refine Stk.is (by first | assumption | ((try simp only [lC]); first | done | assumption | omega)) ?_ | refine Stk.isnt (by first | assumption | ((try simp only [lC]); first | done | assumption | omega)) ?_ | (refine Stk.both (fun hb => ?_) (fun hb => ?_) <;> (try simp only [lC] at hb)) | refine Q.d ?_ | refine Q.e ?_ | refine Q.f ?_ | refine Q.g ?_ | refine Q.h ?_ | refine Q.i ?_ | refine Q.j ?_ | refine Q.k ?_ | refine Q.l ?_ | refine Q.m ?_ | refine Q.n ?_ | refine Q.o (h := ?_) | refine Q.p (h := ?_) | refine Q.q ?_ | refine Q.r ?_ | refine Q.s ?_ | refine Q.t ?_ | refine Q.u ?_ | refine Q.v ?_ | refine Q.w ?_ | refine Q.x ?_ | refine Q.y ?_ | refine Q.z ?_); all_goals (conv => whnf)
          refine Stk.eqSN l[K].sv l[K].sv (h := ?_)
          repeat' ((conv => whnf); first | refine Q.a ?_ | refine Q.b ?_ | refine Q.c ?_ | refine Stk.is (by first | assumption | ((try simp only [lC]); first | done | assumption | omega)) ?_ | refine Stk.isnt (by first | assumption | ((try simp only [lC]); first | done | assumption | omega)) ?_ | (refine Stk.both (fun hb => ?_) (fun hb => ?_) <;> (try simp only [lC] at hb)) | refine Q.d ?_ | refine Q.e ?_ | refine Q.f ?_ | refine Q.g ?_ | refine Q.h ?_ | refine Q.i ?_ | refine Q.j ?_ | refine Q.k ?_ | refine Q.l ?_ | refine Q.m ?_ | refine Q.n ?_ | refine Q.o (h := ?_) | refine Q.p (h := ?_) | refine Q.q ?_ | refine Q.r ?_ | refine Q.s ?_ | refine Q.t ?_ | refine Q.u ?_ | refine Q.v ?_ | refine Q.w ?_ | refine Q.x ?_ | refine Q.y ?_ | refine Q.z ?_); all_goals (conv => whnf)
          refine Stk.cutD (n := K + 1) (by omega) ?_
          repeat' ((conv => whnf); first | refine Q.a ?_ | refine Q.b ?_ | refine Q.c ?_ | refine Stk.is (by first | assumption | ((try simp only [lC]); first | done | assumption | omega)) ?_ | refine Stk.isnt (by first | assumption | ((try simp only [lC]); first | done | assumption | omega)) ?_ | (refine Stk.both (fun hb => ?_) (fun hb => ?_) <;> (try simp only [lC] at hb)) | refine Q.d ?_ | refine Q.e ?_ | refine Q.f ?_ | refine Q.g ?_ | refine Q.h ?_ | refine Q.i ?_ | refine Q.j ?_ | refine Q.k ?_ | refine Q.l ?_ | refine Q.m ?_ | refine Q.n ?_ | refine Q.o (h := ?_) | refine Q.p (h := ?_) | refine Q.q ?_ | refine Q.r ?_ | refine Q.s ?_ | refine Q.t ?_ | refine Q.u ?_ | refine Q.v ?_ | refine Q.w ?_ | refine Q.x ?_ | refine Q.y ?_ | refine Q.z ?_); all_goals (conv => whnf)
          refine Stk.eqSE (M2[l.length]'hM2l).sv l[K].sv (h := ?_)
          repeat' ((conv => whnf); first | refine Q.a ?_ | refine Q.b ?_ | refine Q.c ?_ | refine Stk.is (by first | assumption | ((try simp only [lC]); first | done | assumption | omega)) ?_ | refine Stk.isnt (by first | assumption | ((try simp only [lC]); first | done | assumption | omega)) ?_ | (refine Stk.both (fun hb => ?_) (fun hb => ?_) <;> (try simp only [lC] at hb)) | refine Q.d ?_ | refine Q.e ?_ | refine Q.f ?_ | refine Q.g ?_ | refine Q.h ?_ | refine Q.i ?_ | refine Q.j ?_ | refine Q.k ?_ | refine Q.l ?_ | refine Q.m ?_ | refine Q.n ?_ | refine Q.o (h := ?_) | refine Q.p (h := ?_) | refine Q.q ?_ | refine Q.r ?_ | refine Q.s ?_ | refine Q.t ?_ | refine Q.u ?_ | refine Q.v ?_ | refine Q.w ?_ | refine Q.x ?_ | refine Q.y ?_ | refine Q.z ?_); all_goals (conv => whnf)
          ((refine FinK.of (h := ?_)); (repeat' (first | exact FinL.nil | refine FinL.cons ?_ ?_ | refine Fin'.tup ?_ | exact Q.f3 | exact Q.f4 | exact Q.f5 | exact Q.f6 | refine Fin'.vb ?_ | refine Fin'.vi ?_ | refine Fin'.agg ?_)))
        · have hML : ((l ++ [f]).length : Int) = (l.length : Nat) + 1 := by rw [List.length_append]; rfl
          have hMl : l.length < (l ++ [f]).length := by omega
          have hMat : ((l ++ [f])[l.length]'hMl).sv = f.sv := by simp
          have hMt : (l ++ [f]).take l.length = l := List.take_left' rfl
          have jaM := all14_spec ((l ++ [f]).take l.length) (by rw [hMt]; omega)
          rw [h1, h2] at jsd
          generalize l ++ [f] = M at *
          have jaM2 : HasSpec Try.prog 10 [PV.bag (M.take l.length)] (PV.bag l) := by
            have h := jaM
            conv at h => arg 4; rw [hMt]
            exact h
          refine ⟨?_⟩; refine Spec.ofR (h := fun F w0 => ?_)
          repeat' ((conv => whnf); first | refine Q.a ?_ | refine Q.b ?_ | refine Q.c ?_ | refine Stk.is (by first | assumption | ((try simp only [lC]); first | done | assumption | omega)) ?_ | refine Stk.isnt (by first | assumption | ((try simp only [lC]); first | done | assumption | omega)) ?_ | (refine Stk.both (fun hb => ?_) (fun hb => ?_) <;> (try simp only [lC] at hb)) | refine Q.d ?_ | refine Q.e ?_ | refine Q.f ?_ | refine Q.g ?_ | refine Q.h ?_ | refine Q.i ?_ | refine Q.j ?_ | refine Q.k ?_ | refine Q.l ?_ | refine Q.m ?_ | refine Q.n ?_ | refine Q.o (h := ?_) | refine Q.p (h := ?_) | refine Q.q ?_ | refine Q.r ?_ | refine Q.s ?_ | refine Q.t ?_ | refine Q.u ?_ | refine Q.v ?_ | refine Q.w ?_ | refine Q.x ?_ | refine Q.y ?_ | refine Q.z ?_); all_goals (conv => whnf)
          refine Stk.eqSN (M[l.length]'hMl).sv f.sv (h := ?_)
          repeat' ((conv => whnf); first | refine Q.a ?_ | refine Q.b ?_ | refine Q.c ?_ | refine Stk.is (by first | assumption | ((try simp only [lC]); first | done | assumption | omega)) ?_ | refine Stk.isnt (by first | assumption | ((try simp only [lC]); first | done | assumption | omega)) ?_ | (refine Stk.both (fun hb => ?_) (fun hb => ?_) <;> (try simp only [lC] at hb)) | refine Q.d ?_ | refine Q.e ?_ | refine Q.f ?_ | refine Q.g ?_ | refine Q.h ?_ | refine Q.i ?_ | refine Q.j ?_ | refine Q.k ?_ | refine Q.l ?_ | refine Q.m ?_ | refine Q.n ?_ | refine Q.o (h := ?_) | refine Q.p (h := ?_) | refine Q.q ?_ | refine Q.r ?_ | refine Q.s ?_ | refine Q.t ?_ | refine Q.u ?_ | refine Q.v ?_ | refine Q.w ?_ | refine Q.x ?_ | refine Q.y ?_ | refine Q.z ?_); all_goals (conv => whnf)
          refine Stk.eqSN l[K].sv l[K].sv (h := ?_)
          repeat' ((conv => whnf); first | refine Q.a ?_ | refine Q.b ?_ | refine Q.c ?_ | refine Stk.is (by first | assumption | ((try simp only [lC]); first | done | assumption | omega)) ?_ | refine Stk.isnt (by first | assumption | ((try simp only [lC]); first | done | assumption | omega)) ?_ | (refine Stk.both (fun hb => ?_) (fun hb => ?_) <;> (try simp only [lC] at hb)) | refine Q.d ?_ | refine Q.e ?_ | refine Q.f ?_ | refine Q.g ?_ | refine Q.h ?_ | refine Q.i ?_ | refine Q.j ?_ | refine Q.k ?_ | refine Q.l ?_ | refine Q.m ?_ | refine Q.n ?_ | refine Q.o (h := ?_) | refine Q.p (h := ?_) | refine Q.q ?_ | refine Q.r ?_ | refine Q.s ?_ | refine Q.t ?_ | refine Q.u ?_ | refine Q.v ?_ | refine Q.w ?_ | refine Q.x ?_ | refine Q.y ?_ | refine Q.z ?_); all_goals (conv => whnf)
          refine Stk.cutD (n := K + 1) (by omega) ?_
          repeat' ((conv => whnf); first | refine Q.a ?_ | refine Q.b ?_ | refine Q.c ?_ | refine Stk.is (by first | assumption | ((try simp only [lC]); first | done | assumption | omega)) ?_ | refine Stk.isnt (by first | assumption | ((try simp only [lC]); first | done | assumption | omega)) ?_ | (refine Stk.both (fun hb => ?_) (fun hb => ?_) <;> (try simp only [lC] at hb)) | refine Q.d ?_ | refine Q.e ?_ | refine Q.f ?_ | refine Q.g ?_ | refine Q.h ?_ | refine Q.i ?_ | refine Q.j ?_ | refine Q.k ?_ | refine Q.l ?_ | refine Q.m ?_ | refine Q.n ?_ | refine Q.o (h := ?_) | refine Q.p (h := ?_) | refine Q.q ?_ | refine Q.r ?_ | refine Q.s ?_ | refine Q.t ?_ | refine Q.u ?_ | refine Q.v ?_ | refine Q.w ?_ | refine Q.x ?_ | refine Q.y ?_ | refine Q.z ?_); all_goals (conv => whnf)
          refine Stk.eqSE (M2[l.length]'hM2l).sv l[K].sv (h := ?_)
          repeat' ((conv => whnf); first | refine Q.a ?_ | refine Q.b ?_ | refine Q.c ?_ | refine Stk.is (by first | assumption | ((try simp only [lC]); first | done | assumption | omega)) ?_ | refine Stk.isnt (by first | assumption | ((try simp only [lC]); first | done | assumption | omega)) ?_ | (refine Stk.both (fun hb => ?_) (fun hb => ?_) <;> (try simp only [lC] at hb)) | refine Q.d ?_ | refine Q.e ?_ | refine Q.f ?_ | refine Q.g ?_ | refine Q.h ?_ | refine Q.i ?_ | refine Q.j ?_ | refine Q.k ?_ | refine Q.l ?_ | refine Q.m ?_ | refine Q.n ?_ | refine Q.o (h := ?_) | refine Q.p (h := ?_) | refine Q.q ?_ | refine Q.r ?_ | refine Q.s ?_ | refine Q.t ?_ | refine Q.u ?_ | refine Q.v ?_ | refine Q.w ?_ | refine Q.x ?_ | refine Q.y ?_ | refine Q.z ?_); all_goals (conv => whnf)
          ((refine FinK.of (h := ?_)); (repeat' (first | exact FinL.nil | refine FinL.cons ?_ ?_ | refine Fin'.tup ?_ | exact Q.f3 | exact Q.f4 | exact Q.f5 | exact Q.f6 | refine Fin'.vb ?_ | refine Fin'.vi ?_ | refine Fin'.agg ?_)))
      · have e1 : takeL l k = [] := if_neg ht
        have e2 : copyE l k = takeE l k := if_pos ht
        have e3 : copyL l k = [] := if_pos ht
        rw [e1] at jtk
        rw [e2, e3] at jcp
        generalize hTF : takeF l k = tf at *
        generalize takeE l k = te at *
        rcases hS with h | ⟨h1, h2⟩
        · generalize sendL l f = sl at *
          generalize sendE l f = se at *
          refine ⟨?_⟩; refine Spec.ofR (h := fun F w0 => ?_)
          repeat' ((conv => whnf); first | refine Q.a ?_ | refine Q.b ?_ | refine Q.c ?_ | refine Stk.is (by first | assumption | ((try simp only [lC]); first | done | assumption | omega)) ?_ | refine Stk.isnt (by first | assumption | ((try simp only [lC]); first | done | assumption | omega)) ?_ | (refine Stk.both (fun hb => ?_) (fun hb => ?_) <;> (try simp only [lC] at hb)) | refine Q.d ?_ | refine Q.e ?_ | refine Q.f ?_ | refine Q.g ?_ | refine Q.h ?_ | refine Q.i ?_ | refine Q.j ?_ | refine Q.k ?_ | refine Q.l ?_ | refine Q.m ?_ | refine Q.n ?_ | refine Q.o (h := ?_) | refine Q.p (h := ?_) | refine Q.q ?_ | refine Q.r ?_ | refine Q.s ?_ | refine Q.t ?_ | refine Q.u ?_ | refine Q.v ?_ | refine Q.w ?_ | refine Q.x ?_ | refine Q.y ?_ | refine Q.z ?_); all_goals (conv => whnf)
          ((refine FinK.of (h := ?_)); (repeat' (first | exact FinL.nil | refine FinL.cons ?_ ?_ | refine Fin'.tup ?_ | exact Q.f3 | exact Q.f4 | exact Q.f5 | exact Q.f6 | refine Fin'.vb ?_ | refine Fin'.vi ?_ | refine Fin'.agg ?_)))
        · have hML : ((l ++ [f]).length : Int) = (l.length : Nat) + 1 := by rw [List.length_append]; rfl
          have hMl : l.length < (l ++ [f]).length := by omega
          have hMat : ((l ++ [f])[l.length]'hMl).sv = f.sv := by simp
          have hMt : (l ++ [f]).take l.length = l := List.take_left' rfl
          have jaM := all14_spec ((l ++ [f]).take l.length) (by rw [hMt]; omega)
          rw [h1, h2] at jsd
          generalize l ++ [f] = M at *
          have jaM2 : HasSpec Try.prog 10 [PV.bag (M.take l.length)] (PV.bag l) := by
            have h := jaM
            conv at h => arg 4; rw [hMt]
            exact h
          refine ⟨?_⟩; refine Spec.ofR (h := fun F w0 => ?_)
          repeat' ((conv => whnf); first | refine Q.a ?_ | refine Q.b ?_ | refine Q.c ?_ | refine Stk.is (by first | assumption | ((try simp only [lC]); first | done | assumption | omega)) ?_ | refine Stk.isnt (by first | assumption | ((try simp only [lC]); first | done | assumption | omega)) ?_ | (refine Stk.both (fun hb => ?_) (fun hb => ?_) <;> (try simp only [lC] at hb)) | refine Q.d ?_ | refine Q.e ?_ | refine Q.f ?_ | refine Q.g ?_ | refine Q.h ?_ | refine Q.i ?_ | refine Q.j ?_ | refine Q.k ?_ | refine Q.l ?_ | refine Q.m ?_ | refine Q.n ?_ | refine Q.o (h := ?_) | refine Q.p (h := ?_) | refine Q.q ?_ | refine Q.r ?_ | refine Q.s ?_ | refine Q.t ?_ | refine Q.u ?_ | refine Q.v ?_ | refine Q.w ?_ | refine Q.x ?_ | refine Q.y ?_ | refine Q.z ?_); all_goals (conv => whnf)
          refine Stk.eqSN (M[l.length]'hMl).sv f.sv (h := ?_)
          repeat' ((conv => whnf); first | refine Q.a ?_ | refine Q.b ?_ | refine Q.c ?_ | refine Stk.is (by first | assumption | ((try simp only [lC]); first | done | assumption | omega)) ?_ | refine Stk.isnt (by first | assumption | ((try simp only [lC]); first | done | assumption | omega)) ?_ | (refine Stk.both (fun hb => ?_) (fun hb => ?_) <;> (try simp only [lC] at hb)) | refine Q.d ?_ | refine Q.e ?_ | refine Q.f ?_ | refine Q.g ?_ | refine Q.h ?_ | refine Q.i ?_ | refine Q.j ?_ | refine Q.k ?_ | refine Q.l ?_ | refine Q.m ?_ | refine Q.n ?_ | refine Q.o (h := ?_) | refine Q.p (h := ?_) | refine Q.q ?_ | refine Q.r ?_ | refine Q.s ?_ | refine Q.t ?_ | refine Q.u ?_ | refine Q.v ?_ | refine Q.w ?_ | refine Q.x ?_ | refine Q.y ?_ | refine Q.z ?_); all_goals (conv => whnf)
          ((refine FinK.of (h := ?_)); (repeat' (first | exact FinL.nil | refine FinL.cons ?_ ?_ | refine Fin'.tup ?_ | exact Q.f3 | exact Q.f4 | exact Q.f5 | exact Q.f6 | refine Fin'.vb ?_ | refine Fin'.vi ?_ | refine Fin'.agg ?_)))
    · refine ⟨?_⟩; refine Spec.ofR (h := fun F w0 => ?_)
      repeat' ((conv => whnf); first | refine Q.a ?_ | refine Q.b ?_ | refine Q.c ?_ | refine Stk.is (by first | assumption | ((try simp only [lC]); first | done | assumption | omega)) ?_ | refine Stk.isnt (by first | assumption | ((try simp only [lC]); first | done | assumption | omega)) ?_ | (refine Stk.both (fun hb => ?_) (fun hb => ?_) <;> (try simp only [lC] at hb)) | refine Q.d ?_ | refine Q.e ?_ | refine Q.f ?_ | refine Q.g ?_ | refine Q.h ?_ | refine Q.i ?_ | refine Q.j ?_ | refine Q.k ?_ | refine Q.l ?_ | refine Q.m ?_ | refine Q.n ?_ | refine Q.o (h := ?_) | refine Q.p (h := ?_) | refine Q.q ?_ | refine Q.r ?_ | refine Q.s ?_ | refine Q.t ?_ | refine Q.u ?_ | refine Q.v ?_ | refine Q.w ?_ | refine Q.x ?_ | refine Q.y ?_ | refine Q.z ?_); all_goals (conv => whnf)
      ((refine FinK.of (h := ?_)); (repeat' (first | exact FinL.nil | refine FinL.cons ?_ ?_ | refine Fin'.tup ?_ | exact Q.f3 | exact Q.f4 | exact Q.f5 | exact Q.f6 | refine Fin'.vb ?_ | refine Fin'.vi ?_ | refine Fin'.agg ?_)))
end Go.Proofs.Ytflnfdepklnlkaa
