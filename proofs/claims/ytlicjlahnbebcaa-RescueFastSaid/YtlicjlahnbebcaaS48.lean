/- Layer 24: the law RescueFast, walked. -/
import Derived.Test.YtlicjlahnbebcaaS45
import Derived.Test.YtlicjlahnbebcaaS46
import Derived.Test.YtlicjlahnbebcaaS47
namespace Go.Proofs.Ytlicjlahnbebcaa
open Go.RowKit
set_option linter.unusedSimpArgs false
set_option linter.unusedVariables false
set_option maxRecDepth 100000
set_option maxHeartbeats 1000000
theorem rescueFast_spec (n f c t a1 a2 a3 a4 a5 a6 a7 a8 a9 b1 b2 b3 b4 b5 b6 b7 b8 b9 g : Int) (hU : ∀ x ∈ [a1, a2, a3, a4, a5, a6, a7, a8, a9] ++ [b1, b2, b3, b4, b5, b6, b7, b8, b9], 0 ≤ x ∧ x ≤ 255) : HasSpec Try.prog 18 [.agg (pcs n f c t a1 a2 a3 a4 a5 a6 a7 a8 a9 b1 b2 b3 b4 b5 b6 b7 b8 b9 g)] (.v (.bool true)) := by
  have jm := playmay_spec n f c t a1 a2 a3 a4 a5 a6 a7 a8 a9 b1 b2 b3 b4 b5 b6 b7 b8 b9 g
  cases hm : mayP n f c t with
  | false =>
    rw [hm] at jm
    refine ⟨?_⟩; refine Spec.ofR (h := fun F w0 => ?_)
    repeat' ((conv => whnf); first | refine Stk.yes ?_ | refine Stk.ld rfl ?_ | refine Stk.no ?_ | refine Stk.is (by first | assumption | ((try simp only [lE]); first | done | assumption | omega)) ?_ | refine Stk.isnt (by first | assumption | ((try simp only [lE]); first | done | assumption | omega)) ?_ | (refine Stk.both (fun hb => ?_) (fun hb => ?_) <;> (try simp only [lE] at hb)) | refine Stk.wrap (by omega) (by omega) ?_ | refine Stk.wrapU (by omega) (by omega) ?_ | refine Stk.cutT (by omega) ?_ | refine Stk.cutD (by omega) ?_ | refine Stk.eqsE [_, _] [_, _] rfl rfl rfl rfl ?_ | refine Stk.eqsN [_, _] [_, _] rfl rfl rfl rfl ?_ | refine Stk.eqsE [_, _, _] [_, _, _] rfl rfl rfl rfl ?_ | refine Stk.eqsN [_, _, _] [_, _, _] rfl rfl rfl rfl ?_ | refine Stk.eqsE [_, _, _, _, _, _] [_, _, _, _, _, _] rfl rfl rfl rfl ?_ | refine Stk.eqsN [_, _, _, _, _, _] [_, _, _, _, _, _] rfl rfl rfl rfl ?_ | refine Stk.len ?_ | refine Stk.ixN (by omega) ?_ | refine Stk.ixI (by omega) (by omega) ?_ | refine Stk.ix _ (by decide) rfl ?_ | refine Stk.quo (by omega) (by omega) (by omega) ?_ | refine Stk.rem (by omega) (by omega) ?_ | refine Stk.need (by first | kernel_rfl | omega) ?_ | refine Stk.ar _ (by omega) (by omega) rfl ?_ | refine Stk.call (h := ?_) | refine Stk.callO (h := ?_) | refine Stk.divA (by decide) ?_ | refine Stk.lenA ?_ | refine Stk.wrapA ?_); all_goals (conv => whnf)
    ((refine FinK.of (h := ?_)); (repeat' (first | exact FinL.nil | refine FinL.cons ?_ ?_ | refine Fin'.tup ?_ | exact Fin'.row rfl (by first | rfl | exact all_map_closed (fun _ => rfl) _ | (rw [List.all_append, all_map_closed (fun _ => rfl)]; rfl) | (simp [closedL, PV.closed]; done)) | exact Fin'.sub rfl (.refl _) | exact Fin'.sub rfl (.nil _) | exact Fin'.sub (by first | rfl | exact all_map_closed (fun _ => rfl) _ | (rw [List.all_append, all_map_closed (fun _ => rfl)]; rfl) | (simp [closedL, PV.closed]; done)) (.refl _) | refine Fin'.vb ?_ | refine Fin'.vi ?_ | refine Fin'.agg ?_)))
  | true =>
    rw [hm] at jm
    unfold mayP at hm
    rw [Bool.and_eq_true, decide_eq_true_iff] at hm
    obtain ⟨hS, hc1, hc2, ht1, ht2⟩ := hm
    have hn := sizeB_iff.1 hS
    have hR := ring_facts hS hc1 hc2
    have hUa : ∀ x ∈ [a1, a2, a3, a4, a5, a6, a7, a8, a9], 0 ≤ x ∧ x ≤ 255 := fun x hx => hU x (List.mem_append_left _ hx)
    have hUb : ∀ x ∈ [b1, b2, b3, b4, b5, b6, b7, b8, b9], 0 ≤ x ∧ x ≤ 255 := fun x hx => hU x (List.mem_append_right _ hx)
    have ja := answers_spec n f c t a1 a2 a3 a4 a5 a6 a7 a8 a9 b1 b2 b3 b4 b5 b6 b7 b8 b9 g false hS ⟨hc1, hc2⟩ ⟨ht1, ht2⟩ hU
    have jp := playprops_spec n f c t a1 a2 a3 a4 a5 a6 a7 a8 a9 b1 b2 b3 b4 b5 b6 b7 b8 b9 g hS ⟨hc1, hc2⟩ ⟨ht1, ht2⟩ hU
    have hup := listS_up (q := ringS n f c) (by omega) (by omega) hR.2.2.2
    have hinv := anF_inv false (bitI .and .i64 g 511) c (ringS n f c) (f - 1) (anA n (ringS n f c) c t [a1, a2, a3, a4, a5, a6, a7, a8, a9] [b1, b2, b3, b4, b5, b6, b7, b8, b9]) (fun _ => rfl) (by omega) hc1 n.toNat
    rw [if_neg (by simp)] at ja
    rw [hup] at jp
    generalize anF false (bitI .and .i64 g 511) c (anA n (ringS n f c) c t [a1, a2, a3, a4, a5, a6, a7, a8, a9] [b1, b2, b3, b4, b5, b6, b7, b8, b9]) (f - 1) n.toNat = st at ja hinv
    obtain ⟨y, l⟩ := st
    dsimp only at ja
    have hlen := hinv.len
    have hlo := hinv.lo
    have hhi := hinv.hi
    dsimp only at hlen hlo hhi
    have hl9 : l.length ≤ 9 := by
      split at hlen <;> omega
    obtain ⟨k1, k2, k3, k4⟩ := play_choose (s := f - 1) hS ⟨hc1, hc2⟩ ht1 hUa hUb hR.1 hR.2.1 hup (by simp) hinv
    rw [if_neg (by simp)] at k1
    have hcm : c ∈ listS (ringS n f c) 9 := listS_at.2 ⟨hc1, by omega, hR.1⟩
    obtain ⟨m, hd, hle, -⟩ := fast_dec ht1 hUa f (ringS n f c) hcm
    have hfast := fun hv => fast_rescue hn ht1 hUa hcm hR.2.1 hup hinv hle hv
    have jd := decide_spec f (ringS n f c) ((listS (ringS n f c) 9).map (prA c t [a1, a2, a3, a4, a5, a6, a7, a8, a9])) (by rw [List.length_map]; have := listS_len (ringS n f c) 9; omega)
    rw [hd] at jd
    have jc := choose_spec n f (ringS n f c) (10 + c) l (by omega)
    rw [k1] at jc
    dsimp only at jc jd
    have jr : HasSpec Try.prog 34 [PV.int n, PV.int f, PV.int c] (PV.int (ringS n f c)) := ring_spec n f c
    by_cases hv : 1 ≤ f ∧ f ≤ (((listS (ringS n f c) 9).filter fun r => decide (prT c t [a1, a2, a3, a4, a5, a6, a7, a8, a9] r = m)).length : Nat)
    · rw [decide_eq_true hv] at jd
      rw [hfast hv.2] at jc
      generalize ringS n f c = q at *
      refine ⟨?_⟩; refine Spec.ofR (h := fun F w0 => ?_)
      repeat' ((conv => whnf); first | refine Stk.yes ?_ | refine Stk.ld rfl ?_ | refine Stk.no ?_ | refine Stk.is (by first | assumption | ((try simp only [lE]); first | done | assumption | omega)) ?_ | refine Stk.isnt (by first | assumption | ((try simp only [lE]); first | done | assumption | omega)) ?_ | (refine Stk.both (fun hb => ?_) (fun hb => ?_) <;> (try simp only [lE] at hb)) | refine Stk.wrap (by omega) (by omega) ?_ | refine Stk.wrapU (by omega) (by omega) ?_ | refine Stk.cutT (by omega) ?_ | refine Stk.cutD (by omega) ?_ | refine Stk.eqsE [_, _] [_, _] rfl rfl rfl rfl ?_ | refine Stk.eqsN [_, _] [_, _] rfl rfl rfl rfl ?_ | refine Stk.eqsE [_, _, _] [_, _, _] rfl rfl rfl rfl ?_ | refine Stk.eqsN [_, _, _] [_, _, _] rfl rfl rfl rfl ?_ | refine Stk.eqsE [_, _, _, _, _, _] [_, _, _, _, _, _] rfl rfl rfl rfl ?_ | refine Stk.eqsN [_, _, _, _, _, _] [_, _, _, _, _, _] rfl rfl rfl rfl ?_ | refine Stk.len ?_ | refine Stk.ixN (by omega) ?_ | refine Stk.ixI (by omega) (by omega) ?_ | refine Stk.ix _ (by decide) rfl ?_ | refine Stk.quo (by omega) (by omega) (by omega) ?_ | refine Stk.rem (by omega) (by omega) ?_ | refine Stk.need (by first | kernel_rfl | omega) ?_ | refine Stk.ar _ (by omega) (by omega) rfl ?_ | refine Stk.call (h := ?_) | refine Stk.callO (h := ?_) | refine Stk.divA (by decide) ?_ | refine Stk.lenA ?_ | refine Stk.wrapA ?_); all_goals (conv => whnf)
      ((refine FinK.of (h := ?_)); (repeat' (first | exact FinL.nil | refine FinL.cons ?_ ?_ | refine Fin'.tup ?_ | exact Fin'.row rfl (by first | rfl | exact all_map_closed (fun _ => rfl) _ | (rw [List.all_append, all_map_closed (fun _ => rfl)]; rfl) | (simp [closedL, PV.closed]; done)) | exact Fin'.sub rfl (.refl _) | exact Fin'.sub rfl (.nil _) | exact Fin'.sub (by first | rfl | exact all_map_closed (fun _ => rfl) _ | (rw [List.all_append, all_map_closed (fun _ => rfl)]; rfl) | (simp [closedL, PV.closed]; done)) (.refl _) | refine Fin'.vb ?_ | refine Fin'.vi ?_ | refine Fin'.agg ?_)))
    · rw [decide_eq_false hv] at jd
      generalize greatI (inQ (ringS n f c) l) = x at *
      generalize ringS n f c = q at *
      refine ⟨?_⟩; refine Spec.ofR (h := fun F w0 => ?_)
      repeat' ((conv => whnf); first | refine Stk.yes ?_ | refine Stk.ld rfl ?_ | refine Stk.no ?_ | refine Stk.is (by first | assumption | ((try simp only [lE]); first | done | assumption | omega)) ?_ | refine Stk.isnt (by first | assumption | ((try simp only [lE]); first | done | assumption | omega)) ?_ | (refine Stk.both (fun hb => ?_) (fun hb => ?_) <;> (try simp only [lE] at hb)) | refine Stk.wrap (by omega) (by omega) ?_ | refine Stk.wrapU (by omega) (by omega) ?_ | refine Stk.cutT (by omega) ?_ | refine Stk.cutD (by omega) ?_ | refine Stk.eqsE [_, _] [_, _] rfl rfl rfl rfl ?_ | refine Stk.eqsN [_, _] [_, _] rfl rfl rfl rfl ?_ | refine Stk.eqsE [_, _, _] [_, _, _] rfl rfl rfl rfl ?_ | refine Stk.eqsN [_, _, _] [_, _, _] rfl rfl rfl rfl ?_ | refine Stk.eqsE [_, _, _, _, _, _] [_, _, _, _, _, _] rfl rfl rfl rfl ?_ | refine Stk.eqsN [_, _, _, _, _, _] [_, _, _, _, _, _] rfl rfl rfl rfl ?_ | refine Stk.len ?_ | refine Stk.ixN (by omega) ?_ | refine Stk.ixI (by omega) (by omega) ?_ | refine Stk.ix _ (by decide) rfl ?_ | refine Stk.quo (by omega) (by omega) (by omega) ?_ | refine Stk.rem (by omega) (by omega) ?_ | refine Stk.need (by first | kernel_rfl | omega) ?_ | refine Stk.ar _ (by omega) (by omega) rfl ?_ | refine Stk.call (h := ?_) | refine Stk.callO (h := ?_) | refine Stk.divA (by decide) ?_ | refine Stk.lenA ?_ | refine Stk.wrapA ?_); all_goals (conv => whnf)
      ((refine FinK.of (h := ?_)); (repeat' (first | exact FinL.nil | refine FinL.cons ?_ ?_ | refine Fin'.tup ?_ | exact Fin'.row rfl (by first | rfl | exact all_map_closed (fun _ => rfl) _ | (rw [List.all_append, all_map_closed (fun _ => rfl)]; rfl) | (simp [closedL, PV.closed]; done)) | exact Fin'.sub rfl (.refl _) | exact Fin'.sub rfl (.nil _) | exact Fin'.sub (by first | rfl | exact all_map_closed (fun _ => rfl) _ | (rw [List.all_append, all_map_closed (fun _ => rfl)]; rfl) | (simp [closedL, PV.closed]; done)) (.refl _) | refine Fin'.vb ?_ | refine Fin'.vi ?_ | refine Fin'.agg ?_)))
theorem rescueFast_c (p : Play24) (h : p.ok) : HasSpec Try.prog 18 [.agg p.cs] (.v (.bool true)) := by
  obtain ⟨n, f, c, t, ab, ot, g⟩ := p
  obtain ⟨⟨h1, h2⟩, h3, h4⟩ := h
  dsimp only at h1 h2 h3 h4
  obtain ⟨a1, a2, a3, a4, a5, a6, a7, a8, a9, rfl⟩ := nine h1
  obtain ⟨b1, b2, b3, b4, b5, b6, b7, b8, b9, rfl⟩ := nine h3
  exact rescueFast_spec n f c t a1 a2 a3 a4 a5 a6 a7 a8 a9 b1 b2 b3 b4 b5 b6 b7 b8 b9 g fun x hx => (List.mem_append.1 hx).elim (h2 x) (h4 x)
end Go.Proofs.Ytlicjlahnbebcaa
