/- Layer 20: the document's check of a command. -/
import Derived.Test.YtlicjlahnbebcaaS13
namespace Go.Proofs.Ytlicjlahnbebcaa
set_option linter.unusedSectionVars false
open Go.RowKit
set_option linter.unusedSimpArgs false
set_option linter.unusedVariables false
set_option maxRecDepth 100000
set_option maxHeartbeats 1000000
theorem self_zero {id : Int} : (selfI id = 0) = (idB id = false) := by
  unfold selfI
  apply propext
  cases h : idB id with
  | false => simp
  | true =>
    have := idB_iff.1 h
    simp
    omega
theorem acksB_len {l : List Ack} (h : acksB l = true) : l.length ≤ 27 := by
  unfold acksB at h
  rw [Bool.and_eq_true, decide_eq_true_iff] at h
  exact h.2
theorem self_bad {e : Ent} (h : selfI e.id = 0) : entB e = false := entB_not (by rintro ⟨h1, _⟩; rw [self_zero.mp h] at h1; cases h1)
theorem acks_bad {e : Ent} (h : acksB e.acks = false) : entB e = false := entB_not (by rintro ⟨_, _, _, _, _, _, _, _, h1, _⟩; rw [h] at h1; cases h1)
theorem ent_bad {e : Ent} (h : ¬ (1 ≤ e.phase ∧ e.phase ≤ 6 ∧ 1 ≤ e.quorum ∧ e.quorum ≤ 511 ∧ e.payload.size ≤ 300 ∧ (0 ≤ e.t ∧ e.t ≤ 1000000 ∧ 0 ≤ e.bal ∧ e.bal ≤ 1000000 ∧ 0 ≤ e.abal ∧ e.abal ≤ e.bal ∧ 0 ≤ e.seen ∧ e.seen ≤ 1000000 ∧ 0 ≤ e.age ∧ e.age ≤ 1000000) ∧ ((2 ≤ e.phase ∧ e.phase ≤ 4 ∨ e.phase = 5 ∨ e.phase = 6 ∨ 0 < e.abal ↔ 0 < e.t) ∧ (0 < e.abal ∨ e.phase = 5 ∨ e.phase = 6 ∨ (0 < e.bal ↔ e.phase = 3 ∨ e.phase = 4))) ∧ e.acks.length ≤ 27 ∧ (e.phase < 5 ∨ e.acks.length = 0))) : entB e = false :=
  entB_not (by rintro ⟨h1, h2, h3, h4, h5, h6, h7, h8, h9, h10⟩; exact h ⟨h2, h3, h4, h5, h6, numB_iff.1 h7, toldB_iff.1 h8, acksB_len h9, h10⟩)
theorem ent_good {e : Ent} (h0 : ¬ selfI e.id = 0) (h1 : acksB e.acks = true) (h : (1 ≤ e.phase ∧ e.phase ≤ 6 ∧ 1 ≤ e.quorum ∧ e.quorum ≤ 511 ∧ e.payload.size ≤ 300 ∧ (0 ≤ e.t ∧ e.t ≤ 1000000 ∧ 0 ≤ e.bal ∧ e.bal ≤ 1000000 ∧ 0 ≤ e.abal ∧ e.abal ≤ e.bal ∧ 0 ≤ e.seen ∧ e.seen ≤ 1000000 ∧ 0 ≤ e.age ∧ e.age ≤ 1000000) ∧ ((2 ≤ e.phase ∧ e.phase ≤ 4 ∨ e.phase = 5 ∨ e.phase = 6 ∨ 0 < e.abal ↔ 0 < e.t) ∧ (0 < e.abal ∨ e.phase = 5 ∨ e.phase = 6 ∨ (0 < e.bal ↔ e.phase = 3 ∨ e.phase = 4))) ∧ (e.phase < 5 ∨ e.acks.length = 0))) : entB e = true := by
  obtain ⟨h2, h3, h4, h5, h6, h7, h8, h10⟩ := h
  refine entB_iff.2 ⟨?_, h2, h3, h4, h5, h6, numB_iff.2 h7, toldB_iff.2 h8, h1, h10⟩
  cases x : idB e.id with
  | true => rfl
  | false => exact absurd (self_zero.mpr x) h0
instance refentcheck_spec (e : Ent) : HasSpec Try.prog 69 [.agg e.cs] (PV.int (errI (entB e) 2)) := by
  refine ⟨?_⟩; refine Spec.ofR (h := fun F w0 => ?_)
  repeat' ((conv => whnf); first | refine Stk.yes ?_ | refine Stk.ld rfl ?_ | refine Stk.no ?_ | refine Stk.is (by first | assumption | ((try simp only [lD]); first | done | assumption | omega)) ?_ | refine Stk.isnt (by first | assumption | ((try simp only [lD]); first | done | assumption | omega)) ?_ | (refine Stk.both (fun hb => ?_) (fun hb => ?_) <;> (try simp only [lD] at hb)) | refine Stk.wrap (by omega) (by omega) ?_ | refine Stk.wrapU (by omega) (by omega) ?_ | refine Stk.cutT (by omega) ?_ | refine Stk.cutD (by omega) ?_ | refine Stk.eqsE [_, _] [_, _] rfl rfl rfl rfl ?_ | refine Stk.eqsN [_, _] [_, _] rfl rfl rfl rfl ?_ | refine Stk.eqsE [_, _, _] [_, _, _] rfl rfl rfl rfl ?_ | refine Stk.eqsN [_, _, _] [_, _, _] rfl rfl rfl rfl ?_ | refine Stk.eqsE [_, _, _, _, _, _] [_, _, _, _, _, _] rfl rfl rfl rfl ?_ | refine Stk.eqsN [_, _, _, _, _, _] [_, _, _, _, _, _] rfl rfl rfl rfl ?_ | refine Stk.len ?_ | refine Stk.ixN (by omega) ?_ | refine Stk.ixI (by omega) (by omega) ?_ | refine Stk.ix _ (by decide) rfl ?_ | refine Stk.quo (by omega) (by omega) (by omega) ?_ | refine Stk.rem (by omega) (by omega) ?_ | refine Stk.need (by first | kernel_rfl | omega) ?_ | refine Stk.ar _ (by omega) (by omega) rfl ?_ | refine Stk.call (h := ?_) | refine Stk.callO (h := ?_) | refine Stk.divA (by decide) ?_ | refine Stk.lenA ?_ | refine Stk.wrapA ?_); all_goals (conv => whnf)
  all_goals first | (((refine FinK.of (h := ?_)); (repeat' (first | exact FinL.nil | refine FinL.cons ?_ ?_ | refine Fin'.tup ?_ | exact Fin'.row rfl (by first | rfl | exact all_map_closed (fun _ => rfl) _ | (rw [List.all_append, all_map_closed (fun _ => rfl)]; rfl) | (simp [closedL, PV.closed]; done)) | exact Fin'.sub rfl (.refl _) | exact Fin'.sub rfl (.nil _) | exact Fin'.sub (by first | rfl | exact all_map_closed (fun _ => rfl) _ | (rw [List.all_append, all_map_closed (fun _ => rfl)]; rfl) | (simp [closedL, PV.closed]; done)) (.refl _) | refine Fin'.vb ?_ | refine Fin'.vi ?_ | refine Fin'.agg ?_))); first | (rw [errI_f (self_bad ‹_›)]; done) | (rw [errI_f (ent_bad (by omega))]; done)) | skip
  all_goals (refine Stk.loop (ι := Nat) (fun i => [(1, .lp 1 0), (5, PV.int (i : Nat))]) (fun _ => [(1, .box e.cs)]) (fun i => i ≤ e.acks.length ∧ acksTo e.acks i = true ∧ (e.phase < 5 ∨ i = 0)) (fun i => e.acks.length - i) 0 ⟨Nat.zero_le _, rfl, .inr rfl⟩ (Weak.gc ⟨rfl, rfl, trivial⟩ ⟨rfl, trivial⟩ rfl rfl rfl) (fun i hi => ?_); obtain ⟨hi, hto, hph⟩ := hi)
  all_goals repeat' ((conv => whnf); first | refine Stk.yes ?_ | refine Stk.ld rfl ?_ | refine Stk.no ?_ | refine Stk.is (by first | assumption | ((try simp only [lD]); first | done | assumption | omega)) ?_ | refine Stk.isnt (by first | assumption | ((try simp only [lD]); first | done | assumption | omega)) ?_ | (refine Stk.both (fun hb => ?_) (fun hb => ?_) <;> (try simp only [lD] at hb)) | refine Stk.wrap (by omega) (by omega) ?_ | refine Stk.wrapU (by omega) (by omega) ?_ | refine Stk.cutT (by omega) ?_ | refine Stk.cutD (by omega) ?_ | refine Stk.eqsE [_, _] [_, _] rfl rfl rfl rfl ?_ | refine Stk.eqsN [_, _] [_, _] rfl rfl rfl rfl ?_ | refine Stk.eqsE [_, _, _] [_, _, _] rfl rfl rfl rfl ?_ | refine Stk.eqsN [_, _, _] [_, _, _] rfl rfl rfl rfl ?_ | refine Stk.eqsE [_, _, _, _, _, _] [_, _, _, _, _, _] rfl rfl rfl rfl ?_ | refine Stk.eqsN [_, _, _, _, _, _] [_, _, _, _, _, _] rfl rfl rfl rfl ?_ | refine Stk.len ?_ | refine Stk.ixN (by omega) ?_ | refine Stk.ixI (by omega) (by omega) ?_ | refine Stk.ix _ (by decide) rfl ?_ | refine Stk.quo (by omega) (by omega) (by omega) ?_ | refine Stk.rem (by omega) (by omega) ?_ | refine Stk.need (by first | kernel_rfl | omega) ?_ | refine Stk.ar _ (by omega) (by omega) rfl ?_ | refine Stk.call (h := ?_) | refine Stk.callO (h := ?_) | refine Stk.divA (by decide) ?_ | refine Stk.lenA ?_ | refine Stk.wrapA ?_); all_goals (conv => whnf)
  all_goals first | exact ⟨i + 1, ⟨by omega, acksTo_next (by omega) hto ‹_› ‹_›, .inl (by omega)⟩, by omega, Weak.gc ⟨rfl, rfl, trivial⟩ ⟨rfl, trivial⟩ rfl rfl rfl⟩ | (((refine FinK.of (h := ?_)); (repeat' (first | exact FinL.nil | refine FinL.cons ?_ ?_ | refine Fin'.tup ?_ | exact Fin'.row rfl (by first | rfl | exact all_map_closed (fun _ => rfl) _ | (rw [List.all_append, all_map_closed (fun _ => rfl)]; rfl) | (simp [closedL, PV.closed]; done)) | exact Fin'.sub rfl (.refl _) | exact Fin'.sub rfl (.nil _) | exact Fin'.sub (by first | rfl | exact all_map_closed (fun _ => rfl) _ | (rw [List.all_append, all_map_closed (fun _ => rfl)]; rfl) | (simp [closedL, PV.closed]; done)) (.refl _) | refine Fin'.vb ?_ | refine Fin'.vi ?_ | refine Fin'.agg ?_))); first | (rw [errI_f (acks_bad (acksB_no (i := i) (by omega) (.inl ‹_›)))]; done) | (rw [errI_f (acks_bad (acksB_no (i := i) (by omega) (.inr ‹_›)))]; done) | (rw [errI_f (ent_bad (by omega))]; done) | (rw [errI_t (ent_good ‹_› (by rw [← acksB_end (by omega) hto, tst_true]; omega) (by omega))]; done))
end Go.Proofs.Ytlicjlahnbebcaa
