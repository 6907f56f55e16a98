/- Layer 20: the laws EntryAcks and EntryKeeps, walked. -/
import Derived.Test.YtlicjlahnbebcaaS17
import Derived.Test.YtlicjlahnbebcaaS04
namespace Go.Proofs.Ytlicjlahnbebcaa
open Go.RowKit
set_option linter.unusedSimpArgs false
set_option linter.unusedVariables false
set_option maxRecDepth 100000
set_option maxHeartbeats 1000000
theorem one_more : ∀ m : Nat, m < 512 → ∀ k : Nat, k < 9 → m.testBit k = false → (listS ((m ||| 2 ^ k : Nat) : Int) 9).length = (listS (m : Int) 9).length + 1 := by decide +kernel
theorem ofL_snoc (l : List Ack) (a : Ack) (k b : Int) : ofL (l ++ [a]) k b = if a.kind = k ∧ a.bal = b then ofL l k b ++ [a] else ofL l k b := by
  unfold ofL
  rw [List.filter_append]
  split
  · rename_i h
    rw [List.filter_cons_of_pos (by simpa using h)]
    rfl
  · rename_i h
    rw [List.filter_cons_of_neg (by simpa using h)]
    simp
theorem who_more {e : Ent} {a : Ack} (h : ackB e a = true) : (listS (whoN (ackR e a) a.kind a.bal : Nat) 9).length = (listS (whoN e a.kind a.bal : Nat) 9).length + 1 := by
  rw [ackR_yes h]
  obtain ⟨_, _, h3, _, h5⟩ := ackB_iff.1 h
  have h4 : 1 ≤ a.fr ∧ a.fr ≤ 9 := by
    unfold ansB at h3
    rw [decide_eq_true_iff] at h3
    omega
  unfold whoN Ent.ack
  rw [ofL_snoc, if_pos ⟨rfl, rfl⟩, List.map_append, List.map_singleton, orN_snoc, if_pos (replB_iff.2 h4)]
  refine one_more _ (orN_lt _) _ (by omega) ?_
  rw [orN_bit _ _ (by omega)]
  refine decide_eq_false fun hm => ?_
  obtain ⟨x, hx, he⟩ := List.mem_map.1 hm
  unfold ofL at hx
  rw [List.mem_filter, decide_eq_true_iff] at hx
  have : hadB e.acks a = true := List.any_eq_true.2 ⟨x, hx.1, sameQ_iff.2 ⟨hx.2.1, by omega, hx.2.2⟩⟩
  rw [h5] at this
  cases this
theorem who_else {e : Ent} {a : Ack} {k b : Int} (h : ¬ (a.kind = k ∧ a.bal = b)) : whoN (ackR e a) k b = whoN e k b := by
  unfold ackR
  split
  · unfold whoN Ent.ack
    rw [ofL_snoc, if_neg h]
  · rfl
theorem ack_twice {e : Ent} {a b : Ack} (h : ackB e a = true) (hb : ackB (ackR e a) b = true) (h1 : a.kind = b.kind) (h2 : a.fr = b.fr) (h3 : a.bal = b.bal) : False := by
  rw [ackR_yes h] at hb
  obtain ⟨_, _, _, _, h5⟩ := ackB_iff.1 hb
  have : hadB (e.ack a).acks b = true := List.any_eq_true.2 ⟨a, by unfold Ent.ack; simp, sameQ_iff.2 ⟨h1, h2, h3⟩⟩
  rw [h5] at this
  cases this
theorem ack_same {e : Ent} {a : Ack} (h : ackB e a = false) : (ackR e a).same e = true := by rw [ackR_no h]; exact Ent.same_iff.2 rfl
theorem who_same {e : Ent} {a : Ack} {k t : Int} (h : ackB e a = false) : (listS (whoN (ackR e a) k t : Nat) 9).length = (listS (whoN e k t : Nat) 9).length := by rw [ackR_no h]
instance entryAcks_spec (e : Ent) (a b : Ack) : HasSpec Try.prog 15 [.agg e.cs, .agg a.cs, .agg b.cs] (.v (.bool true)) := by
  cases hf : fewB e with
  | false =>
    refine ⟨?_⟩; refine Spec.ofR (h := fun F w0 => ?_)
    repeat' ((conv => whnf); first | refine Stk.yes ?_ | refine Stk.ld rfl ?_ | refine Stk.no ?_ | refine Stk.is (by first | assumption | ((try simp only [lE]); first | done | assumption | omega)) ?_ | refine Stk.isnt (by first | assumption | ((try simp only [lE]); first | done | assumption | omega)) ?_ | (refine Stk.both (fun hb => ?_) (fun hb => ?_) <;> (try simp only [lE] at hb)) | refine Stk.wrap (by omega) (by omega) ?_ | refine Stk.wrapU (by omega) (by omega) ?_ | refine Stk.cutT (by omega) ?_ | refine Stk.cutD (by omega) ?_ | refine Stk.eqsE [_, _] [_, _] rfl rfl rfl rfl ?_ | refine Stk.eqsN [_, _] [_, _] rfl rfl rfl rfl ?_ | refine Stk.eqsE [_, _, _] [_, _, _] rfl rfl rfl rfl ?_ | refine Stk.eqsN [_, _, _] [_, _, _] rfl rfl rfl rfl ?_ | refine Stk.eqsE [_, _, _, _, _, _] [_, _, _, _, _, _] rfl rfl rfl rfl ?_ | refine Stk.eqsN [_, _, _, _, _, _] [_, _, _, _, _, _] rfl rfl rfl rfl ?_ | refine Stk.len ?_ | refine Stk.ixN (by omega) ?_ | refine Stk.ixI (by omega) (by omega) ?_ | refine Stk.ix _ (by decide) rfl ?_ | refine Stk.quo (by omega) (by omega) (by omega) ?_ | refine Stk.rem (by omega) (by omega) ?_ | refine Stk.need (by first | kernel_rfl | omega) ?_ | refine Stk.ar _ (by omega) (by omega) rfl ?_ | refine Stk.call (h := ?_) | refine Stk.callO (h := ?_) | refine Stk.divA (by decide) ?_ | refine Stk.lenA ?_ | refine Stk.wrapA ?_); all_goals (conv => whnf)
    ((refine FinK.of (h := ?_)); (repeat' (first | exact FinL.nil | refine FinL.cons ?_ ?_ | refine Fin'.tup ?_ | exact Fin'.row rfl (by first | rfl | exact all_map_closed (fun _ => rfl) _ | (rw [List.all_append, all_map_closed (fun _ => rfl)]; rfl) | (simp [closedL, PV.closed]; done)) | exact Fin'.sub rfl (.refl _) | exact Fin'.sub rfl (.nil _) | exact Fin'.sub (by first | rfl | exact all_map_closed (fun _ => rfl) _ | (rw [List.all_append, all_map_closed (fun _ => rfl)]; rfl) | (simp [closedL, PV.closed]; done)) (.refl _) | refine Fin'.vb ?_ | refine Fin'.vi ?_ | refine Fin'.agg ?_)))
  | true =>
    have hl : e.acks.length ≤ 100 := by unfold fewB at hf; simp at hf; omega
    have hl2 : (ackR e a).acks.length ≤ 1000000 := by have := ackR_len e a; omega
    have hl3 : (ackR (ackR e a) b).acks.length ≤ 1000000 := by have := ackR_len e a; have := ackR_len (ackR e a) b; omega
    have b1 := listS_len (whoN e a.kind a.bal : Nat) 9
    have i1 := fun k t => who_spec e k t (by omega)
    have i2 := fun k t => who_spec (ackR e a) k t hl2
    have i3 := fun k t => who_spec (ackR (ackR e a) b) k t hl3
    refine ⟨?_⟩; refine Spec.ofR (h := fun F w0 => ?_)
    repeat' ((conv => whnf); first | refine Stk.yes ?_ | refine Stk.ld rfl ?_ | refine Stk.no ?_ | refine Stk.is (by first | assumption | ((try simp only [lE]); first | done | assumption | omega)) ?_ | refine Stk.isnt (by first | assumption | ((try simp only [lE]); first | done | assumption | omega)) ?_ | (refine Stk.both (fun hb => ?_) (fun hb => ?_) <;> (try simp only [lE] at hb)) | refine Stk.wrap (by omega) (by omega) ?_ | refine Stk.wrapU (by omega) (by omega) ?_ | refine Stk.cutT (by omega) ?_ | refine Stk.cutD (by omega) ?_ | refine Stk.eqsE [_, _] [_, _] rfl rfl rfl rfl ?_ | refine Stk.eqsN [_, _] [_, _] rfl rfl rfl rfl ?_ | refine Stk.eqsE [_, _, _] [_, _, _] rfl rfl rfl rfl ?_ | refine Stk.eqsN [_, _, _] [_, _, _] rfl rfl rfl rfl ?_ | refine Stk.eqsE [_, _, _, _, _, _] [_, _, _, _, _, _] rfl rfl rfl rfl ?_ | refine Stk.eqsN [_, _, _, _, _, _] [_, _, _, _, _, _] rfl rfl rfl rfl ?_ | refine Stk.len ?_ | refine Stk.ixN (by omega) ?_ | refine Stk.ixI (by omega) (by omega) ?_ | refine Stk.ix _ (by decide) rfl ?_ | refine Stk.quo (by omega) (by omega) (by omega) ?_ | refine Stk.rem (by omega) (by omega) ?_ | refine Stk.need (by first | kernel_rfl | omega) ?_ | refine Stk.ar _ (by omega) (by omega) rfl ?_ | refine Stk.call (h := ?_) | refine Stk.callO (h := ?_) | refine Stk.divA (by decide) ?_ | refine Stk.lenA ?_ | refine Stk.wrapA ?_); all_goals (conv => whnf)
    (refine Stk.app rfl (eff_append rfl rfl rfl rfl (by decide) (by simp [maxLen, -Nat.not_le] <;> omega) (by simp <;> omega) rfl) ?_)
    repeat' ((conv => whnf); first | refine Stk.yes ?_ | refine Stk.ld rfl ?_ | refine Stk.no ?_ | refine Stk.is (by first | assumption | ((try simp only [lE]); first | done | assumption | omega)) ?_ | refine Stk.isnt (by first | assumption | ((try simp only [lE]); first | done | assumption | omega)) ?_ | (refine Stk.both (fun hb => ?_) (fun hb => ?_) <;> (try simp only [lE] at hb)) | refine Stk.wrap (by omega) (by omega) ?_ | refine Stk.wrapU (by omega) (by omega) ?_ | refine Stk.cutT (by omega) ?_ | refine Stk.cutD (by omega) ?_ | refine Stk.eqsE [_, _] [_, _] rfl rfl rfl rfl ?_ | refine Stk.eqsN [_, _] [_, _] rfl rfl rfl rfl ?_ | refine Stk.eqsE [_, _, _] [_, _, _] rfl rfl rfl rfl ?_ | refine Stk.eqsN [_, _, _] [_, _, _] rfl rfl rfl rfl ?_ | refine Stk.eqsE [_, _, _, _, _, _] [_, _, _, _, _, _] rfl rfl rfl rfl ?_ | refine Stk.eqsN [_, _, _, _, _, _] [_, _, _, _, _, _] rfl rfl rfl rfl ?_ | refine Stk.len ?_ | refine Stk.ixN (by omega) ?_ | refine Stk.ixI (by omega) (by omega) ?_ | refine Stk.ix _ (by decide) rfl ?_ | refine Stk.quo (by omega) (by omega) (by omega) ?_ | refine Stk.rem (by omega) (by omega) ?_ | refine Stk.need (by first | kernel_rfl | omega) ?_ | refine Stk.ar _ (by omega) (by omega) rfl ?_ | refine Stk.call (h := ?_) | refine Stk.callO (h := ?_) | refine Stk.divA (by decide) ?_ | refine Stk.lenA ?_ | refine Stk.wrapA ?_); all_goals (conv => whnf)
    refine Stk.weakC (Weak.frz (id := 18) (env' := [(36, .sl 6 (e.acks.map Ack.cs)), (35, .sl 6 (e.acks.map Ack.cs)), (3, .lp 3 0), (4, .lp 4 0), (5, .lp 5 0), (8, .lp 8 0), (9, .v (.bool (ackB e a))), (10, .lp 10 0), (11, .v (.bool (ackB (ackR e a) b)))]) (lh' := [(3, .box e.cs), (4, .box a.cs), (5, .box b.cs), (8, .box (ackR e a).cs), (10, .box (ackR (ackR e a) b).cs)]) rfl (all_map_closed (fun _ => rfl) _) ⟨.inr ⟨rfl, rfl⟩, .inl ⟨rfl, rfl⟩, .inl ⟨rfl, rfl⟩, .inl ⟨rfl, rfl⟩, .inl ⟨rfl, rfl⟩, .inl ⟨rfl, rfl⟩, .inl ⟨rfl, rfl⟩, .inl ⟨rfl, rfl⟩, .inl ⟨rfl, rfl⟩, trivial⟩ ⟨⟨by decide, rfl, rfl⟩, ⟨by decide, rfl, rfl⟩, ⟨by decide, rfl, rfl⟩, ⟨by decide, rfl, rfl⟩, ⟨by decide, rfl, rfl⟩, trivial⟩ rfl) ?_
    repeat' ((conv => whnf); first | refine Stk.yes ?_ | refine Stk.ld rfl ?_ | refine Stk.no ?_ | refine Stk.is (by first | assumption | ((try simp only [lE]); first | done | assumption | omega)) ?_ | refine Stk.isnt (by first | assumption | ((try simp only [lE]); first | done | assumption | omega)) ?_ | (refine Stk.both (fun hb => ?_) (fun hb => ?_) <;> (try simp only [lE] at hb)) | refine Stk.wrap (by omega) (by omega) ?_ | refine Stk.wrapU (by omega) (by omega) ?_ | refine Stk.cutT (by omega) ?_ | refine Stk.cutD (by omega) ?_ | refine Stk.eqsE [_, _] [_, _] rfl rfl rfl rfl ?_ | refine Stk.eqsN [_, _] [_, _] rfl rfl rfl rfl ?_ | refine Stk.eqsE [_, _, _] [_, _, _] rfl rfl rfl rfl ?_ | refine Stk.eqsN [_, _, _] [_, _, _] rfl rfl rfl rfl ?_ | refine Stk.eqsE [_, _, _, _, _, _] [_, _, _, _, _, _] rfl rfl rfl rfl ?_ | refine Stk.eqsN [_, _, _, _, _, _] [_, _, _, _, _, _] rfl rfl rfl rfl ?_ | refine Stk.len ?_ | refine Stk.ixN (by omega) ?_ | refine Stk.ixI (by omega) (by omega) ?_ | refine Stk.ix _ (by decide) rfl ?_ | refine Stk.quo (by omega) (by omega) (by omega) ?_ | refine Stk.rem (by omega) (by omega) ?_ | refine Stk.need (by first | kernel_rfl | omega) ?_ | refine Stk.ar _ (by omega) (by omega) rfl ?_ | refine Stk.call (h := ?_) | refine Stk.callO (h := ?_) | refine Stk.divA (by decide) ?_ | refine Stk.lenA ?_ | refine Stk.wrapA ?_); all_goals (conv => whnf)
    all_goals first | (((refine FinK.of (h := ?_)); (repeat' (first | exact FinL.nil | refine FinL.cons ?_ ?_ | refine Fin'.tup ?_ | exact Fin'.row rfl (by first | rfl | exact all_map_closed (fun _ => rfl) _ | (rw [List.all_append, all_map_closed (fun _ => rfl)]; rfl) | (simp [closedL, PV.closed]; done)) | exact Fin'.sub rfl (.refl _) | exact Fin'.sub rfl (.nil _) | exact Fin'.sub (by first | rfl | exact all_map_closed (fun _ => rfl) _ | (rw [List.all_append, all_map_closed (fun _ => rfl)]; rfl) | (simp [closedL, PV.closed]; done)) (.refl _) | refine Fin'.vb ?_ | refine Fin'.vi ?_ | refine Fin'.agg ?_))); all_goals rfl; done) | skip
    all_goals exfalso
    all_goals first | (cases (ack_same ‹ackB e a = false›).symm.trans ‹(ackR e a).same e = false›; done) | (cases (ack_same ‹ackB (ackR e a) b = false›).symm.trans ‹(ackR (ackR e a) b).same (ackR e a) = false›; done) | (have := who_same (k := a.kind) (t := a.bal) ‹ackB e a = false›; omega) | (have := who_more ‹ackB e a = true›; omega) | (have := who_else (e := ackR e a) (a := b) (k := a.kind) (b := a.bal) (by omega); omega) | exact ack_twice ‹ackB e a = true› ‹ackB (ackR e a) b = true› ‹a.kind = b.kind› ‹a.fr = b.fr› ‹a.bal = b.bal›
end Go.Proofs.Ytlicjlahnbebcaa
