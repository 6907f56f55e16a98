/- Layer 1: the document's set. -/
import Derived.Test.YtlicjlahnbebcaaS04
namespace Go.Proofs.Ytlicjlahnbebcaa
set_option linter.unusedSimpArgs false
set_option linter.unusedVariables false
set_option linter.unusedSectionVars false
open Go.RowKit
set_option maxRecDepth 100000
set_option maxHeartbeats 1000000
instance refset_spec (l : List Int) : HasSpec Try.prog 39 [PV.ints l] (PV.int (orN l : Nat)) := by
  refine ⟨Spec.bound 0 rfl fun hl => ?_⟩; rw [List.length_map] at hl; refine Spec.ofR (h := fun F w0 => ?_)
  repeat' ((conv => whnf); first | refine Stk.yes ?_ | refine Stk.ld rfl ?_ | refine Stk.no ?_ | (refine Stk.both (fun hb => ?_) (fun hb => ?_) <;> (try simp only [lC] at hb) <;> (try (exfalso; omega))) | refine Stk.wrap (by omega) (by omega) ?_ | refine Stk.wrapU (by omega) (by omega) ?_ | refine Stk.cutT (by omega) ?_ | refine Stk.cutD (by omega) ?_ | refine Stk.eqsE [_, _] [_, _] rfl rfl rfl rfl ?_ | refine Stk.eqsN [_, _] [_, _] rfl rfl rfl rfl ?_ | refine Stk.eqsE [_, _, _] [_, _, _] rfl rfl rfl rfl ?_ | refine Stk.eqsN [_, _, _] [_, _, _] rfl rfl rfl rfl ?_ | refine Stk.eqsE [_, _, _, _, _, _] [_, _, _, _, _, _] rfl rfl rfl rfl ?_ | refine Stk.eqsN [_, _, _, _, _, _] [_, _, _, _, _, _] rfl rfl rfl rfl ?_ | refine Stk.len ?_ | refine Stk.ixN (by omega) ?_ | refine Stk.ixI (by omega) (by omega) ?_ | refine Stk.ix _ (by decide) rfl ?_ | refine Stk.quo (by omega) (by omega) (by omega) ?_ | refine Stk.rem (by omega) (by omega) ?_ | refine Stk.need (by first | kernel_rfl | omega) ?_ | refine Stk.ar _ (by omega) (by omega) rfl ?_ | refine Stk.call (h := ?_) | refine Stk.callO (h := ?_) | refine Stk.divA (by decide) ?_ | refine Stk.lenA ?_ | refine Stk.wrapA ?_); all_goals (conv => whnf)
  · refine Stk.loop (ι := Nat) (fun n => [(0, PV.ints l), (3, PV.int (setN l n : Nat)), (4, PV.int (pw n : Nat)), (5, PV.int ((n : Int) + 1))]) (fun _ => []) (fun n => n ≤ 9) (fun n => 9 - n) 0 (Nat.zero_le _) (Weak.to ⟨rfl, rfl, rfl, rfl, trivial⟩ trivial rfl) (fun n hn => ?_)
    have hlt := setN_lt l n hn
    have hp := pw_le hn
    repeat' ((conv => whnf); first | refine Stk.yes ?_ | refine Stk.ld rfl ?_ | refine Stk.no ?_ | (refine Stk.both (fun hb => ?_) (fun hb => ?_) <;> (try simp only [lC] at hb) <;> (try (exfalso; omega))) | refine Stk.wrap (by omega) (by omega) ?_ | refine Stk.wrapU (by omega) (by omega) ?_ | refine Stk.cutT (by omega) ?_ | refine Stk.cutD (by omega) ?_ | refine Stk.eqsE [_, _] [_, _] rfl rfl rfl rfl ?_ | refine Stk.eqsN [_, _] [_, _] rfl rfl rfl rfl ?_ | refine Stk.eqsE [_, _, _] [_, _, _] rfl rfl rfl rfl ?_ | refine Stk.eqsN [_, _, _] [_, _, _] rfl rfl rfl rfl ?_ | refine Stk.eqsE [_, _, _, _, _, _] [_, _, _, _, _, _] rfl rfl rfl rfl ?_ | refine Stk.eqsN [_, _, _, _, _, _] [_, _, _, _, _, _] rfl rfl rfl rfl ?_ | refine Stk.len ?_ | refine Stk.ixN (by omega) ?_ | refine Stk.ixI (by omega) (by omega) ?_ | refine Stk.ix _ (by decide) rfl ?_ | refine Stk.quo (by omega) (by omega) (by omega) ?_ | refine Stk.rem (by omega) (by omega) ?_ | refine Stk.need (by first | kernel_rfl | omega) ?_ | refine Stk.ar _ (by omega) (by omega) rfl ?_ | refine Stk.call (h := ?_) | refine Stk.callO (h := ?_) | refine Stk.divA (by decide) ?_ | refine Stk.lenA ?_ | refine Stk.wrapA ?_); all_goals (conv => whnf)
    · refine Stk.loop (ι := Nat) (fun i => [(0, PV.ints l), (3, PV.int (setN l n : Nat)), (4, PV.int (pw n : Nat)), (5, PV.int ((n : Int) + 1)), (6, PV.int (i : Nat))]) (fun _ => []) (fun i => i ≤ l.length ∧ ∀ x ∈ l.take i, x ≠ (n : Int) + 1) (fun i => l.length - i) 0 ⟨Nat.zero_le _, by simp⟩ (Weak.to ⟨rfl, rfl, rfl, rfl, rfl, trivial⟩ trivial rfl) (fun i hi => ?_)
      obtain ⟨hi, hno⟩ := hi
      repeat' ((conv => whnf); first | refine Stk.yes ?_ | refine Stk.ld rfl ?_ | refine Stk.no ?_ | (refine Stk.both (fun hb => ?_) (fun hb => ?_) <;> (try simp only [lC] at hb) <;> (try (exfalso; omega))) | refine Stk.wrap (by omega) (by omega) ?_ | refine Stk.wrapU (by omega) (by omega) ?_ | refine Stk.cutT (by omega) ?_ | refine Stk.cutD (by omega) ?_ | refine Stk.eqsE [_, _] [_, _] rfl rfl rfl rfl ?_ | refine Stk.eqsN [_, _] [_, _] rfl rfl rfl rfl ?_ | refine Stk.eqsE [_, _, _] [_, _, _] rfl rfl rfl rfl ?_ | refine Stk.eqsN [_, _, _] [_, _, _] rfl rfl rfl rfl ?_ | refine Stk.eqsE [_, _, _, _, _, _] [_, _, _, _, _, _] rfl rfl rfl rfl ?_ | refine Stk.eqsN [_, _, _, _, _, _] [_, _, _, _, _, _] rfl rfl rfl rfl ?_ | refine Stk.len ?_ | refine Stk.ixN (by omega) ?_ | refine Stk.ixI (by omega) (by omega) ?_ | refine Stk.ix _ (by decide) rfl ?_ | refine Stk.quo (by omega) (by omega) (by omega) ?_ | refine Stk.rem (by omega) (by omega) ?_ | refine Stk.need (by first | kernel_rfl | omega) ?_ | refine Stk.ar _ (by omega) (by omega) rfl ?_ | refine Stk.call (h := ?_) | refine Stk.callO (h := ?_) | refine Stk.divA (by decide) ?_ | refine Stk.lenA ?_ | refine Stk.wrapA ?_); all_goals (conv => whnf)
      · refine ⟨n + 1, by omega, by omega, ?_⟩
        have hm : (n : Int) + 1 ∈ l := ‹l[i] = (n : Int) + 1› ▸ List.getElem_mem _
        rw [setN_yes hm, pw_succ, ← Int.natCast_add]
        exact Weak.to ⟨rfl, rfl, rfl, rfl, trivial⟩ trivial rfl
      · refine ⟨i + 1, ⟨by omega, fun x hx => ?_⟩, by omega, Weak.to ⟨rfl, rfl, rfl, rfl, rfl, trivial⟩ trivial rfl⟩
        rw [take_snoc' l i (by omega), List.mem_append] at hx
        rcases hx with hx | hx
        · exact hno x hx
        · rw [List.mem_singleton] at hx; subst hx; assumption
      · refine ⟨n + 1, by omega, by omega, ?_⟩
        rw [List.take_of_length_le (by omega)] at hno
        rw [setN_no (fun h => hno _ h rfl), pw_succ]
        exact Weak.to ⟨rfl, rfl, rfl, rfl, trivial⟩ trivial rfl
    · obtain rfl : n = 9 := by omega
      rw [setN_nine]
      ((refine FinK.of (h := ?_)); (repeat' (first | exact FinL.nil | refine FinL.cons ?_ ?_ | refine Fin'.tup ?_ | exact Fin'.row rfl (by first | rfl | exact all_map_closed (fun _ => rfl) _ | (rw [List.all_append, all_map_closed (fun _ => rfl)]; rfl) | (simp [closedL, PV.closed]; done)) | exact Fin'.sub rfl (.refl _) | exact Fin'.sub rfl (.nil _) | exact Fin'.sub (by first | rfl | exact all_map_closed (fun _ => rfl) _ | (rw [List.all_append, all_map_closed (fun _ => rfl)]; rfl) | (simp [closedL, PV.closed]; done)) (.refl _) | refine Fin'.vb ?_ | refine Fin'.vi ?_ | refine Fin'.agg ?_)))
end Go.Proofs.Ytlicjlahnbebcaa
