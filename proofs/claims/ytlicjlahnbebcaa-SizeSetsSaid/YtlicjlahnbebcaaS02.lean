/- Layer 1: sets of replicas. -/
import Derived.Test.YtlicjlahnbebcaaS01
namespace Go.Proofs.Ytlicjlahnbebcaa
open Go.RowKit
set_option maxRecDepth 100000
set_option maxHeartbeats 1000000
instance set_spec (l : List Int) : HasSpec Try.prog 38 [PV.ints l] (PV.int (orN l : Nat)) := by
  refine ⟨Spec.bound 0 rfl fun hl => ?_⟩; rw [List.length_map] at hl; refine Spec.ofR (h := fun F w0 => ?_)
  repeat' ((conv => whnf); first | refine Stk.yes ?_ | refine Stk.ld rfl ?_ | refine Stk.no ?_ | (refine Stk.both (fun hb => ?_) (fun hb => ?_) <;> (try simp only [lC] at hb) <;> (try (exfalso; omega))) | refine Stk.wrap (by omega) (by omega) ?_ | refine Stk.wrapU (by omega) (by omega) ?_ | refine Stk.len ?_ | refine Stk.ixN (by omega) ?_ | refine Stk.ixI (by omega) (by omega) ?_ | refine Stk.ix _ (by decide) rfl ?_ | refine Stk.quo (by omega) (by omega) (by omega) ?_ | refine Stk.rem (by omega) (by omega) ?_ | refine Stk.need (by first | kernel_rfl | omega) ?_ | refine Stk.ar _ (by omega) (by omega) rfl ?_ | refine Stk.call (h := ?_) | refine Stk.callO (h := ?_) | refine Stk.divA (by decide) ?_ | refine Stk.lenA ?_ | refine Stk.wrapA ?_); all_goals (conv => whnf)
  · refine Stk.loop (ι := Nat) (fun i => [(6, PV.ints l), (7, PV.int (l.length : Nat)), (8, PV.int (i : Nat)), (3, PV.int (orN (l.take i) : Nat))]) (fun _ => []) (fun i => i ≤ l.length) (fun i => l.length - i) 0 (Nat.zero_le _) (Weak.to ⟨rfl, rfl, rfl, rfl, trivial⟩ trivial rfl) (fun n hn => ?_)
    have hlt := orN_lt (l.take n)
    repeat' ((conv => whnf); first | refine Stk.yes ?_ | refine Stk.ld rfl ?_ | refine Stk.no ?_ | (refine Stk.both (fun hb => ?_) (fun hb => ?_) <;> (try simp only [lC] at hb) <;> (try (exfalso; omega))) | refine Stk.wrap (by omega) (by omega) ?_ | refine Stk.wrapU (by omega) (by omega) ?_ | refine Stk.len ?_ | refine Stk.ixN (by omega) ?_ | refine Stk.ixI (by omega) (by omega) ?_ | refine Stk.ix _ (by decide) rfl ?_ | refine Stk.quo (by omega) (by omega) (by omega) ?_ | refine Stk.rem (by omega) (by omega) ?_ | refine Stk.need (by first | kernel_rfl | omega) ?_ | refine Stk.ar _ (by omega) (by omega) rfl ?_ | refine Stk.call (h := ?_) | refine Stk.callO (h := ?_) | refine Stk.divA (by decide) ?_ | refine Stk.lenA ?_ | refine Stk.wrapA ?_); all_goals (conv => whnf)
    · refine ⟨n + 1, by omega, by omega, ?_⟩
      rw [or_step _ hlt _ (by omega) (by omega), take_snoc' l n (by omega), orN_snoc, if_pos (replB_iff.2 (by omega))]
      exact Weak.to ⟨rfl, rfl, rfl, rfl, trivial⟩ trivial rfl
    · refine ⟨n + 1, by omega, by omega, ?_⟩
      rw [take_snoc' l n (by omega), orN_snoc, if_neg (by simp_all)]
      exact Weak.to ⟨rfl, rfl, rfl, rfl, trivial⟩ trivial rfl
    · rw [List.take_of_length_le (by omega)]
      (refine FinK.of (h := ?_)); repeat' (first | exact FinL.nil | refine FinL.cons ?_ ?_ | refine Fin'.tup ?_ | exact Fin'.row rfl (by first | rfl | exact all_map_closed (fun _ => rfl) _ | (simp [closedL, PV.closed]; done)) | exact Fin'.sub rfl (.refl _) | exact Fin'.sub rfl (.nil _) | refine Fin'.vb ?_ | refine Fin'.vi ?_ | refine Fin'.agg ?_)
instance set1_spec (x : Int) : HasSpec Try.prog 38 [.sl 1 [[PV.int x]]] (PV.int (orN [x] : Nat)) := set_spec [x]
theorem take_self {α : Type} (l : List α) : l.take l.length = l := List.take_length
instance list_spec (set : Int) : HasSpec Try.prog 43 [PV.int set] (PV.ints (listS set 9)) := by
  refine ⟨?_⟩; refine Spec.ofR (h := fun F w0 => ?_)
  repeat' ((conv => whnf); first | refine Stk.yes ?_ | refine Stk.ld rfl ?_ | refine Stk.no ?_ | (refine Stk.both (fun hb => ?_) (fun hb => ?_) <;> (try simp only [lC] at hb) <;> (try (exfalso; omega))) | refine Stk.wrap (by omega) (by omega) ?_ | refine Stk.wrapU (by omega) (by omega) ?_ | refine Stk.len ?_ | refine Stk.ixN (by omega) ?_ | refine Stk.ixI (by omega) (by omega) ?_ | refine Stk.ix _ (by decide) rfl ?_ | refine Stk.quo (by omega) (by omega) (by omega) ?_ | refine Stk.rem (by omega) (by omega) ?_ | refine Stk.need (by first | kernel_rfl | omega) ?_ | refine Stk.ar _ (by omega) (by omega) rfl ?_ | refine Stk.call (h := ?_) | refine Stk.callO (h := ?_) | refine Stk.divA (by decide) ?_ | refine Stk.lenA ?_ | refine Stk.wrapA ?_); all_goals (conv => whnf)
  · refine Stk.loop (ι := Nat × Nat) (fun i => [(0, PV.int set), (3, .row 3 i.2), (5, PV.int (i.1 : Nat))]) (fun i => [(3, .row 3 1 i.2 ((listS set i.1).map ics))]) (fun i => i.1 ≤ 9) (fun i => 9 - i.1) (0, 0) (Nat.zero_le _) (Weak.trans (Weak.nilrow (t := 3) (id := 3) (rt := 3) (sz := 1) rfl rfl) (Weak.to ⟨rfl, rfl, rfl, trivial⟩ ⟨rfl, trivial⟩ rfl)) (fun ⟨n, ver⟩ hn => ?_)
    have hll := listS_len set n
    simp only at hn
    repeat' ((conv => whnf); first | refine Stk.yes ?_ | refine Stk.ld rfl ?_ | refine Stk.no ?_ | (refine Stk.both (fun hb => ?_) (fun hb => ?_) <;> (try simp only [lC] at hb) <;> (try (exfalso; omega))) | refine Stk.wrap (by omega) (by omega) ?_ | refine Stk.wrapU (by omega) (by omega) ?_ | refine Stk.len ?_ | refine Stk.ixN (by omega) ?_ | refine Stk.ixI (by omega) (by omega) ?_ | refine Stk.ix _ (by decide) rfl ?_ | refine Stk.quo (by omega) (by omega) (by omega) ?_ | refine Stk.rem (by omega) (by omega) ?_ | refine Stk.need (by first | kernel_rfl | omega) ?_ | refine Stk.ar _ (by omega) (by omega) rfl ?_ | refine Stk.call (h := ?_) | refine Stk.callO (h := ?_) | refine Stk.divA (by decide) ?_ | refine Stk.lenA ?_ | refine Stk.wrapA ?_); all_goals (conv => whnf)
    · (refine Stk.app rfl (eff_append rfl rfl rfl rfl (by decide) (by simp [maxLen, -Nat.not_le] <;> omega) (by simp <;> omega) rfl) ?_)
      repeat' ((conv => whnf); first | refine Stk.yes ?_ | refine Stk.ld rfl ?_ | refine Stk.no ?_ | (refine Stk.both (fun hb => ?_) (fun hb => ?_) <;> (try simp only [lC] at hb) <;> (try (exfalso; omega))) | refine Stk.wrap (by omega) (by omega) ?_ | refine Stk.wrapU (by omega) (by omega) ?_ | refine Stk.len ?_ | refine Stk.ixN (by omega) ?_ | refine Stk.ixI (by omega) (by omega) ?_ | refine Stk.ix _ (by decide) rfl ?_ | refine Stk.quo (by omega) (by omega) (by omega) ?_ | refine Stk.rem (by omega) (by omega) ?_ | refine Stk.need (by first | kernel_rfl | omega) ?_ | refine Stk.ar _ (by omega) (by omega) rfl ?_ | refine Stk.call (h := ?_) | refine Stk.callO (h := ?_) | refine Stk.divA (by decide) ?_ | refine Stk.lenA ?_ | refine Stk.wrapA ?_); all_goals (conv => whnf)
      refine ⟨(n + 1, ver + 1), by simp; omega, by simp; omega, ?_⟩
      rw [listS_succ, if_pos ‹_›, List.map_append]
      exact Weak.to ⟨rfl, rfl, rfl, trivial⟩ ⟨rfl, trivial⟩ rfl
    · refine ⟨(n + 1, ver), by simp; omega, by simp; omega, ?_⟩
      rw [listS_succ, if_neg (by simp_all)]
      exact Weak.to ⟨rfl, rfl, rfl, trivial⟩ ⟨rfl, trivial⟩ rfl
    · obtain rfl : n = 9 := by omega
      (refine FinK.of (h := ?_)); repeat' (first | exact FinL.nil | refine FinL.cons ?_ ?_ | refine Fin'.tup ?_ | exact Fin'.row rfl (by first | rfl | exact all_map_closed (fun _ => rfl) _ | (simp [closedL, PV.closed]; done)) | exact Fin'.sub rfl (.refl _) | exact Fin'.sub rfl (.nil _) | refine Fin'.vb ?_ | refine Fin'.vi ?_ | refine Fin'.agg ?_)
def w64 (a : Int) : Int := IntKind.u64.wrap a
def pop64 (x0 : Int) : Int :=
  let x1 := w64 (bitI .and .u64 (x0.fdiv 2) 6148914691236517205 + bitI .and .u64 x0 6148914691236517205)
  let x2 := w64 (bitI .and .u64 (x1.fdiv 4) 3689348814741910323 + bitI .and .u64 x1 3689348814741910323)
  let x3 := bitI .and .u64 (w64 (x2.fdiv 16 + x2)) 1085102592571150095
  let x4 := w64 (x3 + x3.fdiv 256)
  let x5 := w64 (x4 + x4.fdiv 65536)
  let x6 := w64 (x5 + x5.fdiv 4294967296)
  bitI .and .i64 (IntKind.i64.wrap x6) 127
instance pop64_spec (x : Int) : HasSpec Try.prog 144 [.v (.int .u64 x)] (PV.int (pop64 x)) := by
  refine ⟨?_⟩; refine Spec.ofR (h := fun F w0 => ?_)
  repeat' ((conv => whnf); first | refine Stk.yes ?_ | refine Stk.ld rfl ?_ | refine Stk.no ?_ | (refine Stk.both (fun hb => ?_) (fun hb => ?_) <;> (try simp only [lC] at hb) <;> (try (exfalso; omega))) | refine Stk.wrap (by omega) (by omega) ?_ | refine Stk.wrapU (by omega) (by omega) ?_ | refine Stk.len ?_ | refine Stk.ixN (by omega) ?_ | refine Stk.ixI (by omega) (by omega) ?_ | refine Stk.ix _ (by decide) rfl ?_ | refine Stk.quo (by omega) (by omega) (by omega) ?_ | refine Stk.rem (by omega) (by omega) ?_ | refine Stk.need (by first | kernel_rfl | omega) ?_ | refine Stk.ar _ (by omega) (by omega) rfl ?_ | refine Stk.call (h := ?_) | refine Stk.callO (h := ?_) | refine Stk.divA (by decide) ?_ | refine Stk.lenA ?_ | refine Stk.wrapA ?_); all_goals (conv => whnf)
  (refine FinK.of (h := ?_)); repeat' (first | exact FinL.nil | refine FinL.cons ?_ ?_ | refine Fin'.tup ?_ | exact Fin'.row rfl (by first | rfl | exact all_map_closed (fun _ => rfl) _ | (simp [closedL, PV.closed]; done)) | exact Fin'.sub rfl (.refl _) | exact Fin'.sub rfl (.nil _) | refine Fin'.vb ?_ | refine Fin'.vi ?_ | refine Fin'.agg ?_)
instance pop_spec (x : Int) : HasSpec Try.prog 95 [.v (.int .u64 x)] (PV.int (pop64 x)) := by
  refine ⟨?_⟩; refine Spec.ofR (h := fun F w0 => ?_)
  repeat' ((conv => whnf); first | refine Stk.yes ?_ | refine Stk.ld rfl ?_ | refine Stk.no ?_ | (refine Stk.both (fun hb => ?_) (fun hb => ?_) <;> (try simp only [lC] at hb) <;> (try (exfalso; omega))) | refine Stk.wrap (by omega) (by omega) ?_ | refine Stk.wrapU (by omega) (by omega) ?_ | refine Stk.len ?_ | refine Stk.ixN (by omega) ?_ | refine Stk.ixI (by omega) (by omega) ?_ | refine Stk.ix _ (by decide) rfl ?_ | refine Stk.quo (by omega) (by omega) (by omega) ?_ | refine Stk.rem (by omega) (by omega) ?_ | refine Stk.need (by first | kernel_rfl | omega) ?_ | refine Stk.ar _ (by omega) (by omega) rfl ?_ | refine Stk.call (h := ?_) | refine Stk.callO (h := ?_) | refine Stk.divA (by decide) ?_ | refine Stk.lenA ?_ | refine Stk.wrapA ?_); all_goals (conv => whnf)
  (refine FinK.of (h := ?_)); repeat' (first | exact FinL.nil | refine FinL.cons ?_ ?_ | refine Fin'.tup ?_ | exact Fin'.row rfl (by first | rfl | exact all_map_closed (fun _ => rfl) _ | (simp [closedL, PV.closed]; done)) | exact Fin'.sub rfl (.refl _) | exact Fin'.sub rfl (.nil _) | refine Fin'.vb ?_ | refine Fin'.vi ?_ | refine Fin'.agg ?_)
theorem pop_all : ∀ n : Nat, n < 512 → pop64 (n : Int) = ((listS n 9).length : Int) := by decide +kernel
instance count_spec (set : Int) : HasSpec Try.prog 41 [PV.int set] (PV.int ((listS set 9).length : Int)) := by
  refine ⟨?_⟩; refine Spec.ofR (h := fun F w0 => ?_)
  repeat' ((conv => whnf); first | refine Stk.yes ?_ | refine Stk.ld rfl ?_ | refine Stk.no ?_ | (refine Stk.both (fun hb => ?_) (fun hb => ?_) <;> (try simp only [lC] at hb) <;> (try (exfalso; omega))) | refine Stk.wrap (by omega) (by omega) ?_ | refine Stk.wrapU (by omega) (by omega) ?_ | refine Stk.len ?_ | refine Stk.ixN (by omega) ?_ | refine Stk.ixI (by omega) (by omega) ?_ | refine Stk.ix _ (by decide) rfl ?_ | refine Stk.quo (by omega) (by omega) (by omega) ?_ | refine Stk.rem (by omega) (by omega) ?_ | refine Stk.need (by first | kernel_rfl | omega) ?_ | refine Stk.ar _ (by omega) (by omega) rfl ?_ | refine Stk.call (h := ?_) | refine Stk.callO (h := ?_) | refine Stk.divA (by decide) ?_ | refine Stk.lenA ?_ | refine Stk.wrapA ?_); all_goals (conv => whnf)
  all_goals ((refine FinK.of (h := ?_)); repeat' (first | exact FinL.nil | refine FinL.cons ?_ ?_ | refine Fin'.tup ?_ | exact Fin'.row rfl (by first | rfl | exact all_map_closed (fun _ => rfl) _ | (simp [closedL, PV.closed]; done)) | exact Fin'.sub rfl (.refl _) | exact Fin'.sub rfl (.nil _) | refine Fin'.vb ?_ | refine Fin'.vi ?_ | refine Fin'.agg ?_))
  · rw [listS_no ‹_›]; rfl
  · obtain ⟨n, rfl⟩ := Int.eq_ofNat_of_zero_le (show 0 ≤ set by omega)
    exact pop_all n (by omega)
end Go.Proofs.Ytlicjlahnbebcaa
