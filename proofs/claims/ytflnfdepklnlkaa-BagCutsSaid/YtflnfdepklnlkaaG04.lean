/- Layer 14: the laws' helpers; awake; the law BagTells, walked. -/
import Derived.Test.YtflnfdepklnlkaaG03
namespace Go.Proofs.Ytflnfdepklnlkaa
set_option linter.unusedSectionVars false
open Go.RowKit
set_option linter.unusedSimpArgs false
set_option linter.unusedVariables false
set_option maxRecDepth 100000
set_option maxHeartbeats 1000000
theorem HasSpec.sub {P : Program} {g : FuncId} {qs ps : List PV} {r : PV} (h : SubL qs ps) (hs : HasSpec P g ps r) : HasSpec P g qs r := ⟨⟨hs.h.enters, fun F w vs hF hv => hs.h.run F w vs hF (SubL.rep h hv)⟩⟩
def fewFli (l : List Fli) : Bool := decide (l.length ≤ 200) && l.all fun f => decide (f.data.size ≤ 3000)
theorem fewFli_parts {l : List Fli} (h : fewFli l = true) : l.length ≤ 200 := by
  unfold fewFli at h
  rw [Bool.and_eq_true, decide_eq_true_iff] at h
  exact h.1
instance few14_spec (l : List Fli) : HasSpec Try.prog 6 [PV.bag l] (.v (.bool (fewFli l))) := by
  by_cases h20 : l.length ≤ 200
  · refine ⟨Spec.bound 0 rfl fun hl => ?_⟩; rw [List.length_map] at hl; refine Spec.ofR (h := fun F w0 => ?_)
    repeat' ((conv => whnf); first | refine Q.a ?_ | refine Q.b ?_ | refine Q.c ?_ | refine Stk.is (by first | assumption | ((try simp only [lC]); first | done | assumption | omega)) ?_ | refine Stk.isnt (by first | assumption | ((try simp only [lC]); first | done | assumption | omega)) ?_ | (refine Stk.both (fun hb => ?_) (fun hb => ?_) <;> (try simp only [lC] at hb)) | refine Q.d ?_ | refine Q.e ?_ | refine Q.f ?_ | refine Q.g ?_ | refine Q.h ?_ | refine Q.i ?_ | refine Q.j ?_ | refine Q.k ?_ | refine Q.l ?_ | refine Q.m ?_ | refine Q.n ?_ | refine Q.o (h := ?_) | refine Q.p (h := ?_) | refine Q.q ?_ | refine Q.r ?_ | refine Q.s ?_ | refine Q.t ?_ | refine Q.u ?_ | refine Q.v ?_ | refine Q.w ?_ | refine Q.x ?_ | refine Q.y ?_ | refine Q.z ?_); all_goals (conv => whnf)
    refine Stk.loop (ι := Nat) (fun i => [(0, PV.bag l), (3, PV.int (i : Nat))]) (fun _ => []) (fun i => i ≤ l.length ∧ ∀ f ∈ l.take i, (!decide (f.data.size ≤ 3000)) = false) (fun i => l.length - i) 0 ⟨Nat.zero_le _, by simp⟩ (Weak.gc ⟨rfl, rfl, trivial⟩ trivial rfl rfl rfl) (fun i hi => ?_)
    obtain ⟨hi, hno⟩ := hi
    by_cases hlt : i < l.length
    · by_cases hr : l[i].data.size ≤ 3000
      · repeat' ((conv => whnf); first | refine Q.a ?_ | refine Q.b ?_ | refine Q.c ?_ | refine Stk.is (by first | assumption | ((try simp only [lC]); first | done | assumption | omega)) ?_ | refine Stk.isnt (by first | assumption | ((try simp only [lC]); first | done | assumption | omega)) ?_ | (refine Stk.both (fun hb => ?_) (fun hb => ?_) <;> (try simp only [lC] at hb)) | refine Q.d ?_ | refine Q.e ?_ | refine Q.f ?_ | refine Q.g ?_ | refine Q.h ?_ | refine Q.i ?_ | refine Q.j ?_ | refine Q.k ?_ | refine Q.l ?_ | refine Q.m ?_ | refine Q.n ?_ | refine Q.o (h := ?_) | refine Q.p (h := ?_) | refine Q.q ?_ | refine Q.r ?_ | refine Q.s ?_ | refine Q.t ?_ | refine Q.u ?_ | refine Q.v ?_ | refine Q.w ?_ | refine Q.x ?_ | refine Q.y ?_ | refine Q.z ?_); all_goals (conv => whnf)
        exact ⟨i + 1, ⟨by omega, take_no hlt hno (by rw [decide_eq_true hr]; rfl)⟩, by omega, Weak.gc ⟨rfl, rfl, trivial⟩ trivial rfl rfl rfl⟩
      · rw [show fewFli l = false by unfold fewFli; rw [show (l.all fun f => decide (f.data.size ≤ 3000)) = false from List.all_eq_false.2 ⟨l[i], List.getElem_mem hlt, by rw [decide_eq_false hr]; simp⟩, Bool.and_false]]
        repeat' ((conv => whnf); first | refine Q.a ?_ | refine Q.b ?_ | refine Q.c ?_ | refine Stk.is (by first | assumption | ((try simp only [lC]); first | done | assumption | omega)) ?_ | refine Stk.isnt (by first | assumption | ((try simp only [lC]); first | done | assumption | omega)) ?_ | (refine Stk.both (fun hb => ?_) (fun hb => ?_) <;> (try simp only [lC] at hb)) | refine Q.d ?_ | refine Q.e ?_ | refine Q.f ?_ | refine Q.g ?_ | refine Q.h ?_ | refine Q.i ?_ | refine Q.j ?_ | refine Q.k ?_ | refine Q.l ?_ | refine Q.m ?_ | refine Q.n ?_ | refine Q.o (h := ?_) | refine Q.p (h := ?_) | refine Q.q ?_ | refine Q.r ?_ | refine Q.s ?_ | refine Q.t ?_ | refine Q.u ?_ | refine Q.v ?_ | refine Q.w ?_ | refine Q.x ?_ | refine Q.y ?_ | refine Q.z ?_); all_goals (conv => whnf)
        ((refine FinK.of (h := ?_)); (repeat' (first | exact FinL.nil | refine FinL.cons ?_ ?_ | refine Fin'.tup ?_ | exact Q.f3 | exact Q.f4 | exact Q.f5 | exact Q.f6 | refine Fin'.vb ?_ | refine Fin'.vi ?_ | refine Fin'.agg ?_)))
    · rw [show fewFli l = true by
        unfold fewFli
        rw [decide_eq_true h20, show (l.all fun f => decide (f.data.size ≤ 3000)) = true from List.all_eq_true.2 fun r hr => by simpa using take_all (by omega) hno r hr]
        rfl]
      repeat' ((conv => whnf); first | refine Q.a ?_ | refine Q.b ?_ | refine Q.c ?_ | refine Stk.is (by first | assumption | ((try simp only [lC]); first | done | assumption | omega)) ?_ | refine Stk.isnt (by first | assumption | ((try simp only [lC]); first | done | assumption | omega)) ?_ | (refine Stk.both (fun hb => ?_) (fun hb => ?_) <;> (try simp only [lC] at hb)) | refine Q.d ?_ | refine Q.e ?_ | refine Q.f ?_ | refine Q.g ?_ | refine Q.h ?_ | refine Q.i ?_ | refine Q.j ?_ | refine Q.k ?_ | refine Q.l ?_ | refine Q.m ?_ | refine Q.n ?_ | refine Q.o (h := ?_) | refine Q.p (h := ?_) | refine Q.q ?_ | refine Q.r ?_ | refine Q.s ?_ | refine Q.t ?_ | refine Q.u ?_ | refine Q.v ?_ | refine Q.w ?_ | refine Q.x ?_ | refine Q.y ?_ | refine Q.z ?_); all_goals (conv => whnf)
      ((refine FinK.of (h := ?_)); (repeat' (first | exact FinL.nil | refine FinL.cons ?_ ?_ | refine Fin'.tup ?_ | exact Q.f3 | exact Q.f4 | exact Q.f5 | exact Q.f6 | refine Fin'.vb ?_ | refine Fin'.vi ?_ | refine Fin'.agg ?_)))
  · rw [show fewFli l = false by unfold fewFli; rw [decide_eq_false h20]; rfl]
    refine ⟨Spec.bound 0 rfl fun hl => ?_⟩; rw [List.length_map] at hl; refine Spec.ofR (h := fun F w0 => ?_)
    repeat' ((conv => whnf); first | refine Q.a ?_ | refine Q.b ?_ | refine Q.c ?_ | refine Stk.is (by first | assumption | ((try simp only [lC]); first | done | assumption | omega)) ?_ | refine Stk.isnt (by first | assumption | ((try simp only [lC]); first | done | assumption | omega)) ?_ | (refine Stk.both (fun hb => ?_) (fun hb => ?_) <;> (try simp only [lC] at hb)) | refine Q.d ?_ | refine Q.e ?_ | refine Q.f ?_ | refine Q.g ?_ | refine Q.h ?_ | refine Q.i ?_ | refine Q.j ?_ | refine Q.k ?_ | refine Q.l ?_ | refine Q.m ?_ | refine Q.n ?_ | refine Q.o (h := ?_) | refine Q.p (h := ?_) | refine Q.q ?_ | refine Q.r ?_ | refine Q.s ?_ | refine Q.t ?_ | refine Q.u ?_ | refine Q.v ?_ | refine Q.w ?_ | refine Q.x ?_ | refine Q.y ?_ | refine Q.z ?_); all_goals (conv => whnf)
    ((refine FinK.of (h := ?_)); (repeat' (first | exact FinL.nil | refine FinL.cons ?_ ?_ | refine Fin'.tup ?_ | exact Q.f3 | exact Q.f4 | exact Q.f5 | exact Q.f6 | refine Fin'.vb ?_ | refine Fin'.vi ?_ | refine Fin'.agg ?_)))
instance of14_spec (f : Fli) : HasSpec Try.prog 14 [.agg f.cs] (.agg f.cs) := by
  refine ⟨?_⟩; refine Spec.ofR (h := fun F w0 => ?_)
  repeat' ((conv => whnf); first | refine Q.a ?_ | refine Q.b ?_ | refine Q.c ?_ | refine Stk.is (by first | assumption | ((try simp only [lC]); first | done | assumption | omega)) ?_ | refine Stk.isnt (by first | assumption | ((try simp only [lC]); first | done | assumption | omega)) ?_ | (refine Stk.both (fun hb => ?_) (fun hb => ?_) <;> (try simp only [lC] at hb)) | refine Q.d ?_ | refine Q.e ?_ | refine Q.f ?_ | refine Q.g ?_ | refine Q.h ?_ | refine Q.i ?_ | refine Q.j ?_ | refine Q.k ?_ | refine Q.l ?_ | refine Q.m ?_ | refine Q.n ?_ | refine Q.o (h := ?_) | refine Q.p (h := ?_) | refine Q.q ?_ | refine Q.r ?_ | refine Q.s ?_ | refine Q.t ?_ | refine Q.u ?_ | refine Q.v ?_ | refine Q.w ?_ | refine Q.x ?_ | refine Q.y ?_ | refine Q.z ?_); all_goals (conv => whnf)
  ((refine FinK.of (h := ?_)); (repeat' (first | exact FinL.nil | refine FinL.cons ?_ ?_ | refine Fin'.tup ?_ | exact Q.f3 | exact Q.f4 | exact Q.f5 | exact Q.f6 | refine Fin'.vb ?_ | refine Fin'.vi ?_ | refine Fin'.agg ?_)))
theorem all14_spec (l : List Fli) (hl0 : l.length ≤ 1000) : HasSpec Try.prog 10 [PV.bag l] (PV.bag l) := by
  refine ⟨?_⟩; refine Spec.ofR (h := fun F w0 => ?_)
  repeat' ((conv => whnf); first | refine Q.a ?_ | refine Q.b ?_ | refine Q.c ?_ | refine Stk.is (by first | assumption | ((try simp only [lC]); first | done | assumption | omega)) ?_ | refine Stk.isnt (by first | assumption | ((try simp only [lC]); first | done | assumption | omega)) ?_ | (refine Stk.both (fun hb => ?_) (fun hb => ?_) <;> (try simp only [lC] at hb)) | refine Q.d ?_ | refine Q.e ?_ | refine Q.f ?_ | refine Q.g ?_ | refine Q.h ?_ | refine Q.i ?_ | refine Q.j ?_ | refine Q.k ?_ | refine Q.l ?_ | refine Q.m ?_ | refine Q.n ?_ | refine Q.o (h := ?_) | refine Q.p (h := ?_) | refine Q.q ?_ | refine Q.r ?_ | refine Q.s ?_ | refine Q.t ?_ | refine Q.u ?_ | refine Q.v ?_ | refine Q.w ?_ | refine Q.x ?_ | refine Q.y ?_ | refine Q.z ?_); all_goals (conv => whnf)
  refine Stk.loop (ι := Nat) (fun i => [(0, PV.bag l), (3, .row 3 i), (4, PV.int (i : Nat))]) (fun i => [(3, .row 37 3 i ((l.take i).map Fli.cs))]) (fun i => i ≤ l.length) (fun i => l.length - i) 0 (Nat.zero_le _) (Weak.trans (Weak.nilrow (t := 3) (id := 3) (rt := 37) (sz := 3) rfl rfl) (Weak.gc ⟨rfl, rfl, rfl, trivial⟩ ⟨rfl, trivial⟩ rfl rfl rfl)) (fun i hi => ?_)
  by_cases hlt : i < l.length
  · have hs := take_snocG l i hlt
    have htl : (l.take i).length ≤ 1000 := by rw [List.length_take]; omega
    generalize hT : l.take i = T at *
    repeat' ((conv => whnf); first | refine Q.a ?_ | refine Q.b ?_ | refine Q.c ?_ | refine Stk.is (by first | assumption | ((try simp only [lC]); first | done | assumption | omega)) ?_ | refine Stk.isnt (by first | assumption | ((try simp only [lC]); first | done | assumption | omega)) ?_ | (refine Stk.both (fun hb => ?_) (fun hb => ?_) <;> (try simp only [lC] at hb)) | refine Q.d ?_ | refine Q.e ?_ | refine Q.f ?_ | refine Q.g ?_ | refine Q.h ?_ | refine Q.i ?_ | refine Q.j ?_ | refine Q.k ?_ | refine Q.l ?_ | refine Q.m ?_ | refine Q.n ?_ | refine Q.o (h := ?_) | refine Q.p (h := ?_) | refine Q.q ?_ | refine Q.r ?_ | refine Q.s ?_ | refine Q.t ?_ | refine Q.u ?_ | refine Q.v ?_ | refine Q.w ?_ | refine Q.x ?_ | refine Q.y ?_ | refine Q.z ?_); all_goals (conv => whnf)
    (refine Stk.app rfl Q.app ?_)
    repeat' ((conv => whnf); first | refine Q.a ?_ | refine Q.b ?_ | refine Q.c ?_ | refine Stk.is (by first | assumption | ((try simp only [lC]); first | done | assumption | omega)) ?_ | refine Stk.isnt (by first | assumption | ((try simp only [lC]); first | done | assumption | omega)) ?_ | (refine Stk.both (fun hb => ?_) (fun hb => ?_) <;> (try simp only [lC] at hb)) | refine Q.d ?_ | refine Q.e ?_ | refine Q.f ?_ | refine Q.g ?_ | refine Q.h ?_ | refine Q.i ?_ | refine Q.j ?_ | refine Q.k ?_ | refine Q.l ?_ | refine Q.m ?_ | refine Q.n ?_ | refine Q.o (h := ?_) | refine Q.p (h := ?_) | refine Q.q ?_ | refine Q.r ?_ | refine Q.s ?_ | refine Q.t ?_ | refine Q.u ?_ | refine Q.v ?_ | refine Q.w ?_ | refine Q.x ?_ | refine Q.y ?_ | refine Q.z ?_); all_goals (conv => whnf)
    refine ⟨i + 1, by omega, by omega, ?_⟩
    rw [hs]
    exact Weak.gc ⟨rfl, rfl, rfl, trivial⟩ ⟨by rw [List.map_append]; rfl, trivial⟩ rfl (onlyH_row (fun _ => rfl) rfl) rfl
  · rw [show l.take i = l from List.take_of_length_le (by omega)]
    repeat' ((conv => whnf); first | refine Q.a ?_ | refine Q.b ?_ | refine Q.c ?_ | refine Stk.is (by first | assumption | ((try simp only [lC]); first | done | assumption | omega)) ?_ | refine Stk.isnt (by first | assumption | ((try simp only [lC]); first | done | assumption | omega)) ?_ | (refine Stk.both (fun hb => ?_) (fun hb => ?_) <;> (try simp only [lC] at hb)) | refine Q.d ?_ | refine Q.e ?_ | refine Q.f ?_ | refine Q.g ?_ | refine Q.h ?_ | refine Q.i ?_ | refine Q.j ?_ | refine Q.k ?_ | refine Q.l ?_ | refine Q.m ?_ | refine Q.n ?_ | refine Q.o (h := ?_) | refine Q.p (h := ?_) | refine Q.q ?_ | refine Q.r ?_ | refine Q.s ?_ | refine Q.t ?_ | refine Q.u ?_ | refine Q.v ?_ | refine Q.w ?_ | refine Q.x ?_ | refine Q.y ?_ | refine Q.z ?_); all_goals (conv => whnf)
    ((refine FinK.of (h := ?_)); (repeat' (first | exact FinL.nil | refine FinL.cons ?_ ?_ | refine Fin'.tup ?_ | exact Q.f3 | exact Q.f4 | exact Q.f5 | exact Q.f6 | refine Fin'.vb ?_ | refine Fin'.vi ?_ | refine Fin'.agg ?_)))
theorem take_eqF {a b : List Fli} {i : Nat} (h : a.take i = b.take i) (ha : i < a.length) (hb : i < b.length) (e : a[i] = b[i]) : a.take (i + 1) = b.take (i + 1) := by
  rw [take_snocG a i ha, take_snocG b i hb, h, e]
instance refsame14_spec (a b : List Fli) : HasSpec Try.prog 19 [PV.bag a, PV.bag b] (.v (.bool (tst (a = b)))) := by
  by_cases hl0 : a.length = b.length
  · have hll : (a.length : Int) = (b.length : Nat) := by rw [hl0]
    refine ⟨Spec.bound 0 rfl fun hl => ?_⟩; rw [List.length_map] at hl; refine Spec.ofR (h := fun F w0 => ?_)
    repeat' ((conv => whnf); first | refine Q.a ?_ | refine Q.b ?_ | refine Q.c ?_ | refine Stk.is (by first | assumption | ((try simp only [lC]); first | done | assumption | omega)) ?_ | refine Stk.isnt (by first | assumption | ((try simp only [lC]); first | done | assumption | omega)) ?_ | (refine Stk.both (fun hb => ?_) (fun hb => ?_) <;> (try simp only [lC] at hb)) | refine Q.d ?_ | refine Q.e ?_ | refine Q.f ?_ | refine Q.g ?_ | refine Q.h ?_ | refine Q.i ?_ | refine Q.j ?_ | refine Q.k ?_ | refine Q.l ?_ | refine Q.m ?_ | refine Q.n ?_ | refine Q.o (h := ?_) | refine Q.p (h := ?_) | refine Q.q ?_ | refine Q.r ?_ | refine Q.s ?_ | refine Q.t ?_ | refine Q.u ?_ | refine Q.v ?_ | refine Q.w ?_ | refine Q.x ?_ | refine Q.y ?_ | refine Q.z ?_); all_goals (conv => whnf)
    refine Stk.loop (ι := Nat) (fun i => [(0, PV.bag a), (1, PV.bag b), (5, PV.int (i : Nat))]) (fun _ => []) (fun i => i ≤ a.length ∧ a.take i = b.take i) (fun i => a.length - i) 0 ⟨Nat.zero_le _, by simp⟩ (Weak.gc ⟨rfl, rfl, rfl, trivial⟩ trivial rfl rfl rfl) (fun i hi => ?_)
    obtain ⟨hi, he⟩ := hi
    by_cases hlt : i < a.length
    · have hb : i < b.length := by omega
      by_cases hq : a[i] = b[i]
      · have hs : a[i].sv = b[i].sv := by rw [hq]
        repeat' ((conv => whnf); first | refine Q.a ?_ | refine Q.b ?_ | refine Q.c ?_ | refine Stk.is (by first | assumption | ((try simp only [lC]); first | done | assumption | omega)) ?_ | refine Stk.isnt (by first | assumption | ((try simp only [lC]); first | done | assumption | omega)) ?_ | (refine Stk.both (fun hb => ?_) (fun hb => ?_) <;> (try simp only [lC] at hb)) | refine Q.d ?_ | refine Q.e ?_ | refine Q.f ?_ | refine Q.g ?_ | refine Q.h ?_ | refine Q.i ?_ | refine Q.j ?_ | refine Q.k ?_ | refine Q.l ?_ | refine Q.m ?_ | refine Q.n ?_ | refine Q.o (h := ?_) | refine Q.p (h := ?_) | refine Q.q ?_ | refine Q.r ?_ | refine Q.s ?_ | refine Q.t ?_ | refine Q.u ?_ | refine Q.v ?_ | refine Q.w ?_ | refine Q.x ?_ | refine Q.y ?_ | refine Q.z ?_); all_goals (conv => whnf)
        refine Stk.eqSN a[i].sv b[i].sv (h := ?_)
        repeat' ((conv => whnf); first | refine Q.a ?_ | refine Q.b ?_ | refine Q.c ?_ | refine Stk.is (by first | assumption | ((try simp only [lC]); first | done | assumption | omega)) ?_ | refine Stk.isnt (by first | assumption | ((try simp only [lC]); first | done | assumption | omega)) ?_ | (refine Stk.both (fun hb => ?_) (fun hb => ?_) <;> (try simp only [lC] at hb)) | refine Q.d ?_ | refine Q.e ?_ | refine Q.f ?_ | refine Q.g ?_ | refine Q.h ?_ | refine Q.i ?_ | refine Q.j ?_ | refine Q.k ?_ | refine Q.l ?_ | refine Q.m ?_ | refine Q.n ?_ | refine Q.o (h := ?_) | refine Q.p (h := ?_) | refine Q.q ?_ | refine Q.r ?_ | refine Q.s ?_ | refine Q.t ?_ | refine Q.u ?_ | refine Q.v ?_ | refine Q.w ?_ | refine Q.x ?_ | refine Q.y ?_ | refine Q.z ?_); all_goals (conv => whnf)
        exact ⟨i + 1, ⟨by omega, take_eqF he hlt hb hq⟩, by omega, Weak.gc ⟨rfl, rfl, rfl, trivial⟩ trivial rfl rfl rfl⟩
      · have hs : ¬ a[i].sv = b[i].sv := fun h => hq (Fli.sv_inj.1 h)
        rw [show tst (a = b) = false from tst_false.2 (fun e => hq (by subst e; rfl))]
        repeat' ((conv => whnf); first | refine Q.a ?_ | refine Q.b ?_ | refine Q.c ?_ | refine Stk.is (by first | assumption | ((try simp only [lC]); first | done | assumption | omega)) ?_ | refine Stk.isnt (by first | assumption | ((try simp only [lC]); first | done | assumption | omega)) ?_ | (refine Stk.both (fun hb => ?_) (fun hb => ?_) <;> (try simp only [lC] at hb)) | refine Q.d ?_ | refine Q.e ?_ | refine Q.f ?_ | refine Q.g ?_ | refine Q.h ?_ | refine Q.i ?_ | refine Q.j ?_ | refine Q.k ?_ | refine Q.l ?_ | refine Q.m ?_ | refine Q.n ?_ | refine Q.o (h := ?_) | refine Q.p (h := ?_) | refine Q.q ?_ | refine Q.r ?_ | refine Q.s ?_ | refine Q.t ?_ | refine Q.u ?_ | refine Q.v ?_ | refine Q.w ?_ | refine Q.x ?_ | refine Q.y ?_ | refine Q.z ?_); all_goals (conv => whnf)
        refine Stk.eqSN a[i].sv b[i].sv (h := ?_)
        repeat' ((conv => whnf); first | refine Q.a ?_ | refine Q.b ?_ | refine Q.c ?_ | refine Stk.is (by first | assumption | ((try simp only [lC]); first | done | assumption | omega)) ?_ | refine Stk.isnt (by first | assumption | ((try simp only [lC]); first | done | assumption | omega)) ?_ | (refine Stk.both (fun hb => ?_) (fun hb => ?_) <;> (try simp only [lC] at hb)) | refine Q.d ?_ | refine Q.e ?_ | refine Q.f ?_ | refine Q.g ?_ | refine Q.h ?_ | refine Q.i ?_ | refine Q.j ?_ | refine Q.k ?_ | refine Q.l ?_ | refine Q.m ?_ | refine Q.n ?_ | refine Q.o (h := ?_) | refine Q.p (h := ?_) | refine Q.q ?_ | refine Q.r ?_ | refine Q.s ?_ | refine Q.t ?_ | refine Q.u ?_ | refine Q.v ?_ | refine Q.w ?_ | refine Q.x ?_ | refine Q.y ?_ | refine Q.z ?_); all_goals (conv => whnf)
        ((refine FinK.of (h := ?_)); (repeat' (first | exact FinL.nil | refine FinL.cons ?_ ?_ | refine Fin'.tup ?_ | exact Q.f3 | exact Q.f4 | exact Q.f5 | exact Q.f6 | refine Fin'.vb ?_ | refine Fin'.vi ?_ | refine Fin'.agg ?_)))
    · rw [List.take_of_length_le (by omega), List.take_of_length_le (by omega)] at he
      rw [show tst (a = b) = true from tst_true.2 he]
      repeat' ((conv => whnf); first | refine Q.a ?_ | refine Q.b ?_ | refine Q.c ?_ | refine Stk.is (by first | assumption | ((try simp only [lC]); first | done | assumption | omega)) ?_ | refine Stk.isnt (by first | assumption | ((try simp only [lC]); first | done | assumption | omega)) ?_ | (refine Stk.both (fun hb => ?_) (fun hb => ?_) <;> (try simp only [lC] at hb)) | refine Q.d ?_ | refine Q.e ?_ | refine Q.f ?_ | refine Q.g ?_ | refine Q.h ?_ | refine Q.i ?_ | refine Q.j ?_ | refine Q.k ?_ | refine Q.l ?_ | refine Q.m ?_ | refine Q.n ?_ | refine Q.o (h := ?_) | refine Q.p (h := ?_) | refine Q.q ?_ | refine Q.r ?_ | refine Q.s ?_ | refine Q.t ?_ | refine Q.u ?_ | refine Q.v ?_ | refine Q.w ?_ | refine Q.x ?_ | refine Q.y ?_ | refine Q.z ?_); all_goals (conv => whnf)
      ((refine FinK.of (h := ?_)); (repeat' (first | exact FinL.nil | refine FinL.cons ?_ ?_ | refine Fin'.tup ?_ | exact Q.f3 | exact Q.f4 | exact Q.f5 | exact Q.f6 | refine Fin'.vb ?_ | refine Fin'.vi ?_ | refine Fin'.agg ?_)))
  · rw [show tst (a = b) = false from tst_false.2 (fun e => hl0 (by rw [e]))]
    have hll : ¬ (a.length : Int) = (b.length : Nat) := by omega
    refine ⟨Spec.bound 0 rfl fun hl => ?_⟩; rw [List.length_map] at hl; refine Spec.ofR (h := fun F w0 => ?_)
    repeat' ((conv => whnf); first | refine Q.a ?_ | refine Q.b ?_ | refine Q.c ?_ | refine Stk.is (by first | assumption | ((try simp only [lC]); first | done | assumption | omega)) ?_ | refine Stk.isnt (by first | assumption | ((try simp only [lC]); first | done | assumption | omega)) ?_ | (refine Stk.both (fun hb => ?_) (fun hb => ?_) <;> (try simp only [lC] at hb)) | refine Q.d ?_ | refine Q.e ?_ | refine Q.f ?_ | refine Q.g ?_ | refine Q.h ?_ | refine Q.i ?_ | refine Q.j ?_ | refine Q.k ?_ | refine Q.l ?_ | refine Q.m ?_ | refine Q.n ?_ | refine Q.o (h := ?_) | refine Q.p (h := ?_) | refine Q.q ?_ | refine Q.r ?_ | refine Q.s ?_ | refine Q.t ?_ | refine Q.u ?_ | refine Q.v ?_ | refine Q.w ?_ | refine Q.x ?_ | refine Q.y ?_ | refine Q.z ?_); all_goals (conv => whnf)
    ((refine FinK.of (h := ?_)); (repeat' (first | exact FinL.nil | refine FinL.cons ?_ ?_ | refine Fin'.tup ?_ | exact Q.f3 | exact Q.f4 | exact Q.f5 | exact Q.f6 | refine Fin'.vb ?_ | refine Fin'.vi ?_ | refine Fin'.agg ?_)))
def fA : Fli := ⟨1, 2, ⟨#[97]⟩⟩
def fB : Fli := ⟨3, 1, ⟨#[98]⟩⟩
def fC : Fli := ⟨1, 1, ⟨#[]⟩⟩
instance awake14_spec : HasSpec Try.prog 7 [] (.v (.bool true)) := by
  have n1 : (([fA, fB] : List Fli).length : Int) = 2 := rfl
  have n2 : (([fB] : List Fli).length : Int) = 1 := rfl
  have n3 : (([fA, fB, fB] : List Fli).length : Int) = 3 := rfl
  have j1 : HasSpec Try.prog 18 [.v (.slice none 0 0), .agg [PV.int 1, PV.int 2, .v (.string ⟨#[97]⟩)]] (.tup [PV.bag [fA], PV.int 0]) := by
    have h := HasSpec.sub (.cons (.nil 3) (.cons (.refl _) .nil)) (bagsend_spec [] fA)
    have e : sendE [] fA = 0 := by decide
    rw [show sendL [] fA = [fA] from if_pos e, e] at h
    exact h
  have j2 : HasSpec Try.prog 18 [PV.bag [fA], .agg [PV.int 3, PV.int 1, .v (.string ⟨#[98]⟩)]] (.tup [PV.bag [fA, fB], PV.int 0]) := by
    have h := bagsend_spec [fA] fB
    have e : sendE [fA] fB = 0 := by decide
    rw [show sendL [fA] fB = [fA, fB] from if_pos e, e] at h
    exact h
  have j3 : HasSpec Try.prog 18 [PV.bag [fA, fB], .agg [PV.int 1, PV.int 1, .v (.string ⟨#[]⟩)]] (.tup [PV.bag [], PV.int 2]) := by
    have h := bagsend_spec [fA, fB] fC
    have e : sendE [fA, fB] fC = 2 := by decide
    rw [show sendL [fA, fB] fC = [] from if_neg (by rw [e]; decide), e] at h
    exact h
  have j4 : HasSpec Try.prog 20 [PV.bag [fA, fB], PV.int 0] (.tup [.agg [PV.int 1, PV.int 2, .v (.string ⟨#[97]⟩)], PV.bag [fB], PV.int 0]) := by
    have h := bagtake_spec [fA, fB] 0
    have e : takeE [fA, fB] 0 = 0 := by decide
    rw [show takeF [fA, fB] 0 = fA from if_pos e, show takeL [fA, fB] 0 = [fB] from if_pos e, e] at h
    exact h
  have j5 : HasSpec Try.prog 21 [PV.bag [fA, fB], PV.int 1] (.tup [PV.bag [fA, fB, fB], PV.int 0]) := by
    have h := bagcopy_spec [fA, fB] 1
    have e0 : takeE [fA, fB] 1 = 0 := by decide
    have ef : takeF [fA, fB] 1 = fB := if_pos e0
    have e : sendE [fA, fB] fB = 0 := by decide
    rw [show copyL [fA, fB] 1 = [fA, fB, fB] from (if_neg (by rw [e0]; decide)).trans (by rw [ef]; exact if_pos e), show copyE [fA, fB] 1 = 0 from (if_neg (by rw [e0]; decide)).trans (by rw [ef]; exact e)] at h
    exact h
  have j6 : HasSpec Try.prog 20 [PV.bag [fA, fB], PV.int 2] (.tup [.agg Fli.zero.cs, PV.bag [], PV.int 31]) := by
    have h := bagtake_spec [fA, fB] 2
    have e : takeE [fA, fB] 2 = 31 := by decide
    rw [show takeF [fA, fB] 2 = Fli.zero from if_neg (by rw [e]; decide), show takeL [fA, fB] 2 = [] from if_neg (by rw [e]; decide), e] at h
    exact h
  have j7 : HasSpec Try.prog 8 [PV.bag [fA, fB], PV.int 2] (.tup [PV.int 1, .v (.bool true)]) := by
    have h := bagnext_spec [fA, fB] 2
    rw [show max (idxF (openF 2) [fA, fB]) 0 = 1 by decide, show nextB 2 [fA, fB] = true by decide] at h
    exact h
  have j8 : HasSpec Try.prog 11 [PV.bag [fA, fB], PV.int 2] (.tup [PV.int 1, PV.int 1]) := by
    have h := bagcount_spec [fA, fB] 2
    rw [show ([fA, fB] : List Fli).countP (openF 2) = 1 by decide] at h
    exact h
  have j9 : HasSpec Try.prog 16 [PV.bag [fA, fB, fB], PV.int 3, PV.int 1] (PV.ints [1, 2]) := by
    have h := baglink_spec [fA, fB, fB] 3 1 (by decide)
    rw [show linkN 3 1 [fA, fB, fB] ([fA, fB, fB] : List Fli).length = [1, 2] by decide] at h
    exact h
  have j10 : HasSpec Try.prog 15 [PV.ints [1, 2], .sl 1 [[PV.int 1], [PV.int 2]]] (.v (.bool true)) := refsame_spec [1, 2] [1, 2]
  have g11 : openF 2 (([fA, fB] : List Fli)[Int.toNat 0]'(by decide)) = false := by decide
  have g12 : openF 3 (([fA, fB] : List Fli)[Int.toNat 0]'(by decide)) = true := by decide
  have j13 : HasSpec Try.prog 22 [PV.bag [fA, fB]] (PV.int 0) := by
    have h := bagcheck_spec [fA, fB]
    rw [show bagE [fA, fB] = 0 by decide] at h
    exact h
  refine ⟨?_⟩; refine Spec.ofR (h := fun F w0 => ?_)
  repeat' ((conv => whnf); first | refine Q.a ?_ | refine Q.b ?_ | refine Q.c ?_ | refine Stk.is (by first | assumption | ((try simp only [lC]); first | done | assumption | omega)) ?_ | refine Stk.isnt (by first | assumption | ((try simp only [lC]); first | done | assumption | omega)) ?_ | (refine Stk.both (fun hb => ?_) (fun hb => ?_) <;> (try simp only [lC] at hb)) | refine Q.d ?_ | refine Q.e ?_ | refine Q.f ?_ | refine Q.g ?_ | refine Q.h ?_ | refine Q.i ?_ | refine Q.j ?_ | refine Q.k ?_ | refine Q.l ?_ | refine Q.m ?_ | refine Q.n ?_ | refine Q.o (h := ?_) | refine Q.p (h := ?_) | refine Q.q ?_ | refine Q.r ?_ | refine Q.s ?_ | refine Q.t ?_ | refine Q.u ?_ | refine Q.v ?_ | refine Q.w ?_ | refine Q.x ?_ | refine Q.y ?_ | refine Q.z ?_); all_goals (conv => whnf)
  ((refine FinK.of (h := ?_)); (repeat' (first | exact FinL.nil | refine FinL.cons ?_ ?_ | refine Fin'.tup ?_ | exact Q.f3 | exact Q.f4 | exact Q.f5 | exact Q.f6 | refine Fin'.vb ?_ | refine Fin'.vi ?_ | refine Fin'.agg ?_)))
  exact tst_true.2 rfl
theorem bagTells_spec (l : List Fli) (cut a b : Int) : HasSpec Try.prog 3 [PV.bag l, PV.int cut, .agg [PV.int a, PV.int b]] (.v (.bool true)) := by
  have jf := few14_spec l
  cases hf : fewFli l with
  | false =>
    rw [hf] at jf
    refine ⟨?_⟩; refine Spec.ofR (h := fun F w0 => ?_)
    repeat' ((conv => whnf); first | refine Q.a ?_ | refine Q.b ?_ | refine Q.c ?_ | refine Stk.is (by first | assumption | ((try simp only [lC]); first | done | assumption | omega)) ?_ | refine Stk.isnt (by first | assumption | ((try simp only [lC]); first | done | assumption | omega)) ?_ | (refine Stk.both (fun hb => ?_) (fun hb => ?_) <;> (try simp only [lC] at hb)) | refine Q.d ?_ | refine Q.e ?_ | refine Q.f ?_ | refine Q.g ?_ | refine Q.h ?_ | refine Q.i ?_ | refine Q.j ?_ | refine Q.k ?_ | refine Q.l ?_ | refine Q.m ?_ | refine Q.n ?_ | refine Q.o (h := ?_) | refine Q.p (h := ?_) | refine Q.q ?_ | refine Q.r ?_ | refine Q.s ?_ | refine Q.t ?_ | refine Q.u ?_ | refine Q.v ?_ | refine Q.w ?_ | refine Q.x ?_ | refine Q.y ?_ | refine Q.z ?_); all_goals (conv => whnf)
    ((refine FinK.of (h := ?_)); (repeat' (first | exact FinL.nil | refine FinL.cons ?_ ?_ | refine Fin'.tup ?_ | exact Q.f3 | exact Q.f4 | exact Q.f5 | exact Q.f6 | refine Fin'.vb ?_ | refine Fin'.vi ?_ | refine Fin'.agg ?_)))
  | true =>
    rw [hf] at jf
    have hl := fewFli_parts hf
    have ja := all14_spec l (by omega)
    have jk1 := baglink_spec l a b (by omega)
    have jk2 := reflink_spec l a b (by omega)
    have js := refsame_spec (linkN a b l l.length) (linkN a b l l.length)
    rw [decide_eq_true rfl] at js
    have jn1 := bagnext_spec l cut
    have jn2 := refnext_spec l cut
    generalize max (idxF (openF cut) l) 0 = k at *
    generalize nextB cut l = nb at *
    refine ⟨?_⟩; refine Spec.ofR (h := fun F w0 => ?_)
    repeat' ((conv => whnf); first | refine Q.a ?_ | refine Q.b ?_ | refine Q.c ?_ | refine Stk.is (by first | assumption | ((try simp only [lC]); first | done | assumption | omega)) ?_ | refine Stk.isnt (by first | assumption | ((try simp only [lC]); first | done | assumption | omega)) ?_ | (refine Stk.both (fun hb => ?_) (fun hb => ?_) <;> (try simp only [lC] at hb)) | refine Q.d ?_ | refine Q.e ?_ | refine Q.f ?_ | refine Q.g ?_ | refine Q.h ?_ | refine Q.i ?_ | refine Q.j ?_ | refine Q.k ?_ | refine Q.l ?_ | refine Q.m ?_ | refine Q.n ?_ | refine Q.o (h := ?_) | refine Q.p (h := ?_) | refine Q.q ?_ | refine Q.r ?_ | refine Q.s ?_ | refine Q.t ?_ | refine Q.u ?_ | refine Q.v ?_ | refine Q.w ?_ | refine Q.x ?_ | refine Q.y ?_ | refine Q.z ?_); all_goals (conv => whnf)
    refine Stk.loop (ι := Nat) (fun i => [(0, PV.bag l), (1, PV.int cut), (5, .lp 5 0), (7, PV.int k), (8, .v (.bool nb)), (9, PV.int k), (10, .v (.bool nb)), (11, PV.int (l.countP (openF cut) : Nat)), (12, PV.int ((l.length : Int) - (l.countP (openF cut) : Nat))), (13, PV.int ((l.take i).countP (openF cut) : Nat)), (14, PV.int (i : Nat))]) (fun _ => [(5, .box [PV.int a, PV.int b])]) (fun i => i ≤ l.length) (fun i => l.length - i) 0 (Nat.zero_le _) (Weak.gc ⟨rfl, rfl, rfl, rfl, rfl, rfl, rfl, rfl, rfl, rfl, rfl, trivial⟩ ⟨rfl, trivial⟩ rfl rfl rfl) (fun i hi => ?_)
    have hcl := cnt_le (openF cut) l i
    by_cases hlt : i < l.length
    · have hcs := cnt_succ (openF cut) l i hlt
      generalize hC : (l.take i).countP (openF cut) = c at *
      cases hq : openF cut l[i] with
      | true =>
        rw [hq, if_pos rfl] at hcs
        repeat' ((conv => whnf); first | refine Q.a ?_ | refine Q.b ?_ | refine Q.c ?_ | refine Stk.is (by first | assumption | ((try simp only [lC]); first | done | assumption | omega)) ?_ | refine Stk.isnt (by first | assumption | ((try simp only [lC]); first | done | assumption | omega)) ?_ | (refine Stk.both (fun hb => ?_) (fun hb => ?_) <;> (try simp only [lC] at hb)) | refine Q.d ?_ | refine Q.e ?_ | refine Q.f ?_ | refine Q.g ?_ | refine Q.h ?_ | refine Q.i ?_ | refine Q.j ?_ | refine Q.k ?_ | refine Q.l ?_ | refine Q.m ?_ | refine Q.n ?_ | refine Q.o (h := ?_) | refine Q.p (h := ?_) | refine Q.q ?_ | refine Q.r ?_ | refine Q.s ?_ | refine Q.t ?_ | refine Q.u ?_ | refine Q.v ?_ | refine Q.w ?_ | refine Q.x ?_ | refine Q.y ?_ | refine Q.z ?_); all_goals (conv => whnf)
        refine ⟨i + 1, by omega, by omega, ?_⟩
        rw [hcs]
        exact Weak.gc ⟨rfl, rfl, rfl, rfl, rfl, rfl, rfl, rfl, rfl, rfl, rfl, trivial⟩ ⟨rfl, trivial⟩ rfl rfl rfl
      | false =>
        rw [hq, if_neg (by simp)] at hcs
        repeat' ((conv => whnf); first | refine Q.a ?_ | refine Q.b ?_ | refine Q.c ?_ | refine Stk.is (by first | assumption | ((try simp only [lC]); first | done | assumption | omega)) ?_ | refine Stk.isnt (by first | assumption | ((try simp only [lC]); first | done | assumption | omega)) ?_ | (refine Stk.both (fun hb => ?_) (fun hb => ?_) <;> (try simp only [lC] at hb)) | refine Q.d ?_ | refine Q.e ?_ | refine Q.f ?_ | refine Q.g ?_ | refine Q.h ?_ | refine Q.i ?_ | refine Q.j ?_ | refine Q.k ?_ | refine Q.l ?_ | refine Q.m ?_ | refine Q.n ?_ | refine Q.o (h := ?_) | refine Q.p (h := ?_) | refine Q.q ?_ | refine Q.r ?_ | refine Q.s ?_ | refine Q.t ?_ | refine Q.u ?_ | refine Q.v ?_ | refine Q.w ?_ | refine Q.x ?_ | refine Q.y ?_ | refine Q.z ?_); all_goals (conv => whnf)
        refine ⟨i + 1, by omega, by omega, ?_⟩
        rw [hcs]
        exact Weak.gc ⟨rfl, rfl, rfl, rfl, rfl, rfl, rfl, rfl, rfl, rfl, rfl, trivial⟩ ⟨rfl, trivial⟩ rfl rfl rfl
    · rw [show l.take i = l from List.take_of_length_le (by omega)] at hcl ⊢
      cases nb
      all_goals
        repeat' ((conv => whnf); first | refine Q.a ?_ | refine Q.b ?_ | refine Q.c ?_ | refine Stk.is (by first | assumption | ((try simp only [lC]); first | done | assumption | omega)) ?_ | refine Stk.isnt (by first | assumption | ((try simp only [lC]); first | done | assumption | omega)) ?_ | (refine Stk.both (fun hb => ?_) (fun hb => ?_) <;> (try simp only [lC] at hb)) | refine Q.d ?_ | refine Q.e ?_ | refine Q.f ?_ | refine Q.g ?_ | refine Q.h ?_ | refine Q.i ?_ | refine Q.j ?_ | refine Q.k ?_ | refine Q.l ?_ | refine Q.m ?_ | refine Q.n ?_ | refine Q.o (h := ?_) | refine Q.p (h := ?_) | refine Q.q ?_ | refine Q.r ?_ | refine Q.s ?_ | refine Q.t ?_ | refine Q.u ?_ | refine Q.v ?_ | refine Q.w ?_ | refine Q.x ?_ | refine Q.y ?_ | refine Q.z ?_); all_goals (conv => whnf)
        ((refine FinK.of (h := ?_)); (repeat' (first | exact FinL.nil | refine FinL.cons ?_ ?_ | refine Fin'.tup ?_ | exact Q.f3 | exact Q.f4 | exact Q.f5 | exact Q.f6 | refine Fin'.vb ?_ | refine Fin'.vi ?_ | refine Fin'.agg ?_)))
end Go.Proofs.Ytflnfdepklnlkaa
