/- Arguments that came in, as they read. -/
import Derived.Test.YtlicjlahnbebcaaE12
import Derived.ProofKit
import Derived.OpenShut
import Derived.Deep.Slices
import Derived.Deep.Fields
namespace Go.Proofs.Ytlicjlahnbebcaa
open Go.RowKit Go.ChangeShapes Go.WideShapes Go.Deep
/-- Nothing is one's own, nothing another's. -/
abbrev μ0 : LMap := LMap.none fun _ => False
theorem μ0_owns (g : Nat) : ¬ μ0.owns g := fun h => LMap.none_owns h
section
variable {P : Program} {w : World}
/-- Cells that hold a value of type t read as f of some a, of which ok is true. -/
def Reads (P : Program) (w : World) (t : TypeId) {α : Type} (ok : α → Prop) (f : α → List PV) : Prop :=
  ∀ {H : Type} (enc : TypeId × Value → H) (base : Nat) (spare : Nat → Bool) (held : Bool) (fuel : Nat) (cs : List Value) (x : DataW H × List MemPlace), DataW.trod enc P w base spare held fuel t cs = some x → ∃ a : α, ok a ∧ RepL w μ0 (f a) cs ∧ ∀ u ∈ cs, u.oneCell' = true
def okI (x : Int) : Prop := -9223372036854775808 ≤ x ∧ x ≤ 9223372036854775807
theorem reads_int {t : TypeId} (ht : P.underlying t = some (.int .i64)) : Reads P w t okI (fun x => [PV.v (.int .i64 x)]) := fun enc base spare held fuel cs x h => by
  obtain ⟨n, rfl, _, hw⟩ := DataW.trod_int ht h
  simp only [Lit.wf, Bool.and_eq_true, decide_eq_true_eq] at hw
  refine ⟨n, ?_, ⟨_, _, rfl, rfl, rfl⟩, fun u hu => by rw [List.mem_singleton] at hu; subst hu; rfl⟩
  have h1 : IntKind.i64.min = -9223372036854775808 := by decide
  have h2 : IntKind.i64.max = 9223372036854775807 := by decide
  unfold okI
  omega
theorem reads_bool {t : TypeId} (ht : P.underlying t = some .bool) : Reads P w t (fun _ => True) (fun x => [PV.v (.bool x)]) := fun enc base spare held fuel cs x h => by
  obtain ⟨n, rfl, _⟩ := DataW.trod_bool ht h
  exact ⟨n, trivial, ⟨_, _, rfl, rfl, rfl⟩, fun u hu => by rw [List.mem_singleton] at hu; subst hu; rfl⟩
theorem reads_string {t : TypeId} (ht : P.underlying t = some .string) : Reads P w t (fun s : ByteArray => s.size ≤ 9223372036854775807) (fun x => [PV.v (.string x)]) := fun enc base spare held fuel cs x h => by
  obtain ⟨n, rfl, _, hs⟩ := DataW.trod_string ht h
  have : maxLen = 9223372036854775807 := by decide
  exact ⟨n, by omega, ⟨_, _, rfl, rfl, rfl⟩, fun u hu => by rw [List.mem_singleton] at hu; subst hu; rfl⟩
theorem list_of_all {α : Type} {Q : Nat → α → Prop} : ∀ n, (∀ i, i < n → ∃ a, Q i a) → ∃ l : List α, l.length = n ∧ ∀ i a, l[i]? = some a → Q i a
  | 0, _ => ⟨[], rfl, fun i a h => by simp at h⟩
  | n + 1, h => by
    obtain ⟨l, hl, hq⟩ := list_of_all n (fun i hi => h i (by omega))
    obtain ⟨a, ha⟩ := h n (by omega)
    refine ⟨l ++ [a], by simp [hl], fun i b hb => ?_⟩
    rcases Nat.lt_or_ge i n with h1 | h1
    · rw [List.getElem?_append_left (by omega)] at hb; exact hq i b hb
    · rw [List.getElem?_append_right (by omega), hl] at hb
      have : i - n = 0 := by
        have := (List.getElem?_eq_some_iff.1 hb).1
        simp at this; omega
      rw [this] at hb
      simp at hb
      subst hb
      rw [show i = n from by omega]; exact ha
theorem RepR.of_get {μ : LMap} {A : Option Addr} {sz : Nat} : ∀ {xs : List (List PV)} {k : Nat}, (∀ i e, xs[i]? = some e → e.length = sz ∧ RepC w μ A e (k + i * sz)) → RepR w μ A sz xs k
  | [], _, _ => trivial
  | x :: xs, k, h => by
    simp only [RepR]
    have h0 := h 0 x rfl
    refine ⟨h0.1, by simpa using h0.2, RepR.of_get fun i e he => ?_⟩
    have h1 := h (i + 1) e (by simpa using he)
    rwa [show k + (i + 1) * sz = k + sz + i * sz from by rw [Nat.succ_mul]; omega] at h1
theorem reads_slice {t e sz : Nat} {α : Type} {ok : α → Prop} {f : α → List PV} (ht : P.underlying t = some (.slice e)) (hC : P.cellsOf e = sz) (hf : ∀ a, (f a).length = sz) (he : Reads P w e ok f) :
    Reads P w t (fun l : List α => ∀ x ∈ l, ok x) (fun l => [.sl sz (l.map f)]) := fun {H} enc base spare held fuel cs x h => by
  rcases open_slice ht h with ⟨hcs, _⟩ | ⟨a, len, cap, m, n', D, Pl, hcs, _, hl, hm, hmm, _, hi⟩
  · subst hcs
    refine ⟨[], by simp, ⟨_, _, rfl, ?_, rfl⟩, fun u hu => by rw [List.mem_singleton] at hu; subst hu; rfl⟩
    simp only [Rep, List.map_nil, RepR]
    exact ⟨none, 0, rfl, Nat.le_refl _, Nat.zero_le _, trivial⟩
  · subst hcs
    have hlm : len ≤ m := by rw [hmm]; split <;> omega
    obtain ⟨l, hll, hq⟩ := list_of_all (Q := fun i x => ok x ∧ RepC w μ0 (some a) (f x) (i * sz)) len (fun i hin => by
      obtain ⟨cs', hc, ht'⟩ := hi i (by omega)
      obtain ⟨x, hx, hr, h1⟩ := he enc _ _ _ _ _ _ ht'
      rw [hC] at hc
      obtain ⟨_, hcl, hat⟩ := World.cells?_some hc
      refine ⟨x, hx, RepC.of_cells (μ0_owns _) hr h1 (fun j u hu => ?_)⟩
      obtain ⟨hj, hu'⟩ := List.getElem?_eq_some_iff.1 hu
      have h2 := hat j (by omega)
      rw [← add_of_add, h2]
      exact hu)
    refine ⟨l, fun x hx => ?_, ⟨_, _, rfl, ?_, rfl⟩, fun u hu => by rw [List.mem_singleton] at hu; subst hu; rfl⟩
    · obtain ⟨i, hi', rfl⟩ := List.mem_iff_getElem.1 hx
      exact (hq i _ (List.getElem?_eq_getElem hi')).1
    · simp only [Rep, List.length_map]
      refine ⟨some a, cap, by rw [hll], by omega, hm, ?_⟩
      rw [LMap.shut_none]
      refine RepR.of_get (fun i e he' => ?_)
      rw [List.getElem?_map] at he'
      obtain ⟨x, hx, rfl⟩ := Option.map_eq_some_iff.1 he'
      exact ⟨hf x, by rw [Nat.zero_add]; exact (hq i x hx).2⟩
/-- An argument of one cell. -/
theorem arg_one {H : Type} {enc : TypeId × Value → H} {base : Nat} {spare : Nat → Bool} {held : Bool} {t : TypeId} {α : Type} {ok : α → Prop} {f : α → PV} {v : Value} {d : DataW H} {p : List MemPlace} (hr : Reads P w t ok fun a => [f a]) (hv : v.cells = #[v]) (h : DataW.Trod enc P w base spare held t v d p) : ∃ a, ok a ∧ Rep w μ0 (f a) v := by
  obtain ⟨fuel, hf⟩ := h
  obtain ⟨a, ha, r, _⟩ := hr _ _ _ _ _ _ _ hf
  rw [hv] at r
  obtain ⟨u, us, e, r1, _⟩ := r
  injection e with e1 _
  subst e1
  exact ⟨a, ha, r1⟩
/-- An argument of many cells. -/
theorem arg_agg {H : Type} {enc : TypeId × Value → H} {base : Nat} {spare : Nat → Bool} {held : Bool} {t : TypeId} {α : Type} {ok : α → Prop} {f : α → List PV} {v : Value} {d : DataW H} {p : List MemPlace} (hr : Reads P w t ok f) (hv : ∃ cs, v = .agg cs) (h : DataW.Trod enc P w base spare held t v d p) : ∃ a, ok a ∧ Rep w μ0 (.agg (f a)) v := by
  obtain ⟨cs, rfl⟩ := hv
  obtain ⟨fuel, hf⟩ := h
  obtain ⟨a, ha, r, h1⟩ := hr _ _ _ _ _ _ _ hf
  exact ⟨a, ha, cs.toList, rfl, r, h1⟩
theorem repL_nil {μ : LMap} : RepL w μ [] [] := rfl
theorem repL_cons {μ : LMap} {p : PV} {ps : List PV} {u : Value} {us : List Value} (h : Rep w μ p u) (hs : RepL w μ ps us) : RepL w μ (p :: ps) (u :: us) := ⟨u, us, rfl, h, hs⟩
theorem rep_v {μ : LMap} {v : Value} : Rep w μ (.v v) v := rfl
/-- What a law's contract comes to. -/
theorem law_calls {f : FuncId} {args : List PV} {vs : List Value} (hs : HasSpec P f args (.v (.bool true))) (hv : RepL w μ0 args vs) : Calls P f vs.toArray w fun e w' => e = .returned (.bool true) ∧ Below w.heap.size w w' :=
  (hs.h.run (fun _ => False) w vs (fun _ h => h.elim) hv).mono fun e w' ⟨y, he, hb, hr⟩ => by
    simp only [RepRes, Rep] at hr
    subst hr
    exact ⟨he, hb⟩
end
end Go.Proofs.Ytlicjlahnbebcaa
