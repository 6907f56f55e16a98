/- Arguments that came in, as they read: structs and arrays, part by part. -/
import Derived.Test.YtlicjlahnbebcaaR4
namespace Go.Proofs.Ytlicjlahnbebcaa
open Go.RowKit Go.ChangeShapes Go.WideShapes Go.Deep
section
variable {P : Program} {w : World}
/-- Parts that lie one behind the other. -/
def trodSeq {H : Type} (enc : TypeId × Value → H) (P : Program) (w : World) (base : Nat) (spare : Nat → Bool) (held : Bool) (fuel : Nat) : List TypeId → List Value → Prop
  | [], cs => cs = []
  | t :: ts, cs => (∃ x, DataW.trod enc P w base spare held fuel t (cs.take (P.cellsOf t)) = some x) ∧ trodSeq enc P w base spare held fuel ts (cs.drop (P.cellsOf t))
def ReadsL (P : Program) (w : World) (ts : List TypeId) {α : Type} (ok : α → Prop) (f : α → List PV) : Prop :=
  ∀ {H : Type} (enc : TypeId × Value → H) (base : Nat) (spare : Nat → Bool) (held : Bool) (fuel : Nat) (cs : List Value), trodSeq enc P w base spare held fuel ts cs → ∃ a : α, ok a ∧ RepL w μ0 (f a) cs ∧ ∀ u ∈ cs, u.oneCell' = true
theorem readsL_nil : ReadsL P w [] (fun _ : Unit => True) (fun _ => []) := fun _ _ _ _ _ cs h => ⟨(), trivial, h, by have : cs = [] := h; subst this; simp⟩
theorem readsL_cons {t : TypeId} {ts : List TypeId} {α β : Type} {ok : α → Prop} {ok' : β → Prop} {f : α → List PV} {g : β → List PV} (h1 : Reads P w t ok f) (h2 : ReadsL P w ts ok' g) : ReadsL P w (t :: ts) (fun x : α × β => ok x.1 ∧ ok' x.2) (fun x => f x.1 ++ g x.2) := fun enc base spare held fuel cs h => by
  obtain ⟨⟨x, hx⟩, hs⟩ := h
  obtain ⟨a, ha, ra, oa⟩ := h1 enc base spare held fuel _ x hx
  obtain ⟨b, hb, rb, ob⟩ := h2 enc base spare held fuel _ hs
  refine ⟨(a, b), ⟨ha, hb⟩, ?_, fun u hu => ?_⟩
  · have := RepL.append ra rb
    rwa [List.take_append_drop] at this
  · rw [← List.take_append_drop (P.cellsOf t) cs, List.mem_append] at hu
    rcases hu with hu | hu
    · exact oa u hu
    · exact ob u hu
theorem Reads.map {t : TypeId} {α β : Type} {ok : α → Prop} {ok' : β → Prop} {f : α → List PV} {f' : β → List PV} (h : Reads P w t ok f) (g : α → β) (hf : ∀ a, f a = f' (g a)) (ho : ∀ a, ok a → ok' (g a)) : Reads P w t ok' f' := fun enc base spare held fuel cs x hx => by
  obtain ⟨a, ha, r, o⟩ := h enc base spare held fuel cs x hx
  exact ⟨g a, ho a ha, by rw [← hf]; exact r, o⟩
def contigB (P : Program) : Nat → List Field → Bool
  | _, [] => true
  | n, f :: fs => Nat.beq f.offset n && contigB P (n + P.cellsOf f.type) fs
def totalC (P : Program) : List TypeId → Nat
  | [] => 0
  | t :: ts => P.cellsOf t + totalC P ts
theorem trodSeq_of {H : Type} {enc : TypeId × Value → H} {base : Nat} {spare : Nat → Bool} {held : Bool} {fuel : Nat} {cs : List Value} : ∀ {fs : List Field} {n : Nat}, contigB P n fs = true → cs.length = n + totalC P (fs.map (·.type)) → (∀ f ∈ fs, ∃ x, DataW.trod enc P w base spare held fuel f.type ((cs.drop f.offset).take (P.cellsOf f.type)) = some x) → trodSeq enc P w base spare held fuel (fs.map (·.type)) (cs.drop n)
  | [], n, _, hl, _ => by
    show cs.drop n = []
    rw [List.drop_eq_nil_iff]
    simp only [List.map_nil, totalC] at hl
    omega
  | f :: fs, n, hc, hl, hm => by
    simp only [contigB, Bool.and_eq_true] at hc
    have e := Nat.eq_of_beq_eq_true hc.1
    obtain ⟨x, hx⟩ := hm f (List.mem_cons_self ..)
    refine ⟨⟨x, by rw [← e]; exact hx⟩, ?_⟩
    rw [List.drop_drop]
    exact trodSeq_of hc.2 (by
      have hl : cs.length = n + (P.cellsOf f.type + totalC P (fs.map (·.type))) := hl
      show cs.length = n + P.cellsOf f.type + totalC P (fs.map (·.type))
      omega) (fun g hg => hm g (List.mem_cons_of_mem _ hg))
theorem reads_struct {t : TypeId} {fs : Array Field} {α : Type} {ok : α → Prop} {f : α → List PV} (ht : P.underlying t = some (.struct fs)) (hc : contigB P 0 fs.toList = true) (hn : P.cellsOf t = totalC P (fs.toList.map (·.type))) (h : ReadsL P w (fs.toList.map (·.type)) ok f) : Reads P w t ok f := fun enc base spare held fuel cs x hx => by
  obtain ⟨xs, n, rfl, _, hl, hxl, hat⟩ := DataW.trod_struct ht hx
  refine h enc base spare held n cs (trodSeq_of (n := 0) hc (by omega) fun g hg => ?_)
  obtain ⟨i, hi, rfl⟩ := List.mem_iff_getElem.1 hg
  have h1 := hat i fs[i] (by simp)
  have hi' : i < xs.length := by rw [hxl]; simpa using hi
  exact ⟨xs[i], by rw [Array.getElem_toList, h1]; exact List.getElem?_eq_getElem hi'⟩
theorem trodSeq_rep {H : Type} {enc : TypeId × Value → H} {base : Nat} {spare : Nat → Bool} {held : Bool} {fuel : Nat} {e : TypeId} : ∀ (n : Nat) {cs : List Value}, cs.length = n * P.cellsOf e → (∀ i, i < n → ∃ x, DataW.trod enc P w base spare held fuel e ((cs.drop (i * P.cellsOf e)).take (P.cellsOf e)) = some x) → trodSeq enc P w base spare held fuel (List.replicate n e) cs
  | 0, cs, hl, _ => by
    rw [Nat.zero_mul] at hl
    exact List.eq_nil_of_length_eq_zero hl
  | n + 1, cs, hl, h => by
    obtain ⟨x, hx⟩ := h 0 (by omega)
    rw [Nat.zero_mul, List.drop_zero] at hx
    refine ⟨⟨x, hx⟩, trodSeq_rep n (by rw [List.length_drop, hl, Nat.succ_mul]; omega) fun i hi => ?_⟩
    obtain ⟨y, hy⟩ := h (i + 1) (by omega)
    refine ⟨y, ?_⟩
    rw [List.drop_drop, show P.cellsOf e + i * P.cellsOf e = (i + 1) * P.cellsOf e from by rw [Nat.succ_mul]; omega]
    exact hy
theorem reads_array {t e : TypeId} {n : Nat} {α : Type} {ok : α → Prop} {f : α → List PV} (ht : P.underlying t = some (.array n e)) (hn : P.cellsOf t = n * P.cellsOf e) (h : ReadsL P w (List.replicate n e) ok f) : Reads P w t ok f := fun enc base spare held fuel cs x hx => by
  obtain ⟨xs, m, rfl, _, hl, hxl, hat⟩ := DataW.trod_array ht hx
  refine h enc base spare held m cs (trodSeq_rep n (by omega) fun i hi => ?_)
  exact ⟨xs[i], by rw [hat i hi]; exact List.getElem?_eq_getElem (by omega)⟩
theorem okWide_array {t e : TypeId} {n : Nat} {r : Reach} {v : Value} {b0 : Nat} (ht : P.underlying t = some (.array n e)) (h : Value.okWide P w r b0 t v) : ∃ cs, v = .agg cs ∧ cs.size = P.cellsOf t := by
  simp only [Value.okWide, ht] at h
  obtain ⟨cs, h1, h2, _⟩ := h
  exact ⟨cs, h1, h2⟩
/-- An argument of several cells, whatever its cells are. -/
theorem arg_cells {H : Type} {enc : TypeId × Value → H} {base : Nat} {spare : Nat → Bool} {held : Bool} {t : TypeId} {α : Type} {ok : α → Prop} {f : α → List PV} {v : Value} {d : DataW H} {p : List MemPlace} (hr : Reads P w t ok f) (hv : ∃ cs, v = .agg cs) (h : DataW.Trod enc P w base spare held t v d p) : ∃ a, ok a ∧ Rep w μ0 (.agg (f a)) v := arg_agg hr hv h
end
end Go.Proofs.Ytlicjlahnbebcaa
