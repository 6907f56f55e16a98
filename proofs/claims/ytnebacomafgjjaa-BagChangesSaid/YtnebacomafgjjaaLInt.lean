/- How a slice of int lies in memory. -/
import Derived.Test.YtnebacomafgjjaaBase
import Derived.Lib.LazyBuf
namespace Go.Proofs.Ytnebacomafgjjaa
open Go.RowKit
def intE : Enc Int := { size := 1, cells := fun x => [.int .i64 x], len := fun _ => rfl, pos := by omega }
def intV (x : Int) : Value := .int .i64 x
theorem int_at {w : World} {A : Option Addr} {xs : List Int} {k : Nat} (h : Row w A (intE.flat xs)) (hk : k < xs.length) :
    ∃ ad, A = some ad ∧ w.cell? (ad.add k) = some (.int .i64 (xs[k]'hk)) := by
  have hx : xs[k]? = some (xs[k]'hk) := List.getElem?_eq_getElem hk
  obtain ⟨ad, e, h0⟩ := h _ _ (intE.flat_at xs k _ 0 _ hx rfl)
  have e1 : k * (intE).size + 0 = k := Nat.mul_one k
  rw [e1] at h0
  exact ⟨ad, e, h0⟩
theorem int_at' {w wx : World} {ad : Addr} {xs : List Int} {k : Nat} (h : Row w (some ad) (intE.flat xs)) (hb : Below w.heap.size w wx) (hk : k < xs.length) :
    wx.cell? (ad.add k) = some (.int .i64 (xs[k]'hk)) := by
  obtain ⟨ad', e, h'⟩ := int_at (h.later hb) hk
  injection e with e
  subst e
  exact h'
theorem int_one (xs : List Int) : ∀ u ∈ intE.flat xs, u.oneCell' = true := by
  intro u hu
  obtain ⟨a, _, h⟩ := List.mem_flatMap.1 hu
  simp only [intE, List.mem_cons, List.not_mem_nil, or_false] at h
  rw [h]; rfl
theorem info_int : (Try.prog.info? 3).map (fun i => (i.zero, i.size, i.bytes)) = some (some (.int .i64 0), 1, 8) := by kernel_rfl
theorem int_nil {w : World} {xs : List Int} (h : Row w none (intE.flat xs)) : xs = [] := by
  cases hxs : xs with
  | nil => rfl
  | cons a l =>
    obtain ⟨ad, h, _⟩ := h 0 (.int .i64 a) (by rw [hxs]; rfl)
    cases h
end Go.Proofs.Ytnebacomafgjjaa
