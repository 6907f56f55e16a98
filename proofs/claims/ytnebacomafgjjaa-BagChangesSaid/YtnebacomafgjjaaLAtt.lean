/- How a slice of rubato/api.Att lies in memory. -/
import Derived.Test.YtnebacomafgjjaaBase
import Derived.Lib.LazyBuf
namespace Go.Proofs.Ytnebacomafgjjaa
open Go.RowKit
structure Att where
  T : Int
  Id : Int
deriving DecidableEq
def attE : Enc Att := { size := 2, cells := fun a => [.int .i64 a.T, .int .i64 a.Id], len := fun _ => rfl, pos := by omega }
def attV (a : Att) : Value := .agg #[.int .i64 a.T, .int .i64 a.Id]
theorem att_ext {a b : Att} (h0 : a.T = b.T) (h1 : a.Id = b.Id) : a = b := by cases a; cases b; simp_all
theorem att_at {w : World} {A : Option Addr} {xs : List Att} {k : Nat} (h : Row w A (attE.flat xs)) (hk : k < xs.length) :
    ∃ ad, A = some ad ∧ w.cell? (ad.add (k * 2)) = some (.int .i64 (xs[k]'hk).T) ∧ w.cell? ⟨(ad.add (k * 2)).block, (ad.add (k * 2)).off + 1, none⟩ = some (.int .i64 (xs[k]'hk).Id) := by
  have hx : xs[k]? = some (xs[k]'hk) := List.getElem?_eq_getElem hk
  obtain ⟨ad0, e0, h0⟩ := h _ _ (attE.flat_at xs k _ 0 _ hx rfl)
  obtain ⟨ad1, e1, h1⟩ := h _ _ (attE.flat_at xs k _ 1 _ hx rfl)
  obtain rfl : ad0 = ad1 := by rw [e0] at e1; injection e1
  exact ⟨ad0, e0, h0, by rw [← add_far ad0 (k * 2) 0]; exact h1⟩
theorem att_at' {w wx : World} {ad : Addr} {xs : List Att} {k : Nat} (h : Row w (some ad) (attE.flat xs)) (hb : Below w.heap.size w wx) (hk : k < xs.length) :
    wx.cell? (ad.add (k * 2)) = some (.int .i64 (xs[k]'hk).T) ∧ wx.cell? ⟨(ad.add (k * 2)).block, (ad.add (k * 2)).off + 1, none⟩ = some (.int .i64 (xs[k]'hk).Id) := by
  obtain ⟨ad', e, h'⟩ := att_at (h.later hb) hk
  injection e with e
  subst e
  exact h'
theorem att_one (xs : List Att) : ∀ u ∈ attE.flat xs, u.oneCell' = true := by
  intro u hu
  obtain ⟨a, _, h⟩ := List.mem_flatMap.1 hu
  simp only [attE, List.mem_cons, List.not_mem_nil, or_false] at h
  rcases h with rfl | rfl <;> rfl
theorem info_att : (Try.prog.info? 48).map (fun i => (i.zero, i.size, i.bytes)) = some (some (.agg #[.int .i64 0, .int .i64 0]), 2, 16) := by kernel_rfl
theorem att_nil {w : World} {xs : List Att} (h : Row w none (attE.flat xs)) : xs = [] := by
  cases hxs : xs with
  | nil => rfl
  | cons a l =>
    obtain ⟨ad, h, _⟩ := h 0 (.int .i64 a.T) (by rw [hxs]; rfl)
    cases h
end Go.Proofs.Ytnebacomafgjjaa
