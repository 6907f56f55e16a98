/- How a slice of rubato/bag.Flight lies in memory. -/
import Derived.Test.YtnebacomafgjjaaBase
import Derived.Lib.LazyBuf
namespace Go.Proofs.Ytnebacomafgjjaa
open Go.RowKit
structure Flight where
  From : Int
  To : Int
  Data : ByteArray
deriving DecidableEq
def flightE : Enc Flight := { size := 3, cells := fun a => [.int .i64 a.From, .int .i64 a.To, .string a.Data], len := fun _ => rfl, pos := by omega }
def flightV (a : Flight) : Value := .agg #[.int .i64 a.From, .int .i64 a.To, .string a.Data]
theorem flight_ext {a b : Flight} (h0 : a.From = b.From) (h1 : a.To = b.To) (h2 : a.Data = b.Data) : a = b := by cases a; cases b; simp_all
theorem flight_at {w : World} {A : Option Addr} {xs : List Flight} {k : Nat} (h : Row w A (flightE.flat xs)) (hk : k < xs.length) :
    ∃ ad, A = some ad ∧ w.cell? (ad.add (k * 3)) = some (.int .i64 (xs[k]'hk).From) ∧ w.cell? ⟨(ad.add (k * 3)).block, (ad.add (k * 3)).off + 1, none⟩ = some (.int .i64 (xs[k]'hk).To) ∧ w.cell? ⟨(ad.add (k * 3)).block, (ad.add (k * 3)).off + 2, none⟩ = some (.string (xs[k]'hk).Data) := by
  have hx : xs[k]? = some (xs[k]'hk) := List.getElem?_eq_getElem hk
  obtain ⟨ad0, e0, h0⟩ := h _ _ (flightE.flat_at xs k _ 0 _ hx rfl)
  obtain ⟨ad1, e1, h1⟩ := h _ _ (flightE.flat_at xs k _ 1 _ hx rfl)
  obtain rfl : ad0 = ad1 := by rw [e0] at e1; injection e1
  obtain ⟨ad2, e2, h2⟩ := h _ _ (flightE.flat_at xs k _ 2 _ hx rfl)
  obtain rfl : ad0 = ad2 := by rw [e0] at e2; injection e2
  exact ⟨ad0, e0, h0, by rw [← add_far ad0 (k * 3) 0]; exact h1, by rw [← add_far ad0 (k * 3) 1]; exact h2⟩
theorem flight_at' {w wx : World} {ad : Addr} {xs : List Flight} {k : Nat} (h : Row w (some ad) (flightE.flat xs)) (hb : Below w.heap.size w wx) (hk : k < xs.length) :
    wx.cell? (ad.add (k * 3)) = some (.int .i64 (xs[k]'hk).From) ∧ wx.cell? ⟨(ad.add (k * 3)).block, (ad.add (k * 3)).off + 1, none⟩ = some (.int .i64 (xs[k]'hk).To) ∧ wx.cell? ⟨(ad.add (k * 3)).block, (ad.add (k * 3)).off + 2, none⟩ = some (.string (xs[k]'hk).Data) := by
  obtain ⟨ad', e, h'⟩ := flight_at (h.later hb) hk
  injection e with e
  subst e
  exact h'
theorem flight_one (xs : List Flight) : ∀ u ∈ flightE.flat xs, u.oneCell' = true := by
  intro u hu
  obtain ⟨a, _, h⟩ := List.mem_flatMap.1 hu
  simp only [flightE, List.mem_cons, List.not_mem_nil, or_false] at h
  rcases h with rfl | rfl | rfl <;> rfl
theorem info_flight : (Try.prog.info? 53).map (fun i => (i.zero, i.size, i.bytes)) = some (some (.agg #[.int .i64 0, .int .i64 0, .string ⟨#[]⟩]), 3, 32) := by kernel_rfl
theorem flight_nil {w : World} {xs : List Flight} (h : Row w none (flightE.flat xs)) : xs = [] := by
  cases hxs : xs with
  | nil => rfl
  | cons a l =>
    obtain ⟨ad, h, _⟩ := h 0 (.int .i64 a.From) (by rw [hxs]; rfl)
    cases h
end Go.Proofs.Ytnebacomafgjjaa
