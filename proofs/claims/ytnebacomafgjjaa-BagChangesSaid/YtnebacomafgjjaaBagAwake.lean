/- The fixed answers of the layer bag. -/
import Derived.Test.YtnebacomafgjjaaBagNext
import Derived.Test.YtnebacomafgjjaaSameInts
namespace Go.Proofs.Ytnebacomafgjjaa
open Go.RowKit
abbrev wa : Flight := ⟨1, 2, ⟨#[97]⟩⟩
abbrev wb : Flight := ⟨3, 1, ⟨#[98]⟩⟩
abbrev wc : Flight := ⟨1, 1, ⟨#[]⟩⟩
theorem Rowf0 (w : World) : Row w none (flightE.flat []) := by unfold Enc.flat; exact Row.nil w none
theorem wk1 (w : World) : Calls Try.prog 32 #[.slice none 0 0, .agg #[.int .i64 1, .int .i64 2, .string ⟨#[97]⟩]] w (BagP w [wa] 0) := by
  have h := send_any none 0 [] wa w (by simp [maxLen]) (Nat.le_refl _) (Rowf0 w)
  rw [show sendL [] wa = [wa] from by decide +kernel, show sendE [] wa = 0 from by decide +kernel] at h
  exact h
theorem wk2 (A : Option Addr) (c : Nat) (w : World) (hm : c ≤ maxLen) (hl : 1 ≤ c) (hx : Row w A (flightE.flat [wa])) : Calls Try.prog 32 #[.slice A 1 c, .agg #[.int .i64 3, .int .i64 1, .string ⟨#[98]⟩]] w (BagP w [wa, wb] 0) := by
  have h := send_any A c [wa] wb w hm hl hx
  rw [show sendL [wa] wb = [wa, wb] from by decide +kernel, show sendE [wa] wb = 0 from by decide +kernel] at h
  exact h
theorem wk3 (A : Option Addr) (c : Nat) (w : World) (hm : c ≤ maxLen) (hl : 2 ≤ c) (hx : Row w A (flightE.flat [wa, wb])) : Calls Try.prog 32 #[.slice A 2 c, .agg #[.int .i64 1, .int .i64 1, .string ⟨#[]⟩]] w (BagP w [] 2) := by
  have h := send_any A c [wa, wb] wc w hm hl hx
  rw [show sendL [wa, wb] wc = [] from by decide +kernel, show sendE [wa, wb] wc = 2 from by decide +kernel] at h
  exact h
theorem wk4 (A : Option Addr) (c : Nat) (w : World) (hm : c ≤ maxLen) (hl : 2 ≤ c) (hx : Row w A (flightE.flat [wa, wb])) : Calls Try.prog 36 #[.slice A 2 c, .int .i64 0] w (TakeP w wa [wb] 0) := by
  have h := take_any A c [wa, wb] 0 w hm hl hx
  rw [show takeF [wa, wb] 0 = wa from by decide +kernel, show takeL [wa, wb] 0 = [wb] from by decide +kernel, show thereE [wa, wb] 0 = 0 from by decide +kernel] at h
  exact h
theorem wk5 (A : Option Addr) (c : Nat) (w : World) (hm : c ≤ maxLen) (hl : 2 ≤ c) (hx : Row w A (flightE.flat [wa, wb])) : Calls Try.prog 38 #[.slice A 2 c, .int .i64 1] w (BagP w [wa, wb, wb] 0) := by
  have h := copy_any A c [wa, wb] 1 w hm hl hx
  rw [show copyL [wa, wb] 1 = [wa, wb, wb] from by decide +kernel, show copyE [wa, wb] 1 = 0 from by decide +kernel] at h
  exact h
theorem wk6 (A : Option Addr) (c : Nat) (w : World) (hm : c ≤ maxLen) (hl : 2 ≤ c) (hx : Row w A (flightE.flat [wa, wb])) : Calls Try.prog 36 #[.slice A 2 c, .int .i64 2] w (TakeP w noFlight [] 31) := by
  have h := take_any A c [wa, wb] 2 w hm hl hx
  rw [show takeF [wa, wb] 2 = noFlight from by decide +kernel, show takeL [wa, wb] 2 = [] from by decide +kernel, show thereE [wa, wb] 2 = 31 from by decide +kernel] at h
  exact h
theorem wk7 (A : Option Addr) (c : Nat) (w : World) (hm : c ≤ maxLen) (hl : 2 ≤ c) (hx : Row w A (flightE.flat [wa, wb])) : Calls Try.prog 43 #[.slice A 2 c, .int .i64 2] w fun e w' => e = .returned (.tuple #[.int .i64 1, .bool true]) ∧ Below w.heap.size w w' := by
  have h := next_any A c [wa, wb] 2 w hm hl hx
  rw [show nextK [wa, wb] 2 = 1 from by decide +kernel, show nextB [wa, wb] 2 = true from by decide +kernel] at h
  exact h
theorem wk8 (A : Option Addr) (c : Nat) (w : World) (hm : c ≤ maxLen) (hl : 2 ≤ c) (hx : Row w A (flightE.flat [wa, wb])) : Calls Try.prog 45 #[.slice A 2 c, .int .i64 2] w fun e w' => e = .returned (.tuple #[.int .i64 1, .int .i64 1]) ∧ Below w.heap.size w w' := by
  have h := count_any A c [wa, wb] 2 w hm hl hx
  rw [show [wa, wb].countP (openB 2) = 1 from by decide +kernel] at h
  exact h
theorem wk9 (A : Option Addr) (c : Nat) (w : World) (hm : c ≤ maxLen) (hl : 3 ≤ c) (hx : Row w A (flightE.flat [wa, wb, wb])) : Calls Try.prog 49 #[.slice A 3 c, .int .i64 3, .int .i64 1] w (OwnSl intE 3 w [1, 2]) := by
  have h := link_any A c [wa, wb, wb] 3 1 w hm hl hx (by simp)
  rw [show linkN [wa, wb, wb] 3 1 [wa, wb, wb].length = [1, 2] from by decide +kernel] at h
  exact h
theorem wk10 (w : World) : Calls Try.prog 46 #[.int .i64 2, .agg #[.int .i64 1, .int .i64 2, .string ⟨#[97]⟩]] w fun e w' => e = .returned (.bool false) ∧ Below w.heap.size w w' := by
  have h := bagopen_any 2 wa w
  rw [show openB 2 wa = false from by decide +kernel] at h
  exact h
theorem wk11 (w : World) : Calls Try.prog 46 #[.int .i64 3, .agg #[.int .i64 1, .int .i64 2, .string ⟨#[97]⟩]] w fun e w' => e = .returned (.bool true) ∧ Below w.heap.size w w' := by
  have h := bagopen_any 3 wa w
  rw [show openB 3 wa = true from by decide +kernel] at h
  exact h
theorem wk12 (A : Option Addr) (c : Nat) (w : World) (hm : c ≤ maxLen) (hl : 2 ≤ c) (hx : Row w A (flightE.flat [wa, wb])) : Calls Try.prog 40 #[.slice A 2 c] w fun e w' => e = .returned (.int .i64 0) ∧ Below w.heap.size w w' := by
  have h := bagcheck_any A c [wa, wb] w hm hl hx
  rw [show bagE [wa, wb] = 0 from by decide +kernel] at h
  exact h
theorem wk13 (A : Option Addr) (c : Nat) (w : World) (g : Nat) (hm : c ≤ maxLen) (hl : 2 ≤ c) (hx : Row w A (intE.flat [1, 2])) (hy : Row w (some ⟨g, 0, none⟩) (intE.flat [1, 2])) : Calls Try.prog 48 #[.slice A 2 c, .slice (some ⟨g, 0, none⟩) 2 2] w fun e w' => e = .returned (.bool true) ∧ Below w.heap.size w w' := by
  have h := sameints_any A (some ⟨g, 0, none⟩) c 2 [1, 2] [1, 2] w hm (by simp [maxLen]) hl (Nat.le_refl _) hx hy
  rw [show decide (([1, 2] : List Int) = [1, 2]) = true from by decide +kernel] at h
  exact h
end Go.Proofs.Ytnebacomafgjjaa
