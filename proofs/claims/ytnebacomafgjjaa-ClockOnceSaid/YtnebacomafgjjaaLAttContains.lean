/- Package slices at rubato/api.Att. -/
import Derived.Test.YtnebacomafgjjaaLAtt
import Derived.Test.YtnebacomafgjjaaLAttIndex
namespace Go.Proofs.Ytnebacomafgjjaa
open Go.RowKit
set_option maxRecDepth 100000 in
set_option maxHeartbeats 1000000 in
theorem containsfunc_att (A : Option Addr) (c : Nat) (xs : List Att) (w : World) (hm : c ≤ maxLen) (hl : xs.length ≤ c) (hx : Row w A (attE.flat xs)) (v : Value) (p : Att → Bool) (hp : IsPred Try.prog w v attV p) :
    Calls Try.prog 57 #[.slice A xs.length c, v] w fun e w' => e = .returned (.bool (xs.any p)) ∧ Below w.heap.size w w' := by
  have H := Lib.hid (indexfunc_att A c xs w hm hl hx v p hp)
  generalize hR : xs.any p = R
  have HR := Lib.hid (hR.symm.trans (any_idxOf p xs))
  clear hR
  generalize idxOf p xs = z at H HR
  go_enter Try.func57, Try.ntmps57
  go_wp2_with (go_at_call 71; refine (H.out).mono ?_; rintro e w1 ⟨rfl, hb⟩)
  go_ret
  exact ⟨by rw [HR.out]; rfl, hb⟩
end Go.Proofs.Ytnebacomafgjjaa
