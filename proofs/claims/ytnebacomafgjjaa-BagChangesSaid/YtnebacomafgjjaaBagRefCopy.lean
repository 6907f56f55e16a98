/- Doubling a flight: the document's answer. -/
import Derived.Test.YtnebacomafgjjaaBagRefTake
namespace Go.Proofs.Ytnebacomafgjjaa
open Go.RowKit
set_option maxRecDepth 100000 in
set_option maxHeartbeats 4000000 in
theorem refcopy_any (A : Option Addr) (c : Nat) (l : List Flight) (k : Int) (w : World) (hm : c ≤ maxLen) (hl : l.length ≤ c) (hx : Row w A (flightE.flat l)) :
    Calls Try.prog 39 #[.slice A l.length c, .int .i64 k] w (BagP w (copyL l k) (copyE l k)) := by
  have HT := Lib.hid (reftake_any A c l k w hm hl hx)
  have HS := Lib.hid (fun W hb => refsend_any A c l (takeF l k) W hm hl (hx.later (wx := W) hb))
  by_cases h0 : thereE l k = 0
  · have e1 : copyE l k = sendE l (takeF l k) := by unfold copyE; rw [if_pos h0]
    have e2 : copyL l k = sendL l (takeF l k) := by unfold copyL; rw [if_pos h0]
    rw [e1, e2]
    rw [h0] at HT
    clear h0 e1 e2
    generalize sendE l (takeF l k) = x at *
    generalize sendL l (takeF l k) = y at *
    unfold TakeP at HT
    unfold flightV at HT HS
    generalize (takeF l k).From = x0 at *
    generalize (takeF l k).To = x1 at *
    generalize (takeF l k).Data = x2 at *
    go_enter Try.func39, Try.ntmps39
    go_wp2_with fail
    refine (HT.out).mono ?_; rintro e w1 ⟨v1, rfl, hs1, hb1⟩
    have hb2 := balloc hb1 (.cells #[.int .i64 x0, .int .i64 x1, .string x2] 61)
    go_wp2_with fail
    refine (HS.out _ hb2).mono ?_; rintro e w2 ⟨v, rfl, hs, hb3⟩
    go_wp2
    go_ret2
    exact ⟨v, rfl, hs, bt hb2 hb3⟩
  · have e1 : copyE l k = thereE l k := by unfold copyE; rw [if_neg h0]
    have e2 : copyL l k = [] := by unfold copyL; rw [if_neg h0]
    rw [e1, e2]
    have hne : (thereE l k != 0) = true := by simpa using h0
    generalize thereE l k = x at *
    clear h0 e1 e2 HS
    unfold TakeP flightV at HT
    generalize (takeF l k).From = x0 at *
    generalize (takeF l k).To = x1 at *
    generalize (takeF l k).Data = x2 at *
    go_enter Try.func39, Try.ntmps39
    go_wp2_with fail
    refine (HT.out).mono ?_; rintro e w1 ⟨v1, rfl, hs1, hb1⟩
    have hb2 := balloc hb1 (.cells #[.int .i64 x0, .int .i64 x1, .string x2] 61)
    go_wp2
    go_ret2
    exact ⟨_, rfl, Sl.nil _, hb2⟩
end Go.Proofs.Ytnebacomafgjjaa
