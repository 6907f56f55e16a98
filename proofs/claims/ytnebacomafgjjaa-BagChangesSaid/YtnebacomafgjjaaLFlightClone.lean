/- Package slices at rubato/bag.Flight. -/
import Derived.Test.YtnebacomafgjjaaLFlight
namespace Go.Proofs.Ytnebacomafgjjaa
open Go.RowKit
set_option maxRecDepth 100000 in
set_option maxHeartbeats 1000000 in
theorem clone_flight (A : Option Addr) (c : Nat) (xs : List Flight) (w : World) (hm : c ≤ maxLen) (hl : xs.length ≤ c) (hx : Row w A (flightE.flat xs)) (hbig : xs.length * 32 ≤ 140737488355328) :
    Calls Try.prog 64 #[.slice A xs.length c] w (OwnSl flightE 53 w xs) := by
  obtain ⟨i0, hi, hz0, hz1, hz2⟩ := info_parts info_flight
  have hnil := fun W => Lib.run_eql_slice_nil (P := Try.prog) W 51 53 A xs.length c 0 0 Try.underlying51
  have hone := Lib.hid (flight_one xs)
  have hlen := Lib.hid (flightE.flat_length xs)
  go_enter Try.func64, Try.ntmps64
  cases A with
  | none =>
    go_wp2
    go_ret
    have e := flight_nil hx
    subst e
    exact ⟨_, rfl, World.ownsRow_nil _ _ _ _, Below.refl _ _⟩
  | some ad =>
    have h63 := Lib.hid (show 0 + xs.length ≤ maxLen from by omega)
    have hby := Lib.hid (show (0 + xs.length) * 32 ≤ 140737488355328 from by omega)
    have hbase := Lib.hid (show w.heap.size ≤ (w.alloc (.cells #[] 53)).heap.size from by simp)
    have hx1 := hx.later ((Below.refl w.heap.size w).alloc (Nat.le_refl _) (.cells #[] 53))
    go_wp2_with (at_builtin; refine wpList_append_row _ rfl (.tmp 5) (.tmp 6) _ rfl w.heap.size 53 i0 _ 3 32 Try.underlying51 hi hz0 hz1 hz2 rfl (by omega) _ 0 [] rfl (World.ownsRow_lit w #[] 0 (Nat.le_refl _) (Nat.zero_le _) rfl) (some ad) xs.length c (flightE.flat xs) rfl hlen.out hx1 hone.out h63.out hby.out hbase.out ?_; intro v1 w1 hown1 hg1 hat1)
    go_ret
    refine ⟨v1, rfl, ?_, ((Below.refl w.heap.size w).alloc (Nat.le_refl _) _).grown hg1 (by simp) (fun k hk => Nat.le_of_eq (Option.some.inj hk))⟩
    rw [Nat.zero_add, List.nil_append] at hown1
    exact hown1
end Go.Proofs.Ytnebacomafgjjaa
