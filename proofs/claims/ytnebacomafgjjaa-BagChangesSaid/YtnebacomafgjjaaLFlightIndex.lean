/- Package slices at rubato/bag.Flight. -/
import Derived.Test.YtnebacomafgjjaaLFlight
namespace Go.Proofs.Ytnebacomafgjjaa
open Go.RowKit
set_option maxRecDepth 100000 in
set_option maxHeartbeats 1000000 in
theorem indexfunc_flight (A : Option Addr) (c : Nat) (xs : List Flight) (w : World) (hm : c ≤ maxLen) (hl : xs.length ≤ c) (hx : Row w A (flightE.flat xs)) (v : Value) (p : Flight → Bool) (hp : IsPred Try.prog w v flightV p) :
    Calls Try.prog 69 #[.slice A xs.length c, v] w fun e w' => e = .returned (.int .i64 (idxOf p xs)) ∧ Below w.heap.size w w' := by
  unfold maxLen at hm
  obtain ⟨g, first, caps, rfl, hent, hcall⟩ := hp
  generalize hR : idxOf p xs = R
  have HR := Lib.hid hR
  have HP := Lib.hid hcall
  have HE := Lib.hid hent
  clear hR hcall hent
  go_enter Try.func69, Try.ntmps69
  go_wp2
  go_loopw [8] (fun i wr => ∃ (k : Nat), k ≤ xs.length ∧ i = .int .i64 k ∧ (∀ m, ∀ h : m < xs.length, m < k → p xs[m] = false) ∧ Below w.heap.size w wr) (fun i _ => xs.length - (intOf i).toNat)
  case atStart => exact ⟨0, by omega, rfl, fun m _ h => by omega, Below.refl _ _⟩
  case round =>
    obtain ⟨k, hk, rfl, hall, hb⟩ := hrel
    have HALL := Lib.hid hall
    clear hall
    by_cases hlt : k < xs.length
    · obtain ⟨ad, rfl, hx0, hx1, hx2⟩ := flight_at (hx.later hb) hlt
      have hs := hb.size
      have hent : ∀ (args : Array Value) (w : World), (callFunc g args).run Try.prog w = .ok (.enter g args) w := HE.out
      have HC := Lib.hid (HP.out xs[k] wr hb)
      have HH := Lib.hid (fun h : p xs[k] = true => idxOf_hit (p := p) hlt HALL.out h)
      have HS := Lib.hid (fun h : p xs[k] = false => all_step (p := p) HALL.out (fun _ => h))
      unfold flightV at HC
      clear HP HE HALL hx
      generalize xs[k] = a at hx0 hx1 hx2 HC HH HS
      cases hpa : p a
      · rw [hpa] at HC HS
        have HS2 := Lib.hid (HS.out rfl)
        clear HS HH hpa HR
        go_wp2_with (refine (HC.out).mono ?_; rintro e w2 ⟨rfl, hb2⟩)
        go_roundw
        case rel => exact ⟨k + 1, by omega, by go_num, HS2.out, hb.trans (hb2.mono hs)⟩
        case measure => simp [intOf]; omega
      · rw [hpa] at HC HH
        have HH2 := Lib.hid (HR.out.symm.trans (HH.out rfl))
        clear HS HH hpa HR
        go_wp2_with (refine (HC.out).mono ?_; rintro e w2 ⟨rfl, hb2⟩)
        go_ret
        exact ⟨by rw [HH2.out]; rfl, hb.trans (hb2.mono hs)⟩
    · have hge : ¬ ((k : Int) < xs.length) := by omega
      have HE2 := Lib.hid (HR.out.symm.trans (idxOf_none (fun m h => HALL.out m h (by omega))))
      clear HR
      go_wp2
      go_ret
      exact ⟨by rw [HE2.out]; rfl, hb⟩
end Go.Proofs.Ytnebacomafgjjaa
