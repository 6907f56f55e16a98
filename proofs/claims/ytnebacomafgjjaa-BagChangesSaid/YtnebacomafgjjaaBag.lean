/- Flights that may be. -/
import Derived.Test.YtnebacomafgjjaaLFlight
import Derived.Test.YtnebacomafgjjaaSize
namespace Go.Proofs.Ytnebacomafgjjaa
open Go.RowKit

def mayF (f : Flight) : Bool := replB f.From && (replB f.To && (!decide (f.From = f.To) && decide (f.Data.size ≤ 20000)))
theorem bagreplica_any (set : Int) (w : World) : Calls Try.prog 75 #[.int .i64 set] w fun e w' => e = .returned (.bool (replB set)) ∧ w = w' := by
  by_cases h0 : 1 ≤ set
  · by_cases h1 : set ≤ 9
    · have H := Lib.hid (show replB set = true from decide_eq_true ⟨h0, h1⟩)
      go_enter Try.func75, Try.ntmps75
      go_wp2
      go_ret
      exact ⟨by rw [H.out]; simp [h1], rfl⟩
    · have H := Lib.hid (show replB set = false from decide_eq_false (fun h => h1 h.2))
      go_enter Try.func75, Try.ntmps75
      go_wp2
      go_ret
      exact ⟨by rw [H.out]; simp_all, rfl⟩
  · have H := Lib.hid (show replB set = false from decide_eq_false (fun h => h0 h.1))
    go_enter Try.func75, Try.ntmps75
    go_wp2
    go_ret
    exact ⟨by rw [H.out]; rfl, rfl⟩
theorem bagmay_any (f : Flight) (w : World) : Calls Try.prog 63 #[flightV f] w fun e w' => e = .returned (.bool (mayF f)) ∧ Below w.heap.size w w' := by
  have hb := balloc (Below.refl w.heap.size w) (.cells #[.int .i64 f.From, .int .i64 f.To, .string f.Data] 53)
  obtain ⟨a, b, d⟩ := f
  unfold mayF flightV
  simp only at hb ⊢
  cases h0 : replB a
  · have h0' := Lib.hid h0
    clear h0
    go_enter Try.func63, Try.ntmps63
    go_wp2_with (go_at_call 75; refine (bagreplica_any _ _).mono ?_; rintro e w' ⟨rfl, rfl⟩; rw [h0'.out])
    go_ret
    exact ⟨rfl, hb⟩
  · cases h1 : replB b
    · have h0' := Lib.hid h0
      have h1' := Lib.hid h1
      clear h0 h1
      go_enter Try.func63, Try.ntmps63
      go_wp2_with (go_at_call 75; refine (bagreplica_any _ _).mono ?_; rintro e w' ⟨rfl, rfl⟩; first | rw [h0'.out] | rw [h1'.out])
      go_ret
      exact ⟨rfl, hb⟩
    · by_cases h2 : a = b
      · have h0' := Lib.hid h0
        have h1' := Lib.hid h1
        clear h0 h1
        subst h2
        go_enter Try.func63, Try.ntmps63
        go_wp2_with (go_at_call 75; refine (bagreplica_any _ _).mono ?_; rintro e w' ⟨rfl, rfl⟩; first | rw [h0'.out] | rw [h1'.out])
        go_ret
        exact ⟨by simp, hb⟩
      · have h0' := Lib.hid h0
        have h1' := Lib.hid h1
        have hne : (a != b) = true := by simpa using h2
        have HD := decide_eq_false h2
        clear h0 h1 h2
        rw [HD]
        clear HD
        by_cases h3 : d.size ≤ 20000
        · rw [decide_eq_true h3]
          go_enter Try.func63, Try.ntmps63
          go_wp2_with (go_at_call 75; refine (bagreplica_any _ _).mono ?_; rintro e w' ⟨rfl, rfl⟩; first | rw [h0'.out] | rw [h1'.out])
          go_ret
          exact ⟨by first | rfl | (simp; omega), hb⟩
        · rw [decide_eq_false h3]
          go_enter Try.func63, Try.ntmps63
          go_wp2_with (go_at_call 75; refine (bagreplica_any _ _).mono ?_; rintro e w' ⟨rfl, rfl⟩; first | rw [h0'.out] | rw [h1'.out])
          go_ret
          exact ⟨by first | rfl | (simp; omega), hb⟩
theorem may_of {f : Flight} (h : 1 ≤ f.From ∧ f.From ≤ 9 ∧ 1 ≤ f.To ∧ f.To ≤ 9 ∧ ¬ f.From = f.To ∧ f.Data.size ≤ 20000) : mayF f = true := by
  unfold mayF replB
  rw [decide_eq_true (show 1 ≤ f.From ∧ f.From ≤ 9 from ⟨h.1, h.2.1⟩), decide_eq_true (show 1 ≤ f.To ∧ f.To ≤ 9 from ⟨h.2.2.1, h.2.2.2.1⟩), decide_eq_false h.2.2.2.2.1, decide_eq_true h.2.2.2.2.2]
  rfl
theorem of_may {f : Flight} (h : mayF f = true) : 1 ≤ f.From ∧ f.From ≤ 9 ∧ 1 ≤ f.To ∧ f.To ≤ 9 ∧ ¬ f.From = f.To ∧ f.Data.size ≤ 20000 := by
  unfold mayF replB at h
  rw [Bool.and_eq_true, Bool.and_eq_true, Bool.and_eq_true, decide_eq_true_iff, decide_eq_true_iff, decide_eq_true_iff, Bool.not_eq_true', decide_eq_false_iff_not] at h
  exact ⟨h.1.1, h.1.2, h.2.1.1, h.2.1.2, h.2.2.1, h.2.2.2⟩
theorem may_not {f : Flight} (h : ¬ (1 ≤ f.From ∧ f.From ≤ 9 ∧ 1 ≤ f.To ∧ f.To ≤ 9 ∧ ¬ f.From = f.To ∧ f.Data.size ≤ 20000)) : mayF f = false := by
  cases e : mayF f
  · rfl
  · exact absurd (of_may e) h
theorem refmay_any (f : Flight) (w : World) : Calls Try.prog 65 #[flightV f] w fun e w' => e = .returned (.bool (mayF f)) ∧ Below w.heap.size w w' := by
  have hb := balloc (Below.refl w.heap.size w) (.cells #[.int .i64 f.From, .int .i64 f.To, .string f.Data] 61)
  generalize hR : mayF f = R
  obtain ⟨a, b, d⟩ := f
  unfold flightV
  simp only at hb ⊢
  by_cases h0 : 1 ≤ a
  · by_cases h1 : a ≤ 9
    · by_cases h2 : 1 ≤ b
      · by_cases h3 : b ≤ 9
        · by_cases h4 : a = b
          · rw [may_not (fun h => h.2.2.2.2.1 h4)] at hR
            have HR := Lib.hid hR
            clear hR
            subst h4
            have hne : (a != a) = false := by simp
            go_enter Try.func65, Try.ntmps65
            go_wp2
            go_ret
            exact ⟨by rw [← HR.out]; first | rfl | (simp; omega), hb⟩
          · have hne : (a != b) = true := by simpa using h4
            by_cases h5 : d.size ≤ 20000
            · rw [may_of ⟨h0, h1, h2, h3, h4, h5⟩] at hR
              have HR := Lib.hid hR
              clear hR h4
              go_enter Try.func65, Try.ntmps65
              go_wp2
              go_ret
              exact ⟨by rw [← HR.out]; first | rfl | (simp; omega), hb⟩
            · rw [may_not (fun h => h5 h.2.2.2.2.2)] at hR
              have HR := Lib.hid hR
              clear hR h4
              go_enter Try.func65, Try.ntmps65
              go_wp2
              go_ret
              exact ⟨by rw [← HR.out]; first | rfl | (simp; omega), hb⟩
        · rw [may_not (fun h => h3 h.2.2.2.1)] at hR
          have HR := Lib.hid hR
          clear hR
          go_enter Try.func65, Try.ntmps65
          go_wp2
          go_ret
          exact ⟨by rw [← HR.out]; first | rfl | (simp; omega), hb⟩
      · rw [may_not (fun h => h2 h.2.2.1)] at hR
        have HR := Lib.hid hR
        clear hR
        go_enter Try.func65, Try.ntmps65
        go_wp2
        go_ret
        exact ⟨by rw [← HR.out]; first | rfl | (simp; omega), hb⟩
    · rw [may_not (fun h => h1 h.2.1)] at hR
      have HR := Lib.hid hR
      clear hR
      go_enter Try.func65, Try.ntmps65
      go_wp2
      go_ret
      exact ⟨by rw [← HR.out]; first | rfl | (simp; omega), hb⟩
  · rw [may_not (fun h => h0 h.1)] at hR
    have HR := Lib.hid hR
    clear hR
    go_enter Try.func65, Try.ntmps65
    go_wp2
    go_ret
    exact ⟨by rw [← HR.out]; first | rfl | (simp; omega), hb⟩
end Go.Proofs.Ytnebacomafgjjaa
