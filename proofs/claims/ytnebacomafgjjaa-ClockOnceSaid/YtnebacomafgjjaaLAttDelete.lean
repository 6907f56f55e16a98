/- Package slices at rubato/api.Att. -/
import Derived.Test.YtnebacomafgjjaaLAtt
import Derived.Test.YtnebacomafgjjaaLAttIndex
import Derived.Test.YtnebacomafgjjaaOwn
namespace Go.Proofs.Ytnebacomafgjjaa
open Go.RowKit
theorem zero_att (W : World) : (zeroValue 48).run Try.prog W = .ok (.agg #[.int .i64 0, .int .i64 0]) W := by kernel_rfl
theorem att_own {w : World} {base e : Nat} {g n cap : Nat} {zs : List Att} (h : w.ownsRow base e 2 (.slice (some ⟨g, 0, none⟩) n cap) n (attE.flat zs)) {k : Nat} (hk : k < zs.length) (hn : zs.length = n) :
    w.cell? ⟨g, k * 2, none⟩ = some (.int .i64 (zs[k]'hk).T) ∧ w.cell? ⟨g, k * 2 + 1, none⟩ = some (.int .i64 (zs[k]'hk).Id) := by
  have hx : zs[k]? = some (zs[k]'hk) := List.getElem?_eq_getElem hk
  refine ⟨?_, ?_⟩
  · rw [h.cellAt _ (by omega)]; exact attE.flat_at zs k _ 0 _ hx rfl
  · rw [h.cellAt _ (by omega)]; exact attE.flat_at zs k _ 1 _ hx rfl
set_option maxRecDepth 100000 in
set_option maxHeartbeats 1000000 in
theorem deletefunc_row_att (g cap : Nat) (xs : List Att) (w0 w : World) (hb0 : Below w0.heap.size w0 w) (hown : w.ownsRow w0.heap.size 48 2 (.slice (some ⟨g, 0, none⟩) xs.length cap) xs.length (attE.flat xs)) (hm : cap ≤ maxLen) (hl : xs.length ≤ cap) (v : Value) (p : Att → Bool) (hp : IsPred Try.prog w0 v attV p) :
    Calls Try.prog 72 #[(.slice (some ⟨g, 0, none⟩) xs.length cap), v] w (OwnSl attE 48 w0 (xs.filter fun a => !p a)) := by
  have hidx := Lib.hid (indexfunc_att (some ⟨g, 0, none⟩) cap xs w hm hl (Row.of_own hown) v p (hp.later hb0))
  unfold maxLen at hm
  by_cases hany : ∃ a ∈ xs, p a = true
  · obtain ⟨k0, hk0⟩ : ∃ k0, xs.findIdx? p = some k0 := by
      cases h : xs.findIdx? p with
      | none =>
        rw [List.findIdx?_eq_none_iff] at h
        obtain ⟨a, ha, hpa⟩ := hany
        rw [h a ha] at hpa
        cases hpa
      | some i => exact ⟨i, rfl⟩
    have hidx2 : idxOf p xs = (k0 : Int) := by unfold idxOf; rw [hk0]
    obtain ⟨hlt0, hp0, hbefore⟩ := List.findIdx?_eq_some_iff_getElem.1 hk0
    rw [hidx2] at hidx
    have hkeep : (xs.take (k0 + 1)).filter (fun a => !p a) = xs.take k0 := by
      rw [filter_take_succ _ _ _ hlt0, if_neg (by rw [hp0]; decide), List.append_nil, List.filter_eq_self]
      intro a ha
      obtain ⟨m, hm, rfl⟩ := List.mem_take_iff_getElem.1 ha
      have := hbefore m (by omega)
      simpa using this
    have HK := Lib.hid hkeep
    clear hany hk0 hidx2 hp0 hbefore hkeep
    have hne : ((k0 : Int) == -1) = false := by rw [beq_eq_false_iff_ne]; omega
    obtain ⟨gf, first, caps, rfl, hent, hcall⟩ := hp
    have HP := Lib.hid hcall
    have HE := Lib.hid hent
    clear hcall hent
    go_enter Try.func72, Try.ntmps72
    go_wp2_with (go_at_call 71; refine (hidx.out).mono ?_; rintro e w1 ⟨rfl, hb1⟩)
    have HOWN1 := Lib.hid (own_later hown hb1)
    clear hidx hown
    go_loopw [5, 6] (fun i j wr => ∃ (a b : Nat) (zs : List Att), i = .int .i64 a ∧ j = .int .i64 b ∧ a < b ∧ b ≤ xs.length ∧ zs.length = xs.length ∧ zs.take a = (xs.take b).filter (fun a => !p a) ∧ zs.drop b = xs.drop b ∧ wr.ownsRow w0.heap.size 48 2 (.slice (some ⟨g, 0, none⟩) xs.length cap) xs.length (attE.flat zs) ∧ Below w0.heap.size w0 wr) (fun _ j _ => xs.length - (intOf j).toNat)
    case atStart => exact ⟨k0, k0 + 1, xs, rfl, by go_num, by omega, by omega, rfl, HK.out.symm, rfl, HOWN1.out, bt hb0 hb1⟩
    case round =>
      obtain ⟨a, b, zs, rfl, rfl, hab, hbn, hzl, htk, hdr, hown, hb⟩ := hrel
      have hs := hb.size
      obtain ⟨hg0, hg1⟩ := own_block hown
      have HTK := Lib.hid htk
      have HZL := Lib.hid hzl
      clear htk HOWN1 HK
      by_cases hlt : b < xs.length
      · obtain ⟨hzb, hdr2⟩ := getElem_of_drop hdr (by omega) hlt
        obtain ⟨hc0, hc1⟩ := att_own hown (k := b) (by omega) hzl
        rw [hzb] at hc0 hc1
        have HDR := Lib.hid hdr2
        have hent : ∀ (args : Array Value) (w : World), (callFunc gf args).run Try.prog w = .ok (.enter gf args) w := HE.out
        have HC := Lib.hid (fun W hbW => HP.out xs[b] W hbW)
        have HF := Lib.hid (filter_take_succ (fun a => !p a) xs b hlt)
        unfold attV at HC
        clear HP hdr hzb hdr2 hzl
        generalize xs[b] = x at hc0 hc1 HC HF
        cases hpx : p x
        · rw [hpx] at HC HF
          have hz0 := fun (o : Obj) => (own_later hown ((Below.refl _ _).alloc (Nat.le_refl _) o))
          have HZ := Lib.hid hz0
          clear hz0
          have hd0 := fun o => cell_alloc hc0 o; have hd1 := fun o => cell_alloc hc1 o
          go_wp2_with (refine ((HC.out _ (balloc hb _))).mono ?_; rintro e w2 ⟨rfl, hb2⟩; have HOWN2 := Lib.hid (own_later (HZ.out _) hb2); obtain ⟨ho0, ho1⟩ := att_own HOWN2.out (k := a) (by have := HZL.out; omega) HZL.out; have hf0 := HOWN2.out.frozenAt (a * 2); have hf1 := HOWN2.out.frozenAt (a * 2 + 1); have hbx0 := cell_later hb2 (a := ⟨wr.heap.size, 0, none⟩) (by rw [World.cell?_alloc_new]; rfl); have hbx1 := cell_later hb2 (a := ⟨wr.heap.size, 1, none⟩) (by rw [World.cell?_alloc_new]; rfl); clear hc0 hd0 hc1 hd1)
          go_roundw
          case rel =>
            have hput := own_put (attE.cells x) (a * 2) _ _ HOWN2.out
            rw [show a * 2 = a * (attE).size from rfl, attE.flat_put zs a x (by have := HZL.out; omega)] at hput
            refine ⟨a + 1, b + 1, zs.set a x, by go_num, by go_num, by omega, by omega, by rw [List.length_set]; exact HZL.out, ?_, (drop_set_lt zs a (b + 1) x (by omega)).trans HDR.out, hput, below_setCells (g := g) (attE.cells x) (a * 2) w2 ((balloc hb _).trans (hb2.mono (by simp; omega))) hg0⟩
            rw [take_set_at zs a x (by have := HZL.out; omega), HTK.out, HF.out]
            rfl
          case measure => simp [intOf]; omega
        · rw [hpx] at HC HF
          have hz0 := fun (o : Obj) => (own_later hown ((Below.refl _ _).alloc (Nat.le_refl _) o))
          have HZ := Lib.hid hz0
          clear hz0
          have hd0 := fun o => cell_alloc hc0 o; have hd1 := fun o => cell_alloc hc1 o
          go_wp2_with (refine ((HC.out _ (balloc hb _))).mono ?_; rintro e w2 ⟨rfl, hb2⟩; have HOWN2 := Lib.hid (own_later (HZ.out _) hb2); obtain ⟨ho0, ho1⟩ := att_own HOWN2.out (k := a) (by have := HZL.out; omega) HZL.out; have hf0 := HOWN2.out.frozenAt (a * 2); have hf1 := HOWN2.out.frozenAt (a * 2 + 1); have hbx0 := cell_later hb2 (a := ⟨wr.heap.size, 0, none⟩) (by rw [World.cell?_alloc_new]; rfl); have hbx1 := cell_later hb2 (a := ⟨wr.heap.size, 1, none⟩) (by rw [World.cell?_alloc_new]; rfl); clear hc0 hd0 hc1 hd1)
          go_roundw
          case rel => exact ⟨a, b + 1, zs, rfl, by go_num, by omega, by omega, HZL.out, by rw [HTK.out, HF.out]; simp, HDR.out, HOWN2.out, (balloc hb _).trans (hb2.mono (by simp; omega))⟩
          case measure => simp [intOf]; omega
      · have hge : ¬ ((b : Int) < xs.length) := by omega
        have hfin : zs.take a = xs.filter (fun a => !p a) := by rw [HTK.out, List.take_of_length_le (by omega)]
        have HFIN := Lib.hid hfin
        have hflen : (attE.flat zs).length = xs.length * 2 := hown.1
        have hone : ∀ u ∈ (Value.cells (.agg #[.int .i64 0, .int .i64 0])).toList, u.oneCell' = true := by
          intro u hu
          simp only [Value.cells, List.mem_cons, List.not_mem_nil, or_false] at hu
          rcases hu with rfl | rfl <;> rfl
        have hsome : ∀ j, j < (xs.length - a) * 2 → (wr.cell? ⟨g, a * 2 + j, none⟩).isSome = true := by
          intro j hj
          rw [Nat.sub_mul] at hj
          rw [hown.cellAt _ (by omega), Option.isSome_iff_ne_none, ne_eq, List.getElem?_eq_none_iff]
          omega
        have hcl := fun ty => run_clear_row (P := Try.prog) wr 34 48 ty (.agg #[.int .i64 0, .int .i64 0]) Try.underlying34 zero_att hone g (a * 2) (xs.length - a) (cap - a) (by omega) hsome (fun j _ => hown.frozenAt _)
        have hca : ¬ cap = a := by omega
        have hw := own_put (Builtin.zeroCells (Value.cells (.agg #[.int .i64 0, .int .i64 0])) (xs.length - a)).toList (a * 2) _ _ hown
        have hw2 := own_cut hw (m := a) (by omega)
        rw [putAll_take _ _ _ _ (Nat.le_refl _), show a * 2 = a * (attE).size from rfl, attE.flat_take, hfin] at hw2
        have HW := Lib.hid hw2
        have HBW := Lib.hid (below_setCells (g := g) (Builtin.zeroCells (Value.cells (.agg #[.int .i64 0, .int .i64 0])) (xs.length - a)).toList (a * 2) wr hb hg0)
        have HLEN := Lib.hid (show (xs.filter (fun a => !p a)).length = a from by rw [← hfin, List.length_take, HZL.out]; omega)
        clear hw hw2 hone hsome hfin hflen hdr HP
        generalize (Builtin.zeroCells (Value.cells (.agg #[.int .i64 0, .int .i64 0])) (xs.length - a)).toList = zz at hcl HW HBW
        go_wp2
        go_ret
        refine ⟨_, rfl, ?_, HBW.out⟩
        rw [HLEN.out]
        exact HW.out
  · have hnone : idxOf p xs = -1 := idxOf_none (fun m h => by
      cases hpm : p xs[m] with
      | false => rfl
      | true => exact absurd ⟨xs[m], List.getElem_mem h, hpm⟩ hany)
    have hall : xs.filter (fun a => !p a) = xs := by
      rw [List.filter_eq_self]
      intro a ha
      cases hpa : p a with
      | false => rfl
      | true => exact absurd ⟨a, ha, hpa⟩ hany
    rw [hnone] at hidx
    rw [hall]
    have HO := Lib.hid hown
    clear hnone hall hany hown
    go_enter Try.func72, Try.ntmps72
    go_wp2_with (go_at_call 71; refine (hidx.out).mono ?_; rintro e w1 ⟨rfl, hb1⟩)
    go_ret
    exact ⟨_, rfl, own_later HO.out hb1, bt hb0 hb1⟩
set_option maxRecDepth 100000 in
set_option maxHeartbeats 1000000 in
theorem deletefunc_att (sv : Value) (xs : List Att) (w0 w : World) (hb0 : Below w0.heap.size w0 w) (hown : w.ownsRow w0.heap.size 48 2 sv xs.length (attE.flat xs)) (v : Value) (p : Att → Bool) (hp : IsPred Try.prog w0 v attV p) :
    Calls Try.prog 72 #[sv, v] w (OwnSl attE 48 w0 (xs.filter fun a => !p a)) := by
  rcases hown.2 with ⟨rfl, h0⟩ | ⟨g, cap, cur, rfl, hb, hh, hnc, hm, hs, ht⟩
  · have : xs = [] := List.eq_nil_of_length_eq_zero h0
    subst this
    have hidx := indexfunc_att none 0 [] w (by simp [maxLen]) (Nat.le_refl _) (Row.nil w none) v p (hp.later hb0)
    rw [show idxOf p [] = -1 from rfl] at hidx
    have HI := Lib.hid hidx
    clear hidx hown h0
    go_enter Try.func72, Try.ntmps72
    go_wp2_with (go_at_call 71; refine (HI.out).mono ?_; rintro e w1 ⟨rfl, hb1⟩)
    go_ret
    exact ⟨_, rfl, World.ownsRow_nil _ _ _ _, bt hb0 hb1⟩
  · exact deletefunc_row_att g cap xs w0 w hb0 hown hm hnc v p hp
end Go.Proofs.Ytnebacomafgjjaa
