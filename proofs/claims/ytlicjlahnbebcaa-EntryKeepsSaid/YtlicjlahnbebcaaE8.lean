/- What is stored and appended; calls; the entry and the results of a call. -/
import Derived.Test.YtlicjlahnbebcaaE7
namespace Go.Proofs.Ytlicjlahnbebcaa
open Go.RowKit

theorem heap_setCells_other (g : Nat) : ∀ (us : List Value) (k : Nat) (w : World) (j : Nat), j ≠ g → (w.setCells g k us).heap[j]? = w.heap[j]?
  | [], _, _, _, _ => rfl
  | u :: us, k, w, j, h => by
    rw [World.setCells, heap_setCells_other g us (k + 1) _ j h, Below.heap_setCell _ _ _ _ h]
theorem heap_setCells_size (g : Nat) : ∀ (us : List Value) (k : Nat) (w : World), (w.setCells g k us).heap.size = w.heap.size
  | [], _, _ => rfl
  | u :: us, k, w => by rw [World.setCells, heap_setCells_size g us (k + 1)]; simp [World.setCell]
theorem heap_setCells_same (g : Nat) : ∀ (us : List Value) (k : Nat) (w : World) (cs : Array Value) (ty : TypeId), w.heap[g]? = some (.cells cs ty (0, 0)) → ∃ cs', (w.setCells g k us).heap[g]? = some (.cells cs' ty (0, 0)) ∧ cs'.toList = putL cs.toList k us
  | [], _, _, cs, _, h => ⟨cs, h, rfl⟩
  | u :: us, k, w, cs, ty, h => by
    have h1 : (w.setCell ⟨g, k, none⟩ u).heap[g]? = some (.cells (cs.setIfInBounds k u) ty (0, 0)) := heap_setCell_same w g k cs ty u h
    obtain ⟨cs', h2, h3⟩ := heap_setCells_same g us (k + 1) _ _ ty h1
    exact ⟨cs', by rw [World.setCells]; exact h2, by rw [h3, putL]; simp⟩
theorem Keep.setCells {X : Nat → Prop} {w : World} {g : Nat} (ha : w.heap.size ≤ g ∨ X g) : ∀ (us : List Value) (k : Nat) (w1 : World), Keep X w w1 → Keep X w (w1.setCells g k us)
  | [], _, _, h => h
  | u :: us, k, w1, h => Keep.setCells ha us (k + 1) _ (h.setCell (a := ⟨g, k, none⟩) ha u)
theorem own_same {w w' : World} {base e size n : Nat} {v : Value} {xs : List Value} (h : w.ownsRow base e size v n xs) (hb : ∀ g, v.ownBlock = some g → w'.heap[g]? = w.heap[g]?) : w'.ownsRow base e size v n xs := by
  obtain ⟨h1, h2⟩ := h
  refine ⟨h1, ?_⟩
  rcases h2 with h2 | ⟨g, cap, cur, hv, hb', hh, h3⟩
  · exact .inl h2
  · exact .inr ⟨g, cap, cur, hv, hb', by rw [hb g (by rw [hv]; rfl)]; exact hh, h3⟩
section
variable {P : Program} {X : XF} {w0 w : World} {σ : St} {a : Act} {μ : LMap}
theorem blk_setB (σ : St) (id : Nat) (b : LB) (k : Nat) : (σ.setB id b).blk k = if k = id then some b else σ.blk k := by
  unfold St.setB St.blk
  by_cases e : k = id
  · subst e; rw [look_cons_eq, if_pos rfl]
  · rw [look_cons_ne e, if_neg e]
/-- A block of one's own is written; what it holds then reads as the new state says. -/
theorem SimM.write (h : SimM X w0 σ a w μ) {id g : Nat} {l : LI} (hm : μ.m id = some l) (hg : l.block = some g) {k : Nat} {us : List Value} {b' : LB} (hb : BlkOK w0 (w.setCells g k us) μ id b') (hlat : Later w μ (w.setCells g k us) μ → True) :
    SimM X w0 (σ.setB id b') a (w.setCells g k us) μ := by
  have hlater : Later w μ (w.setCells g k us) μ :=
    ⟨fun ad u hc ho => ⟨by
      have hne : ad.block ≠ g := fun e => ho (.inr ⟨id, l, hm, by rw [hg, e]⟩)
      rw [World.cell?_of_block (heap_setCells_other g us k w ad.block hne)]
      exact hc, ho⟩, fun _ _ h => h, fun _ z k h => ⟨z, k, h, Nat.le_refl _, fun _ => rfl⟩⟩
  refine ⟨h.nt, h.defers, Keep.setCells (h.fresh id l g hm hg).2 us k w h.keep, h.F, h.hF, h.hX, h.fr.later hlater, ?_, ?_, ?_, h.apart, ?_⟩
  · intro t p hp
    obtain ⟨y, hy, r⟩ := h.env t p hp
    exact ⟨y, hy, Rep.later hlater p y r⟩
  · intro j bk hj
    rw [blk_setB] at hj
    by_cases e : j = id
    · subst e
      rw [if_pos rfl] at hj
      injection hj with hj
      subst hj
      exact hb
    · rw [if_neg e] at hj
      have hok := h.blk j bk hj
      cases bk with
      | box cells =>
        obtain ⟨g', cs, ty, hm', hg', r, h1⟩ := hok
        have hne : g' ≠ g := fun e' => e (h.apart j id _ _ g hm' hm (by rw [← e']; rfl) hg)
        exact ⟨g', cs, ty, hm', (heap_setCells_other g us k w g' hne).trans hg', RepL.later hlater _ _ r, h1⟩
      | row ty sz ver xs =>
        obtain ⟨y, vs, hm', hown, r, h1, h2⟩ := hok
        exact ⟨y, vs, hm', own_same hown (fun g' hg' => heap_setCells_other g us k w g' (fun e' => e (h.apart j id _ _ g hm' hm (by rw [← e']; exact hg') hg))), RepL.later hlater _ _ r, h1, h2⟩
  · intro j l' hj
    rw [blk_setB]
    by_cases e : j = id
    · exact ⟨b', by rw [if_pos e]⟩
    · rw [if_neg e]; exact h.dom j l' hj
  · intro j l' g' hj hg'
    rw [heap_setCells_size]
    exact h.fresh j l' g' hj hg'
theorem run_storeVar {t : TypeId} {ag : Bool} {n g k : Nat} {v : Value} {cs : Array Value} {ty : TypeId} (ht : tyB P t = some (ag, n)) (hv : v.cells.size = n) (hg : w.heap[g]? = some (.cells cs ty (0, 0))) (hk : k + n ≤ cs.size) (h1 : ∀ u ∈ v.cells.toList, u.oneCell' = true) :
    (storeVar t ⟨g, k, none⟩ v).run P w = .ok () (w.setCells g k v.cells.toList) := by
  have hst := run_storeCells_cells (P := P) g k v.cells.toList 0 w
    (fun j hj => by
      rw [Nat.add_zero, cell_of_row w g (k + j) cs ty _ hg]
      rw [Array.length_toList] at hj
      rw [Array.getElem?_eq_getElem (by omega)]
      rfl)
    (fun j hj => by
      unfold World.frozen?
      rw [Nat.add_zero]
      simp only [hg]
      simp) h1
  rw [Nat.add_zero] at hst
  simp [storeVar, run_size ht, hv, hst]
end
section
variable {P : Program} {σ : St} {dst : Option Tmp} {ty : TypeId} {pos : String} {after : Array Edge} {guard : Option (Nat × Bool)}
theorem eff_store_lp {t : TypeId} {x v : Operand} {id k n : Nat} {ag : Bool} {cells : List PV} {p : PV} [ht : TySz P t ag n] (hx : σ.ev x = some (.lp id k) := by rfl) (hb : σ.blk id = some (.box cells) := by rfl) (hv : σ.ev v = some p := by rfl) (hl : p.lies = true := by rfl) (hn : (Nat.beq p.cells.length n && Nat.ble (k + n) cells.length) = true := by rfl) :
    OpEff P ⟨none, .store t x v, ty, pos, after, guard⟩ σ (σ.setB id (.box (putL cells k p.cells))) := by
  refine ⟨fun X w0 a w μ K Q s hK => ?_⟩
  rw [Bool.and_eq_true] at hn
  have n1 := Nat.eq_of_beq_eq_true hn.1
  have n2 := hn.2
  rw [Nat.ble_eq] at n2
  have h1 := eval_tmp s hx
  have h2 := eval_tmp s hv
  obtain ⟨q1, q2⟩ := h2.lies hl
  obtain ⟨g, cs, bt, hm, hg, r, h3⟩ := s.blk id _ hb
  simp only [Rep] at h1
  obtain ⟨g', hm', e⟩ := h1
  rw [hm] at hm'
  injection hm' with hm'
  injection hm' with hm'
  subst hm'
  have hsz : (a.eval v).cells.size = n := by rw [← Array.length_toList, q1.length, n1]
  have hlen : cs.size = cells.length := by rw [← Array.length_toList, r.length]
  have hrun := run_storeVar (P := P) (w := w) (k := k) ht.h hsz hg (by omega) q2
  obtain ⟨cs', g1, g2⟩ := heap_setCells_same g (a.eval v).cells.toList k w cs bt hg
  have hlater : Later w μ (w.setCells g k (a.eval v).cells.toList) μ :=
    ⟨fun ad u hc ho => ⟨by
      have hne : ad.block ≠ g := fun e => ho (.inr ⟨id, _, hm, by rw [e]; rfl⟩)
      rw [World.cell?_of_block (heap_setCells_other g _ k w ad.block hne)]
      exact hc, ho⟩, fun _ _ h => h, fun _ z k h => ⟨z, k, h, Nat.le_refl _, fun _ => rfl⟩⟩
  have hbk : BlkOK w0 (w.setCells g k (a.eval v).cells.toList) μ id (.box (putL cells k p.cells)) :=
    ⟨g, cs', bt, hm, g1, by rw [g2]; exact RepL.later hlater _ _ (RepL.puts q1 k r), by rw [g2]; exact putL_mem _ _ _ q2 h3⟩
  unfold Oper.wp
  have he : (execOp a.eval ⟨none, .store t x v, ty, pos, after, guard⟩).run P w = .ok .skip (w.setCells g k (a.eval v).cells.toList) := by
    simp [execOp, e, Instr.storeAt, Instr.sureAddr, hrun]
  rw [he]
  exact hK _ _ μ (s.write hm rfl hbk (fun _ => trivial))
theorem flatten_put {sz : Nat} : ∀ {xs : List (List PV)}, (∀ e ∈ xs, e.length = sz) → ∀ (i : Nat) (e : List PV), xs[i]? = some e → ∀ (ps : List PV) (j : Nat), j + ps.length ≤ sz → (xs.set i (putL e j ps)).flatten = putL xs.flatten (i * sz + j) ps
  | [], _, _, _, h, _, _, _ => by simp at h
  | x :: xs, hl, 0, e, h, ps, j, hj => by
    simp at h
    subst h
    have hx := hl x (List.mem_cons_self ..)
    rw [List.set_cons_zero, List.flatten_cons, List.flatten_cons, Nat.zero_mul, Nat.zero_add]
    have gen : ∀ (ps x y : List PV) (j : Nat), j + ps.length ≤ x.length → putL x j ps ++ y = putL (x ++ y) j ps := by
      intro ps
      induction ps with
      | nil => intro x y j _; rfl
      | cons p ps ih =>
        intro x y j hj
        simp only [List.length_cons] at hj
        rw [putL, putL, ih _ _ _ (by rw [List.length_set]; omega), List.set_append_left _ _ (by omega)]
    exact gen ps x _ j (by omega)
  | x :: xs, hl, i + 1, e, h, ps, j, hj => by
    have hx := hl x (List.mem_cons_self ..)
    have ih := flatten_put (fun e he => hl e (List.mem_cons_of_mem _ he)) i e (by simpa using h) ps j hj
    rw [List.set_cons_succ, List.flatten_cons, List.flatten_cons, ih]
    have gen : ∀ (ps x y : List PV) (j : Nat), x ++ putL y j ps = putL (x ++ y) (x.length + j) ps := by
      intro ps
      induction ps with
      | nil => intro x y j; rfl
      | cons p ps ih =>
        intro x y j
        rw [putL, putL, ih, List.set_append_right _ _ (by omega), show x.length + j - x.length = j from by omega]
        rfl
    rw [gen, hx, show sz + (i * sz + j) = (i + 1) * sz + j from by rw [Nat.succ_mul]; omega]
theorem putAll_eq : ∀ (us vs : List Value) (o : Nat), putAll vs o us = putL vs o us
  | [], _, _ => rfl
  | u :: us, vs, o => by rw [putAll, putL, putAll_eq]
theorem eff_store_rp {t : TypeId} {x v : Operand} {rt id ver sz i j n : Nat} {ag : Bool} {xs : List (List PV)} {e : List PV} {p : PV} [ht : TySz P t ag n] (hx : σ.ev x = some (.rp id ver sz i j)) (hb : σ.blk id = some (.row rt sz ver xs)) (he : xs[i]? = some e) (hv : σ.ev v = some p) (hl : p.lies = true) (hn : Nat.beq p.cells.length n = true) (hj : j + n ≤ sz) :
    OpEff P ⟨none, .store t x v, ty, pos, after, guard⟩ σ (σ.setB id (.row rt sz ver (xs.set i (putL e j p.cells)))) := by
  refine ⟨fun X w0 a w μ K Q s hK => ?_⟩
  have n1 := Nat.eq_of_beq_eq_true hn
  have h1 := eval_tmp s hx
  have h2 := eval_tmp s hv
  obtain ⟨q1, q2⟩ := h2.lies hl
  obtain ⟨g, m, c, vs, e1, hm, hown, r, hlen, h3⟩ := (row_parts s hb (y := a.eval x)).2 i j rfl h1
  have hil : i < xs.length := (List.getElem?_eq_some_iff.1 he).1
  have hmn : m = xs.length := by
    rcases hown.2 with ⟨hv, _⟩ | ⟨g', cap, cur, hv, _⟩
    · cases hv
    · injection hv with _ e2 _
  subst hmn
  have hblock : ∃ cur, w.heap[g]? = some (.cells cur rt (0, 0)) ∧ xs.length * sz ≤ cur.size := by
    rcases hown.2 with ⟨hv, _⟩ | ⟨g', cap, cur, hv, _, hh, hnc, _, hs, _⟩
    · cases hv
    · injection hv with e1 _ e2
      injection e1 with e1
      injection e1 with e1
      subst e1
      exact ⟨cur, hh, by rw [hs]; exact Nat.mul_le_mul_right _ hnc⟩
  obtain ⟨cur, hcur, hcs⟩ := hblock
  have hsz : (a.eval v).cells.size = n := by rw [← Array.length_toList, q1.length, n1]
  have hle : (i + 1) * sz ≤ xs.length * sz := Nat.mul_le_mul_right _ hil
  rw [Nat.succ_mul] at hle
  have hrun := run_storeVar (P := P) (w := w) (k := i * sz + j) ht.h hsz hcur (by omega) q2
  have hlater : Later w μ (w.setCells g (i * sz + j) (a.eval v).cells.toList) μ :=
    ⟨fun ad u hc ho => ⟨by
      have hne : ad.block ≠ g := fun e => ho (.inr ⟨id, _, hm, by rw [e]; rfl⟩)
      rw [World.cell?_of_block (heap_setCells_other g _ _ w ad.block hne)]
      exact hc, ho⟩, fun _ _ h => h, fun _ z k h => ⟨z, k, h, Nat.le_refl _, fun _ => rfl⟩⟩
  have hbk : BlkOK w0 (w.setCells g (i * sz + j) (a.eval v).cells.toList) μ id (.row rt sz ver (xs.set i (putL e j p.cells))) := by
    refine ⟨_, putAll vs (i * sz + j) (a.eval v).cells.toList, hm, ?_, ?_, ?_, ?_⟩
    · rw [List.length_set]
      exact own_put _ _ _ _ hown
    · rw [flatten_put hlen i e he _ j (by omega), putAll_eq]
      exact RepL.later hlater _ _ (RepL.puts q1 _ r)
    · intro e' he'
      rcases List.mem_or_eq_of_mem_set he' with h | rfl
      · exact hlen e' h
      · rw [putL_length]; exact hlen e (List.mem_of_getElem? he)
    · rw [putAll_eq]; exact putL_mem _ _ _ q2 h3
  unfold Oper.wp
  have he' : (execOp a.eval ⟨none, .store t x v, ty, pos, after, guard⟩).run P w = .ok .skip (w.setCells g (i * sz + j) (a.eval v).cells.toList) := by
    simp [execOp, e1, Instr.storeAt, Instr.sureAddr, hrun]
  rw [he']
  exact hK _ _ μ (s.write hm rfl hbk (fun _ => trivial))
/-! ### append -/
theorem RepR.row {w : World} {μ : LMap} {A : Option Addr} {sz : Nat} {ys : List (List PV)} (r : RepR w μ A sz ys 0) : ∃ us, RepL w μ ys.flatten us ∧ (∀ u ∈ us, u.oneCell' = true) ∧ Row w A us ∧ us.length = ys.length * sz ∧ ∀ e ∈ ys, e.length = sz := by
  obtain ⟨h1, h2⟩ := r.flat
  obtain ⟨us, q1, q2, q3⟩ := h1.row
  refine ⟨us, q1, q2, fun j u hu => ?_, by rw [q1.length, h2], ?_⟩
  · obtain ⟨ad, e, hc⟩ := q3 j u hu
    exact ⟨ad, e, by simpa using hc⟩
  · intro e he
    obtain ⟨i, hi⟩ := List.getElem?_of_mem he
    exact (r.get i e hi).1
theorem SimM.regrow {X : XF} {w0 w w' : World} {a : Act} {μ : LMap} (s : SimM X w0 σ a w μ) {id ver sz : Nat} {rt : TypeId} {xs xs' : List (List PV)} {v v' : Value} {us : List Value} (hm : μ.m id = some (.row v ver)) (_hb : σ.blk id = some (.row rt sz ver xs)) (hg : w.grownBy w' v.ownBlock) (hat : v'.ownBlock = v.ownBlock ∨ v'.ownBlock = some w.heap.size)
    (hown : w'.ownsRow w0.heap.size rt sz v' xs'.length us) (hr : Later w μ w' (μ.set id (.row v' (ver + 1))) → RepL w' (μ.set id (.row v' (ver + 1))) xs'.flatten us) (hl : ∀ e ∈ xs', e.length = sz) (h1 : ∀ u ∈ us, u.oneCell' = true) :
    Later w μ w' (μ.set id (.row v' (ver + 1))) ∧ SimM X w0 (σ.setB id (.row rt sz (ver + 1) xs')) a w' (μ.set id (.row v' (ver + 1))) := by
  have hblk : ∀ k, k < w.heap.size → some k ≠ v.ownBlock → w'.heap[k]? = w.heap[k]? := fun k hk hne => hg.block k hk hne
  have hlater : Later w μ w' (μ.set id (.row v' (ver + 1))) := by
    refine ⟨fun ad u hc ho => ⟨?_, fun hw => ?_⟩, fun k g hk => ?_, fun k z n hk => ?_⟩
    · rw [World.cell?_of_block (hblk ad.block (World.block_lt_of_cell? _ _ hc) (fun e => ho (.inr ⟨id, _, hm, e.symm⟩)))]
      exact hc
    · rcases LMap.set_owns hw with hw | hw
      · exact ho hw
      · have hw' : v'.ownBlock = some ad.block := hw
        rcases hat with h | h
        · exact ho (.inr ⟨id, _, hm, h.symm.trans hw'⟩)
        · rw [h] at hw'
          injection hw' with hw'
          have := World.block_lt_of_cell? _ _ hc
          omega
    · rw [LMap.set_ne _ _ (fun e => by subst e; rw [hm] at hk; cases hk)]; exact hk
    · by_cases e : k = id
      · subst e
        rw [hm] at hk
        injection hk with hk
        injection hk with e1 e2
        subst e1 e2
        exact ⟨v', ver + 1, LMap.set_eq _ _ _, by omega, fun h => by omega⟩
      · exact ⟨z, n, by rw [LMap.set_ne _ _ e]; exact hk, Nat.le_refl _, fun _ => rfl⟩
  have hbl : ∀ g, (LI.row v' (ver + 1)).block = some g → w0.heap.size ≤ g ∧ g < w'.heap.size := fun g hg' => hown.lt g hg'
  refine ⟨hlater, s.nt, s.defers, ?_, s.F, s.hF, s.hX, s.fr.later hlater, ?_, ?_, ?_, ?_, ?_⟩
  · refine ⟨hg.os.trans s.keep.os, hg.tape.trans s.keep.tape, hg.output.trans s.keep.output, Nat.le_trans s.keep.size hg.size, fun k hk hx => ?_⟩
    rw [hblk k (Nat.lt_of_lt_of_le hk s.keep.size) (fun e => by
      have := (s.fresh id _ k hm e.symm).2
      rcases this with h | h
      · omega
      · exact hx h)]
    exact s.keep.block k hk hx
  · intro t p hp
    obtain ⟨y, hy, r⟩ := s.env t p hp
    exact ⟨y, hy, Rep.later hlater p y r⟩
  · intro k bk hk
    rw [blk_setB] at hk
    by_cases e : k = id
    · subst e
      rw [if_pos rfl] at hk
      injection hk with hk
      subst hk
      exact ⟨v', us, LMap.set_eq _ _ _, hown, hr hlater, hl, h1⟩
    · rw [if_neg e] at hk
      have hok := s.blk k bk hk
      cases bk with
      | box cells =>
        obtain ⟨g', cs, ty, hm', hg', r, h1⟩ := hok
        exact ⟨g', cs, ty, by rw [LMap.set_ne _ _ e]; exact hm', (hblk g' (s.fresh k _ g' hm' rfl).1 (fun e' => e (s.apart k id _ _ g' hm' hm rfl e'.symm))).trans hg', RepL.later hlater _ _ r, h1⟩
      | row ty sz ver xs =>
        obtain ⟨y, vs, hm', hown', r, h1, h2⟩ := hok
        exact ⟨y, vs, by rw [LMap.set_ne _ _ e]; exact hm', own_same hown' (fun g' hg' => hblk g' (s.fresh k _ g' hm' hg').1 (fun e' => e (s.apart k id _ _ g' hm' hm hg' e'.symm))), RepL.later hlater _ _ r, h1, h2⟩
  · intro k l' hk
    rw [blk_setB]
    by_cases e : k = id
    · exact ⟨_, by rw [if_pos e]⟩
    · rw [LMap.set_ne _ _ e] at hk
      rw [if_neg e]
      exact s.dom k l' hk
  · have key : ∀ k l g, k ≠ id → μ.m k = some l → l.block = some g → v'.ownBlock = some g → False := by
      intro k l g hne hk hg1 hg2
      rcases hat with h | h
      · exact hne (s.apart k id _ _ g hk hm hg1 (h.symm.trans hg2))
      · rw [h] at hg2
        injection hg2 with hg2
        have := (s.fresh k l g hk hg1).1
        omega
    intro k k' l1 l2 g h1 h2 g1 g2
    by_cases e1 : k = id
    · by_cases e2 : k' = id
      · rw [e1, e2]
      · subst e1
        rw [LMap.set_eq] at h1
        injection h1 with h1
        subst h1
        rw [LMap.set_ne _ _ e2] at h2
        exact (key k' l2 g e2 h2 g2 g1).elim
    · rw [LMap.set_ne _ _ e1] at h1
      by_cases e2 : k' = id
      · subst e2
        rw [LMap.set_eq] at h2
        injection h2 with h2
        subst h2
        exact (key k l1 g e1 h1 g1 g2).elim
      · rw [LMap.set_ne _ _ e2] at h2
        exact s.apart k k' l1 l2 g h1 h2 g1 g2
  · intro k l' g hk hg'
    by_cases e : k = id
    · subst e
      rw [LMap.set_eq] at hk
      injection hk with hk
      subst hk
      obtain ⟨h3, h4⟩ := hbl g hg'
      exact ⟨h4, .inl h3⟩
    · rw [LMap.set_ne _ _ e] at hk
      obtain ⟨h3, h4⟩ := s.fresh k l' g hk hg'
      exact ⟨Nat.lt_of_lt_of_le h3 hg.size, h4⟩
/-- An append to a slice of one's own. -/
theorem eff_append {d t e sz bytes id ver : Nat} {z : Value} {s x : Operand} {xs ys : List (List PV)} [h : SliceT P t e sz] [hz : ElemT P e z sz bytes] (hs : σ.ev s = some (.row id ver)) (hb : σ.blk id = some (.row e sz ver xs)) (hx : σ.ev x = some (.sl sz ys)) (hzs : Nat.beq z.cells.size sz = true) (hsz : sz ≠ 0)
    (h63 : xs.length + ys.length ≤ maxLen) (hby : (xs.length + ys.length) * bytes ≤ 140737488355328) (hd : inB σ (some d) = true) :
    OpEff P ⟨some d, .call { callee := .builtin .append, args := #[s, x], argTypes := #[t, t] }, ty, pos, after, guard⟩ σ ((σ.setB id (.row e sz (ver + 1) (xs ++ ys))).put (some d) (.row id (ver + 1))) := by
  refine ⟨fun X w0 a w μ K Q sm hK => ?_⟩
  obtain ⟨i, hu, hi, hsi⟩ := slice_parts h.h
  obtain ⟨i', hi', hz0, hz1, hz2⟩ := info_parts hz.h
  rw [hi] at hi'
  injection hi' with hi'
  subst hi'
  have h1 := eval_tmp sm hs
  have h2 := eval_tmp sm hx
  obtain ⟨vs, hm, hown, r, hl, h3⟩ := (row_parts sm hb (p := .row id ver) (y := a.eval s)).1 rfl h1
  simp only [Rep] at h2
  obtain ⟨A, c, e2, hyc, hcm, ry⟩ := h2
  obtain ⟨us, q1, q2, q3, q4, q5⟩ := ry.row
  refine wp_append_row (P := P) w s x t rfl w0.heap.size e i z sz bytes hu hi hz0 hz1 hz2 (Nat.eq_of_beq_eq_true hzs) (by omega) _ xs.length vs rfl hown A ys.length c us e2 q4 q3 q2 h63 hby sm.keep.size ?_
  intro v' w' hown' hgrow hat
  have hown'' : w'.ownsRow w0.heap.size e sz v' (xs ++ ys).length (vs ++ us) := by rw [List.length_append]; exact hown'
  obtain ⟨hlat, sm'⟩ := sm.regrow hm hb hgrow hat hown'' (fun hlat => by
    rw [List.flatten_append]
    exact (RepL.later hlat _ _ r).append (RepL.later hlat _ _ (RepL.opens _ _ q1))) (fun e' he' => by
      rcases List.mem_append.1 he' with h | h
      · exact hl e' h
      · exact q5 e' h) (fun u hu => by
      rcases List.mem_append.1 hu with h | h
      · exact h3 u h
      · exact q2 u h)
  refine hK _ _ _ (sm'.put (d := some d) hd ?_)
  simp only [Rep]
  refine ⟨v', ver + 1, LMap.set_eq _ _ _, Nat.le_refl _, ?_, fun _ => rfl⟩
  rcases hown'.2 with ⟨hv, _⟩ | ⟨_, _, _, hv, _⟩ <;> rw [hv] <;> rfl
/-- An append to nothing. -/
theorem ok_append_nil {d t e sz bytes : Nat} {z : Value} {s x : Operand} {ys : List (List PV)} [h : SliceT P t e sz] [hz : ElemT P e z sz bytes] (hs : σ.ev s = some (.v (.slice none 0 0))) (hx : σ.ev x = some (.sl sz ys)) (hzs : Nat.beq z.cells.size sz = true) (hsz : sz ≠ 0)
    (h63 : ys.length ≤ maxLen) (hby : ys.length * bytes ≤ 140737488355328) (hd : inB σ (some d) = true) :
    OpOK P ⟨some d, .call { callee := .builtin .append, args := #[s, x], argTypes := #[t, t] }, ty, pos, after, guard⟩ σ (.row d 0) [(d, .row e sz 0 ys)] :=
  OpOK.new rfl hd fun X w0 σ' a w μ hag sm => by
    obtain ⟨i, hu, hi, hsi⟩ := slice_parts h.h
    obtain ⟨i', hi', hz0, hz1, hz2⟩ := info_parts hz.h
    rw [hi] at hi'
    injection hi' with hi'
    subst hi'
    have h1 := eval_v sm (hag.ev s (by simp [Op.operands, Call.operands]) _ hs)
    have h2 := eval_tmp sm (hag.ev x (by simp [Op.operands, Call.operands]) _ hx)
    simp only [Rep] at h2
    obtain ⟨A, c, e2, hyc, hcm, ry⟩ := h2
    obtain ⟨us, q1, q2, q3, q4, q5⟩ := ry.row
    obtain ⟨v', w', hrun, hown, hgrow, hat⟩ := run_append_row (P := P) w w.heap.size t ty e i z sz bytes hu hi hz0 hz1 hz2 (Nat.eq_of_beq_eq_true hzs) (by omega) (.slice none 0 0) 0 [] (World.ownsRow_nil _ _ _ _) A ys.length c us q4 q3 q2 (by simpa using h63) (by simpa using hby) (Nat.le_refl _)
    rw [Nat.zero_add, List.nil_append] at hown
    have hb : Below w.heap.size w w' := (Below.refl _ _).grown hgrow (Nat.le_refl _) (fun k hk => by cases hk)
    refine ⟨v', w', .row v' 0, ?_, hb, fun g hg => hown.lt g hg, fun hlat => ⟨⟨v', us, LMap.set_eq _ _ _, ?_, ?_, q5, q2⟩, ?_⟩⟩
    · simp [execOp, resolve, invoke, builtin, h1, e2, hrun]
    · obtain ⟨g1, g2⟩ := hown
      refine ⟨g1, ?_⟩
      rcases g2 with g2 | ⟨g, cap, cur, hv, hbg, rest⟩
      · exact .inl g2
      · exact .inr ⟨g, cap, cur, hv, Nat.le_trans sm.keep.size hbg, rest⟩
    · exact RepL.later hlat _ _ (RepL.opens _ _ q1)
    · simp only [Rep]
      refine ⟨v', 0, LMap.set_eq _ _ _, Nat.le_refl _, ?_, fun _ => rfl⟩
      rcases hown.2 with ⟨hv, _⟩ | ⟨_, _, _, hv, _⟩ <;> rw [hv] <;> rfl
end
end Go.Proofs.Ytlicjlahnbebcaa
