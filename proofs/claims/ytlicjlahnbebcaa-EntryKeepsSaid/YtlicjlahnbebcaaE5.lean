/- What each operation yields, as values read: memory. -/
import Derived.Test.YtlicjlahnbebcaaE4
namespace Go.Proofs.Ytlicjlahnbebcaa
open Go.RowKit

def PV.cells : PV → List PV
  | .agg cs => cs
  | p => [p]
/-- A value of one cell. -/
def PV.one : PV → Bool
  | .v x => x.oneCell'
  | .any | .agg _ | .tup _ | .own _ _ _ => false
  | _ => true
theorem Rep.one {w : World} {μ : LMap} {p : PV} {y : Value} (h : Rep w μ p y) (hp : p.one = true) : y.oneCell' = true ∧ y.cells = #[y] := by
  cases p with
  | v x => simp only [Rep] at h; subst h; simp only [PV.one] at hp; exact ⟨hp, by cases y <;> first | rfl | cases hp⟩
  | any => cases hp
  | agg cs => cases hp
  | tup cs => cases hp
  | sl sz xs => simp only [Rep] at h; obtain ⟨A, c, rfl, _⟩ := h; exact ⟨rfl, rfl⟩
  | ptr cs => simp only [Rep] at h; obtain ⟨A, rfl, _⟩ := h; exact ⟨rfl, rfl⟩
  | lp id o => simp only [Rep] at h; obtain ⟨A, _, rfl⟩ := h; exact ⟨rfl, rfl⟩
  | row id ver => simp only [Rep] at h; obtain ⟨_, _, _, _, h1, _⟩ := h; exact ⟨h1, by cases y <;> first | rfl | cases h1⟩
  | rp id ver sz i j => simp only [Rep] at h; obtain ⟨_, _, _, _, h1, _⟩ := h; exact ⟨h1, by cases y <;> first | rfl | cases h1⟩
  | own ty sz xs => cases hp
  | fn f a b => simp only [Rep] at h; obtain ⟨A, _, rfl, _⟩ := h; exact ⟨rfl, rfl⟩
  | ifc t x => simp only [Rep] at h; obtain ⟨A, rfl, _⟩ := h; exact ⟨rfl, rfl⟩
/-- A value that is laid into memory. -/
def PV.lies : PV → Bool
  | .agg _ => true
  | p => p.one
theorem Rep.lies {w : World} {μ : LMap} {p : PV} {y : Value} (h : Rep w μ p y) (hp : p.lies = true) : RepL w μ p.cells y.cells.toList ∧ ∀ u ∈ y.cells.toList, u.oneCell' = true := by
  by_cases ho : p.one = true
  · obtain ⟨h1, h2⟩ := h.one ho
    rw [h2]
    have : p.cells = [p] := by cases p <;> first | rfl | cases ho
    rw [this]
    exact ⟨⟨y, [], rfl, h, rfl⟩, fun u hu => by simp at hu; subst hu; exact h1⟩
  · cases p with
    | agg cs =>
      simp only [Rep] at h
      obtain ⟨vs, rfl, r, h1⟩ := h
      exact ⟨r, h1⟩
    | _ => exact absurd hp ho
theorem RepL.of_lits {w : World} {μ : LMap} : ∀ zs : List Value, RepL w μ (zs.map PV.v) zs
  | [] => rfl
  | z :: zs => ⟨z, zs, rfl, rfl, RepL.of_lits zs⟩

section
variable {P : Program} {X : XF} {w0 w : World} {σ : St} {a : Act} {μ : LMap}
/-- A new block, not one's own. -/
theorem new_not_owned (h : SimM X w0 σ a w μ) : ¬ μ.owns w.heap.size := by
  rintro (hF | ⟨id, l, hl, hb⟩)
  · rw [h.F] at hF
    have := h.hF _ hF
    have := h.keep.size
    omega
  · have := (h.fresh id l _ hl hb).1
    omega
def LMap.set (μ : LMap) (id : Nat) (l : LI) : LMap := ⟨μ.F, fun k => if k = id then some l else μ.m k⟩
theorem LMap.set_eq (μ : LMap) (id : Nat) (l : LI) : (μ.set id l).m id = some l := if_pos rfl
theorem LMap.set_ne (μ : LMap) {id k : Nat} (l : LI) (h : k ≠ id) : (μ.set id l).m k = μ.m k := if_neg h
theorem LMap.set_owns {μ : LMap} {id : Nat} {l : LI} {g : Nat} (h : (μ.set id l).owns g) : μ.owns g ∨ l.block = some g := by
  rcases h with h | ⟨k, l', hl, hb⟩
  · exact .inl (.inl h)
  · by_cases e : k = id
    · subst e
      rw [LMap.set_eq] at hl
      injection hl with hl
      subst hl
      exact .inr hb
    · rw [LMap.set_ne _ _ e] at hl
      exact .inl (.inr ⟨k, l', hl, hb⟩)
/-- A new variable, or slice, of one's own: its block is made. -/
theorem Later.new {μ : LMap} {w' : World} (h : SimM X w0 σ a w μ) (b : Below w.heap.size w w') {id : Nat} (hn : μ.m id = none) {l : LI} (hl : ∀ g, l.block = some g → w.heap.size ≤ g) : Later w μ w' (μ.set id l) :=
  ⟨fun ad u hc ho => ⟨cell_later b hc, fun hw => by
      rcases LMap.set_owns hw with hw | hw
      · exact ho hw
      · have := World.block_lt_of_cell? _ _ hc
        have := hl _ hw
        omega⟩,
    fun k g hk => by rw [LMap.set_ne _ _ (fun e => by subst e; rw [hn] at hk; cases hk)]; exact hk,
    fun k z n hk => ⟨z, n, by rw [LMap.set_ne _ _ (fun e => by subst e; rw [hn] at hk; cases hk)]; exact hk, Nat.le_refl _, fun _ => rfl⟩⟩
theorem SimM.new (h : SimM X w0 σ a w μ) {w' : World} (b : Below w.heap.size w w') {id : Nat} (hn : σ.blk id = none) {l : LI} (hl : ∀ g, l.block = some g → w.heap.size ≤ g ∧ g < w'.heap.size) {bk : LB} (hb : BlkOK w0 w' (μ.set id l) id bk) :
    SimM X w0 (σ.setB id bk) a w' (μ.set id l) := by
  have hm : μ.m id = none := by
    cases e : μ.m id with
    | none => rfl
    | some l' => obtain ⟨b', hb'⟩ := h.dom id l' e; rw [hn] at hb'; cases hb'
  have hlat := Later.new h b hm (l := l) (fun g hg => (hl g hg).1)
  have hblk : ∀ k, (σ.setB id bk).blk k = if k = id then some bk else σ.blk k := by
    intro k
    unfold St.setB St.blk
    by_cases e : k = id
    · subst e; rw [look_cons_eq, if_pos rfl]
    · rw [look_cons_ne e, if_neg e]
  refine ⟨h.nt, h.defers, h.keep.below b, h.F, h.hF, h.hX, h.fr.later hlat, ?_, ?_, ?_, ?_, ?_⟩
  · intro t p hp
    obtain ⟨y, hy, r⟩ := h.env t p hp
    exact ⟨y, hy, Rep.later hlat p y r⟩
  · intro k bk' hk
    rw [hblk] at hk
    by_cases e : k = id
    · subst e; rw [if_pos rfl] at hk; injection hk with hk; subst hk; exact hb
    · rw [if_neg e] at hk
      have hok := h.blk k bk' hk
      cases bk' with
      | box cells =>
        obtain ⟨g, cs, ty, hm', hg, r, h1⟩ := hok
        exact ⟨g, cs, ty, by rw [LMap.set_ne _ _ e]; exact hm', (b.block g (h.fresh k _ g hm' rfl).1).trans hg, RepL.later hlat _ _ r, h1⟩
      | row ty sz ver xs =>
        obtain ⟨y, vs, hm', hown, r, h1, h2⟩ := hok
        exact ⟨y, vs, by rw [LMap.set_ne _ _ e]; exact hm', own_later' hown b, RepL.later hlat _ _ r, h1, h2⟩
  · intro k l' hk
    rw [hblk]
    by_cases e : k = id
    · exact ⟨bk, by rw [if_pos e]⟩
    · rw [LMap.set_ne _ _ e] at hk
      rw [if_neg e]
      exact h.dom k l' hk
  · intro k k' l1 l2 g h1 h2 g1 g2
    by_cases e1 : k = id
    · subst e1
      rw [LMap.set_eq] at h1
      injection h1 with h1
      subst h1
      by_cases e2 : k' = k
      · exact e2.symm
      · rw [LMap.set_ne _ _ e2] at h2
        have := (h.fresh k' l2 g h2 g2).1
        have := (hl g g1).1
        omega
    · rw [LMap.set_ne _ _ e1] at h1
      by_cases e2 : k' = id
      · subst e2
        rw [LMap.set_eq] at h2
        injection h2 with h2
        subst h2
        have := (h.fresh k l1 g h1 g1).1
        have := (hl g g2).1
        omega
      · rw [LMap.set_ne _ _ e2] at h2
        exact h.apart k k' l1 l2 g h1 h2 g1 g2
  · intro k l' g hk hg
    by_cases e : k = id
    · subst e
      rw [LMap.set_eq] at hk
      injection hk with hk
      subst hk
      obtain ⟨h1, h2⟩ := hl g hg
      exact ⟨h2, .inl (Nat.le_trans h.keep.size h1)⟩
    · rw [LMap.set_ne _ _ e] at hk
      obtain ⟨h1, h2⟩ := h.fresh k l' g hk hg
      exact ⟨Nat.lt_of_lt_of_le h1 b.size, h2⟩
theorem below_alloc (w : World) (o : Obj) : Below w.heap.size w (w.alloc o) := (Below.refl _ _).alloc (Nat.le_refl _) o
theorem SimM.nt_inB {o : Oper} {σ' : St} (hag : Agree o σ σ') {d : Option Nat} (hd : inB σ d = true) : inB σ' d = true := by
  cases d with
  | none => rfl
  | some d => simp only [inB] at hd ⊢; rw [hag.nt]; exact hd
/-- An operation that makes a variable, or a slice, of one's own. -/
theorem OpOK.new {o : Oper} {d : Nat} {p : PV} {bk : LB} (ho : o.dst = some d) (hd : inB σ o.dst = true)
    (h : ∀ (X : XF) (w0 : World) (σ' : St) (a : Act) (w : World) (μ : LMap), Agree o σ σ' → SimM X w0 σ' a w μ → ∃ y w' l, (execOp a.eval o).run P w = .ok (.value y) w' ∧ Below w.heap.size w w' ∧ (∀ g, l.block = some g → w.heap.size ≤ g ∧ g < w'.heap.size) ∧
      (∀ hl : Later w μ w' (μ.set d l), BlkOK w0 w' (μ.set d l) d bk ∧ Rep w' (μ.set d l) p y)) : OpOK P o σ p [(d, bk)] := by
  refine ⟨fun σ' hag hn => ⟨fun X w0 a w μ K Q s hK => ?_⟩⟩
  obtain ⟨y, w', l, hr, hb, hl, hk⟩ := h X w0 σ' a w μ hag s
  have hfree : σ'.blk d = none := hn d bk (look_cons_eq d bk [])
  have hm : μ.m d = none := by
    cases e : μ.m d with
    | none => rfl
    | some l' => obtain ⟨b', hb'⟩ := s.dom d l' e; rw [hfree] at hb'; cases hb'
  obtain ⟨hblk, hrep⟩ := hk (Later.new s hb hm (fun g hg => (hl g hg).1))
  unfold Oper.wp
  rw [hr]
  exact hK _ _ _ ((s.new hb hfree hl hblk).put (SimM.nt_inB hag hd) hrep)
end

section
variable {P : Program} {σ : St} {dst : Option Tmp} {ty : TypeId} {pos : String} {after : Array Edge} {guard : Option (Nat × Bool)}
theorem ok_box {d : Nat} {e : TypeId} {x : Operand} {p : PV} (hx : σ.ev x = some p := by rfl) (hl : p.lies = true := by rfl) (hd : inB σ (some d) = true := by rfl) : OpOK P ⟨some d, .box e x, ty, pos, after, guard⟩ σ (.lp d 0) [(d, .box p.cells)] :=
  OpOK.new rfl hd fun X w0 σ' a w μ hag s => by
    have h1 := eval_tmp s (hag.ev x (by simp [Op.operands]) _ hx)
    obtain ⟨r, h2⟩ := h1.lies hl
    refine ⟨.pointer (some ⟨w.heap.size, 0, none⟩), w.alloc (.cells (a.eval x).cells e), .box w.heap.size, ?_, below_alloc w _, fun g hg => by injection hg with hg; subst hg; simp, fun hlat => ⟨⟨w.heap.size, _, e, LMap.set_eq _ _ _, heap_alloc_new w _, RepL.later hlat _ _ r, h2⟩, ?_⟩⟩
    · simp [execOp, Instr.box, newVar, newRow]
    · simp only [Rep]; exact ⟨w.heap.size, LMap.set_eq _ _ _, rfl⟩
theorem zero_parts {e : TypeId} {zs : List Value} (h : zeroB P e = some zs) : ∃ i z, P.info? e = some i ∧ i.zero = some z ∧ z.cells.toList = zs := by
  unfold zeroB at h
  obtain ⟨i, hi, h1⟩ := Option.bind_eq_some_iff.1 h
  obtain ⟨z, hz, h2⟩ := Option.map_eq_some_iff.1 h1
  exact ⟨i, z, hi, hz, h2⟩
theorem ok_alloc {d : Nat} {e : TypeId} {zs : List Value} [h : ZeroT P e zs] (h1 : zs.all Value.oneCell' = true := by rfl) (hd : inB σ (some d) = true := by rfl) : OpOK P ⟨some d, .alloc e, ty, pos, after, guard⟩ σ (.lp d 0) [(d, .box (zs.map PV.v))] :=
  OpOK.new rfl hd fun X w0 σ' a w μ hag s => by
    obtain ⟨i, z, hi, hz, hzs⟩ := zero_parts h.h
    refine ⟨.pointer (some ⟨w.heap.size, 0, none⟩), w.alloc (.cells z.cells e), .box w.heap.size, ?_, below_alloc w _, fun g hg => by injection hg with hg; subst hg; simp, fun hlat => ⟨⟨w.heap.size, _, e, LMap.set_eq _ _ _, heap_alloc_new w _, ?_, ?_⟩, ?_⟩⟩
    · simp [execOp, Instr.alloc, zeroValue, typeInfo, hi, hz, newVar, newRow]
    · rw [hzs]; exact RepL.of_lits zs
    · rw [hzs]; exact fun u hu => List.all_eq_true.1 h1 u hu
    · simp only [Rep]; exact ⟨w.heap.size, LMap.set_eq _ _ _, rfl⟩
/-! ### Reading -/
theorem run_load_cells {P : Program} {w : World} {ad : Addr} {vs : List Value} (h : ∀ j u, vs[j]? = some u → w.cell? (ad.add j) = some u) : (loadCells ad vs.length).run P w = .ok vs.toArray w := run_loadCells_list (P := P) w ad vs h
theorem run_loadVar1 {t : TypeId} (ht : tyB P t = some (false, 1)) {w : World} {ad : Addr} {u : Value} (h : w.cell? ad = some u) : (loadVar t ad).run P w = .ok u w := by
  simp [loadVar, run_isAgg ht, load, Sem.run, h]
theorem run_loadVarN {t : TypeId} {n : Nat} (ht : tyB P t = some (true, n)) {w : World} {ad : Addr} {vs : List Value} (hn : vs.length = n) (h : ∀ j u, vs[j]? = some u → w.cell? (ad.add j) = some u) : (loadVar t ad).run P w = .ok (.agg vs.toArray) w := by
  subst hn
  simp [loadVar, run_isAgg ht, run_size ht, run_load_cells h]
theorem add_lit (g k j : Nat) : (⟨g, k, none⟩ : Addr).add j = ⟨g, k + j, none⟩ := by unfold Addr.add; split <;> simp_all
theorem box_cell {w : World} {g k : Nat} {cs : Array Value} {t : TypeId} {fr : Nat × Nat} (hg : w.heap[g]? = some (.cells cs t fr)) {j : Nat} {u : Value} (h : (cs.toList.drop k)[j]? = some u) : w.cell? ((⟨g, k, none⟩ : Addr).add j) = some u := by
  rw [add_lit, cell_of_row w g (k + j) cs t fr hg]
  rw [List.getElem?_drop] at h
  simpa using h
theorem ok_load1_lp {t : TypeId} {x : Operand} {id k : Nat} {cells : List PV} {p : PV} [ht : TySz P t false 1] (hx : σ.ev x = some (.lp id k) := by rfl) (hb : σ.blk id = some (.box cells) := by rfl) (hp : cells[k]? = some p := by rfl) (hd : inB σ dst = true := by rfl) : OpOK P ⟨dst, .load t x, ty, pos, after, guard⟩ σ p [] :=
  OpOK.val hd fun X w0 σ' a w μ hag s => by
    have h1 := eval_tmp s (hag.ev x (by simp [Op.operands]) _ hx)
    obtain ⟨g, cs, bt, hm, hg, r, _⟩ := s.blk id _ (hag.blk x (by simp [Op.operands]) _ id _ hx rfl hb)
    simp only [Rep] at h1
    obtain ⟨g', hm', e⟩ := h1
    rw [hm] at hm'
    injection hm' with hm'
    injection hm' with hm'
    subst hm'
    obtain ⟨y, hy, r'⟩ := r.get k p hp
    have hc : w.cell? ⟨g, k, none⟩ = some y := by rw [cell_of_row w g k cs bt _ hg]; simpa using hy
    exact ⟨y, by simp [execOp, e, Instr.loadAt, Instr.sureAddr, run_loadVar1 ht.h hc], r'⟩
theorem ok_loadN_lp {t : TypeId} {x : Operand} {id k n : Nat} {cells : List PV} [ht : TySz P t true n] (hx : σ.ev x = some (.lp id k) := by rfl) (hb : σ.blk id = some (.box cells) := by rfl) (hn : Nat.ble (k + n) cells.length = true := by rfl) (hd : inB σ dst = true := by rfl) :
    OpOK P ⟨dst, .load t x, ty, pos, after, guard⟩ σ (.agg ((cells.drop k).take n)) [] :=
  OpOK.val hd fun X w0 σ' a w μ hag s => by
    have h1 := eval_tmp s (hag.ev x (by simp [Op.operands]) _ hx)
    obtain ⟨g, cs, bt, hm, hg, r, h2⟩ := s.blk id _ (hag.blk x (by simp [Op.operands]) _ id _ hx rfl hb)
    simp only [Rep] at h1
    obtain ⟨g', hm', e⟩ := h1
    rw [hm] at hm'
    injection hm' with hm'
    injection hm' with hm'
    subst hm'
    have hlen := r.length
    rw [Nat.ble_eq] at hn
    have hv : ((cs.toList.drop k).take n).length = n := by rw [List.length_take, List.length_drop, hlen]; omega
    refine ⟨.agg ((cs.toList.drop k).take n).toArray, ?_, _, rfl, (r.drop k).take n, fun u hu => h2 u (List.mem_of_mem_drop (List.mem_of_mem_take hu))⟩
    have hld := run_loadVarN (P := P) ht.h hv (w := w) (ad := ⟨g, k, none⟩) (fun j u hj => box_cell hg (by
      rw [List.getElem?_take] at hj
      split at hj
      · exact hj
      · cases hj))
    simp only [execOp, e, Instr.loadAt, Instr.sureAddr, Sem.run_bind, Sem.run_pure, Result.andThen_ok, hld]
theorem ok_load1_ptr {t : TypeId} {x : Operand} {cs : List PV} {p : PV} [ht : TySz P t false 1] (hx : σ.ev x = some (.ptr cs) := by rfl) (hp : cs[0]? = some p := by rfl) (hd : inB σ dst = true := by rfl) : OpOK P ⟨dst, .load t x, ty, pos, after, guard⟩ σ p [] :=
  OpOK.val hd fun X w0 σ' a w μ hag s => by
    have h1 := eval_tmp s (hag.ev x (by simp [Op.operands]) _ hx)
    simp only [Rep] at h1
    obtain ⟨ad, e, r⟩ := h1
    obtain ⟨a', u, e', hc, _, _, r'⟩ := r.get 0 p hp
    injection e' with e'
    subst e'
    have hc' : w.cell? ad = some u := by simpa [Addr.add] using hc
    exact ⟨u, by simp [execOp, e, Instr.loadAt, Instr.sureAddr, run_loadVar1 ht.h hc'], Rep.opens p u r'⟩
theorem ok_loadN_ptr {t : TypeId} {x : Operand} {n : Nat} {cs : List PV} [ht : TySz P t true n] (hx : σ.ev x = some (.ptr cs) := by rfl) (hn : Nat.ble n cs.length = true := by rfl) (hd : inB σ dst = true := by rfl) : OpOK P ⟨dst, .load t x, ty, pos, after, guard⟩ σ (.agg (cs.take n)) [] :=
  OpOK.val hd fun X w0 σ' a w μ hag s => by
    have h1 := eval_tmp s (hag.ev x (by simp [Op.operands]) _ hx)
    simp only [Rep] at h1
    obtain ⟨ad, e, r⟩ := h1
    obtain ⟨vs, q1, q2, q3⟩ := r.row
    rw [Nat.ble_eq] at hn
    have hlen := q1.length
    have hv : (vs.take n).length = n := by rw [List.length_take, hlen]; omega
    refine ⟨.agg (vs.take n).toArray, ?_, _, rfl, RepL.opens _ _ (q1.take n), fun u hu => q2 u (List.mem_of_mem_take hu)⟩
    have hld := run_loadVarN (P := P) ht.h hv (w := w) (ad := ad) (fun j u hj => by
      rw [List.getElem?_take] at hj
      split at hj
      · obtain ⟨a', e', hc⟩ := q3 j u hj
        injection e' with e'
        subst e'
        simpa using hc
      · cases hj)
    simp only [execOp, e, Instr.loadAt, Instr.sureAddr, Sem.run_bind, Sem.run_pure, Result.andThen_ok, hld]
/-- A row of one's own, taken apart. -/
theorem row_parts {X : XF} {w0 w : World} {σ : St} {a : Act} {μ : LMap} (s : SimM X w0 σ a w μ) {id ver sz : Nat} {rt : TypeId} {xs : List (List PV)} (hb : σ.blk id = some (.row rt sz ver xs)) {p : PV} {y : Value} :
    (p = .row id ver → Rep w μ p y → ∃ vs, μ.m id = some (.row y ver) ∧ w.ownsRow w0.heap.size rt sz y xs.length vs ∧ RepL w μ xs.flatten vs ∧ (∀ e ∈ xs, e.length = sz) ∧ ∀ u ∈ vs, u.oneCell' = true) ∧
    (∀ i j, p = .rp id ver sz i j → Rep w μ p y → ∃ g n c vs, y = .pointer (some ⟨g, i * sz + j, none⟩) ∧ μ.m id = some (.row (.slice (some ⟨g, 0, none⟩) n c) ver) ∧ w.ownsRow w0.heap.size rt sz (.slice (some ⟨g, 0, none⟩) n c) xs.length vs ∧ RepL w μ xs.flatten vs ∧ (∀ e ∈ xs, e.length = sz) ∧ ∀ u ∈ vs, u.oneCell' = true) := by
  obtain ⟨y', vs, hm, hown, r, h1, h2⟩ := s.blk id _ hb
  constructor
  · rintro rfl h
    simp only [Rep] at h
    obtain ⟨z, k, hz, _, _, e⟩ := h
    rw [hm] at hz
    injection hz with hz
    injection hz with e1 e2
    subst e1 e2
    rw [e rfl]
    exact ⟨vs, hm, hown, r, h1, h2⟩
  · rintro i j rfl h
    simp only [Rep] at h
    obtain ⟨z, k, hz, _, _, e⟩ := h
    rw [hm] at hz
    injection hz with hz
    injection hz with e1 e2
    subst e1 e2
    obtain ⟨g, n, c, e1, e2⟩ := e rfl
    subst e1
    exact ⟨g, n, c, vs, e2, hm, hown, r, h1, h2⟩
theorem flatten_at {sz : Nat} : ∀ {xs : List (List PV)}, (∀ e ∈ xs, e.length = sz) → ∀ (i : Nat) (e : List PV), xs[i]? = some e → ∀ j p, e[j]? = some p → xs.flatten[i * sz + j]? = some p
  | [], _, i, e, h, _, _, _ => by simp at h
  | x :: xs, hl, 0, e, h, j, p, hp => by
    simp at h
    subst h
    have hj : j < x.length := (List.getElem?_eq_some_iff.1 hp).1
    rw [List.flatten_cons, Nat.zero_mul, Nat.zero_add, List.getElem?_append_left hj]
    exact hp
  | x :: xs, hl, i + 1, e, h, j, p, hp => by
    have hx := hl x (List.mem_cons_self ..)
    have ih := flatten_at (fun e he => hl e (List.mem_cons_of_mem _ he)) i e (by simpa using h) j p hp
    rw [List.flatten_cons, List.getElem?_append_right (by rw [hx, Nat.succ_mul]; omega), hx, show (i + 1) * sz + j - sz = i * sz + j from by rw [Nat.succ_mul]; omega]
    exact ih
theorem ok_load1_rp {t rt : TypeId} {x : Operand} {id ver sz i j : Nat} {xs : List (List PV)} {e : List PV} {p : PV} [ht : TySz P t false 1] (hx : σ.ev x = some (.rp id ver sz i j)) (hb : σ.blk id = some (.row rt sz ver xs)) (he : xs[i]? = some e) (hp : e[j]? = some p) (hd : inB σ dst = true) :
    OpOK P ⟨dst, .load t x, ty, pos, after, guard⟩ σ p [] :=
  OpOK.val hd fun X w0 σ' a w μ hag s => by
    have h1 := eval_tmp s (hag.ev x (by simp [Op.operands]) _ hx)
    obtain ⟨g, n, c, vs, e1, hm, hown, r, hl, _⟩ := (row_parts s (hag.blk x (by simp [Op.operands]) _ id _ hx rfl hb) (y := a.eval x)).2 i j rfl h1
    obtain ⟨y, hy, r'⟩ := r.get _ p (flatten_at hl i e he j p hp)
    have hc := hown.cells (g := g) rfl _ y hy
    rw [add_lit, Nat.zero_add] at hc
    exact ⟨y, by simp [execOp, e1, Instr.loadAt, Instr.sureAddr, run_loadVar1 ht.h hc], r'⟩
theorem ok_loadN_rp {t rt : TypeId} {x : Operand} {id ver sz i j n : Nat} {xs : List (List PV)} {e : List PV} [ht : TySz P t true n] (hx : σ.ev x = some (.rp id ver sz i j)) (hb : σ.blk id = some (.row rt sz ver xs)) (he : xs[i]? = some e) (hn : j + n ≤ e.length) (hd : inB σ dst = true) :
    OpOK P ⟨dst, .load t x, ty, pos, after, guard⟩ σ (.agg ((e.drop j).take n)) [] :=
  OpOK.val hd fun X w0 σ' a w μ hag s => by
    have h1 := eval_tmp s (hag.ev x (by simp [Op.operands]) _ hx)
    obtain ⟨g, m, c, vs, e1, hm, hown, r, hl, h2⟩ := (row_parts s (hag.blk x (by simp [Op.operands]) _ id _ hx rfl hb) (y := a.eval x)).2 i j rfl h1
    have hee : (xs.flatten.drop (i * sz + j)).take n = (e.drop j).take n := by
      apply List.ext_getElem?
      intro k
      rw [List.getElem?_take, List.getElem?_take]
      split
      · rename_i hk
        rw [List.getElem?_drop, List.getElem?_drop]
        have hjk : j + k < e.length := by omega
        rw [List.getElem?_eq_getElem hjk]
        rw [show i * sz + j + k = i * sz + (j + k) from by omega]
        exact flatten_at hl i e he (j + k) _ (List.getElem?_eq_getElem hjk)
      · rfl
    have hrr := (r.drop (i * sz + j)).take n
    rw [hee] at hrr
    have hlen := hrr.length
    have hv : ((vs.drop (i * sz + j)).take n).length = n := by rw [hlen, List.length_take, List.length_drop]; omega
    refine ⟨.agg ((vs.drop (i * sz + j)).take n).toArray, ?_, _, rfl, hrr, fun u hu => h2 u (List.mem_of_mem_drop (List.mem_of_mem_take hu))⟩
    have hld := run_loadVarN (P := P) ht.h hv (w := w) (ad := ⟨g, i * sz + j, none⟩) (fun k u hk => by
      rw [List.getElem?_take] at hk
      split at hk
      · rw [List.getElem?_drop] at hk
        have := hown.cells (g := g) rfl _ u hk
        rw [add_lit, Nat.zero_add] at this
        rw [add_lit]
        exact this
      · cases hk)
    simp only [execOp, e1, Instr.loadAt, Instr.sureAddr, Sem.run_bind, Sem.run_pure, Result.andThen_ok, hld]
end
end Go.Proofs.Ytlicjlahnbebcaa
