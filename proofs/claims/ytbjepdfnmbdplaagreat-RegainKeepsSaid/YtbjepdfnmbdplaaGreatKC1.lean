/- Texts joined by wip/gen/kpack.py: PA. -/
import Derived.Test.YtbjepdfnmbdplaaGreatChecked
import Derived.WalkKit
import Derived.WalkLawsBesides
import Derived.WalkSpells
import Derived.Outline
import Derived.Lib.Hide
import Derived.Deep.QuietTactic
import Derived.BigQuiet
import Derived.Deep.LoopGhost
import Derived.Deep.Slices
import Derived.Deep.Fields
import Derived.Deep.AppendLies
import Derived.Maps.AppendAt
import Derived.Deep.DeepCutAuto
import Derived.Deep.DeepFit
import Derived.Laws.IdiomCopy
import Derived.Lib.SliceRun
import Derived.MapKept
import Derived.Orders
section
namespace Go.Proofs.YtbjepdfnmbdplaaGreat
set_option linter.unusedSimpArgs false
set_option linter.unusedVariables false
set_option linter.unusedSectionVars false
open Go.RowKit
def errI (b : Bool) (x : Int) : Int := if b then 0 else x
theorem bt {a b c : World} (h : Below a.heap.size a b) (k : Below b.heap.size b c) : Below a.heap.size a c := h.trans (k.mono h.size)
theorem bdrew {a : World} : Below a.heap.size a a.drew := (Below.refl _ _).drew
theorem cell_later {w wx : World} {a : Addr} {v : Value} (hb : Below w.heap.size w wx) (h : w.cell? a = some v) : wx.cell? a = some v := (hb.cell (World.block_lt_of_cell? _ _ h)).trans h
theorem block_of_add (a : Addr) (n : Nat) : (a.add n).block = a.block := by unfold Addr.add; split <;> rfl
theorem add_of_add (a : Addr) (i j : Nat) : (a.add i).add j = a.add (i + j) := by
  unfold Addr.add
  by_cases hi : i = 0 <;> by_cases hj : j = 0 <;> simp [hi, hj, Nat.add_assoc]
def Enters (P : Program) (g : FuncId) : Prop := ∀ (args : Array Value) (w : World), (callFunc g args).run P w = .ok (.enter g args) w
theorem enters_of {P : Program} {g : FuncId} {fn : Func} (hf : P.funcs[g]? = some fn) (hn : (fn.name == "runtime.NumGoroutine") = false) (hb : fn.body.isNone = false) : Enters P g := by
  intro args w
  have hn' : ¬ fn.name = "runtime.NumGoroutine" := by simpa using hn
  have hb' : ¬ fn.body = none := by intro e; rw [e] at hb; cases hb
  simp [callFunc, run_program, hf, hn', hb']
def Row (w : World) (A : Option Addr) (cs : List Value) : Prop := ∀ j u, cs[j]? = some u → ∃ ad, A = some ad ∧ w.cell? (ad.add j) = some u
structure Enc (α : Type) where
  size : Nat
  cells : α → List Value
  len : ∀ x, (cells x).length = size
  pos : 0 < size
section
variable {α : Type} (E : Enc α)
variable {E}
end
section
variable {P : Program} (w : World)
theorem run_append_of_nil (base : Nat) (t ty e : TypeId) (i : TypeInfo) (size : Nat) (ht : P.underlying t = some (.slice e)) (hi : P.info? e = some i)
    (v : Value) (n : Nat) (xs : List Value) (hown : w.ownsRow base e size v n xs) (c : Nat) : (Builtin.append_ #[t, t] ty #[v, .slice none 0 c]).run P w = .ok v w := by
  rcases hown.2 with ⟨rfl, rfl⟩ | ⟨g, cap, cur, rfl, _, _, hnc, _⟩
  · simp [Builtin.append_, run_underlying ht, sizeOf, typeInfo, hi, Builtin.lenOf, Builtin.firstCells]
  · simp [Builtin.append_, run_underlying ht, sizeOf, typeInfo, hi, Builtin.lenOf, Builtin.firstCells, hnc, storeCells]
theorem run_append_row (base : Nat) (t ty e : TypeId) (i : TypeInfo) (z : Value) (size bytes : Nat) (ht : P.underlying t = some (.slice e)) (hi : P.info? e = some i) (hz : i.zero = some z)
    (hsize : i.size = size) (hby : i.bytes = bytes) (hzs : z.cells.size = size) (hsz : 0 < size)
    (v : Value) (n : Nat) (xs : List Value) (hown : w.ownsRow base e size v n xs)
    (A : Option Addr) (m c : Nat) (news : List Value) (hl : news.length = m * size) (hr : Row w A news) (h1 : ∀ u ∈ news, u.oneCell' = true)
    (h63 : n + m ≤ maxLen) (hbytes : (n + m) * bytes ≤ 140737488355328) (hbase : base ≤ w.heap.size) :
    ∃ v' w', (Builtin.append_ #[t, t] ty #[v, .slice A m c]).run P w = .ok v' w' ∧ w'.ownsRow base e size v' (n + m) (xs ++ news) ∧ w.grownBy w' v.ownBlock ∧
      (v'.ownBlock = v.ownBlock ∨ v'.ownBlock = some w.heap.size) := by
  rcases A with _ | ad
  · have hn : news = [] := by
      cases hnews : news with
      | nil => rfl
      | cons u l =>
        obtain ⟨ad, h, _⟩ := hr 0 u (by rw [hnews]; rfl)
        cases h
    subst hn
    have hm : m = 0 := by
      simp only [List.length_nil] at hl
      rcases Nat.mul_eq_zero.1 hl.symm with h | h
      · exact h
      · omega
    subst hm
    exact ⟨v, w, run_append_of_nil w base t ty e i size ht hi v n xs hown c, by simpa using hown, World.grownBy.refl w _, .inl rfl⟩
  · have hcells : ∀ j u, news[j]? = some u → w.cell? (ad.add j) = some u := by
      intro j u hu
      obtain ⟨ad', h, hc⟩ := hr j u hu
      injection h with h
      subst h
      exact hc
    obtain ⟨v', w', hrun, h2, h3, _, h5⟩ := run_append_own_at (P := P) w base t ty e i z size bytes ht hi hz hsize hby hzs hsz v n xs hown ad m c news hl hcells h1 h63 hbytes hbase
    exact ⟨v', w', hrun, h2, h3, h5⟩
theorem wp_append_row {o : Oper} {a : Act} {K : Act → World → Prop} {Q : Exit → Act → World → Prop} (s x : Operand) (t : TypeId)
    (ho : o.op = .call { callee := .builtin .append, args := #[s, x], argTypes := #[t, t] })
    (base : Nat) (e : TypeId) (i : TypeInfo) (z : Value) (size bytes : Nat) (ht : P.underlying t = some (.slice e)) (hi : P.info? e = some i) (hz : i.zero = some z)
    (hsize : i.size = size) (hby : i.bytes = bytes) (hzs : z.cells.size = size) (hsz : 0 < size)
    (v : Value) (n : Nat) (xs : List Value) (hs : a.eval s = v) (hown : w.ownsRow base e size v n xs)
    (A : Option Addr) (m c : Nat) (news : List Value) (hx : a.eval x = .slice A m c) (hl : news.length = m * size) (hr : Row w A news) (h1 : ∀ u ∈ news, u.oneCell' = true)
    (h63 : n + m ≤ maxLen) (hbytes : (n + m) * bytes ≤ 140737488355328) (hbase : base ≤ w.heap.size)
    (h : ∀ v' w', w'.ownsRow base e size v' (n + m) (xs ++ news) → w.grownBy w' v.ownBlock → (v'.ownBlock = v.ownBlock ∨ v'.ownBlock = some w.heap.size) → K (a.put o.dst v') w') : o.wp P a w K Q := by
  obtain ⟨v', w', hrun, h2, h3, h4⟩ := run_append_row (P := P) w base t o.type e i z size bytes ht hi hz hsize hby hzs hsz v n xs hown A m c news hl hr h1 h63 hbytes hbase
  unfold Oper.wp execOp
  simp only [ho, resolve, invoke, builtin, Sem.run_bind, Sem.run_pure, Result.andThen_ok, List.map_toArray, List.map_cons, List.map_nil, hs, hx, hrun]
  exact h v' w' h2 h3 h4
theorem wpList_append_row {ops : Array Oper} {rest : List Oper} {o : Oper} {a : Act} {Q : Exit → Act → World → Prop} (hgd : o.guard = none) (s x : Operand) (t : TypeId)
    (ho : o.op = .call { callee := .builtin .append, args := #[s, x], argTypes := #[t, t] })
    (base : Nat) (e : TypeId) (i : TypeInfo) (z : Value) (size bytes : Nat) (ht : P.underlying t = some (.slice e)) (hi : P.info? e = some i) (hz : i.zero = some z)
    (hsize : i.size = size) (hby : i.bytes = bytes) (hzs : z.cells.size = size) (hsz : 0 < size)
    (v : Value) (n : Nat) (xs : List Value) (hs : a.eval s = v) (hown : w.ownsRow base e size v n xs)
    (A : Option Addr) (m c : Nat) (news : List Value) (hx : a.eval x = .slice A m c) (hl : news.length = m * size) (hr : Row w A news) (h1 : ∀ u ∈ news, u.oneCell' = true)
    (h63 : n + m ≤ maxLen) (hbytes : (n + m) * bytes ≤ 140737488355328) (hbase : base ≤ w.heap.size)
    (h : ∀ v' w', w'.ownsRow base e size v' (n + m) (xs ++ news) → w.grownBy w' v.ownBlock → (v'.ownBlock = v.ownBlock ∨ v'.ownBlock = some w.heap.size) → wpList P ops Q rest (a.put o.dst v') w') : wpList P ops Q (o :: rest) a w :=
  wpList_plain hgd fun _ hK => wp_append_row w s x t ho base e i z size bytes ht hi hz hsize hby hzs hsz v n xs hs hown A m c news hx hl hr h1 h63 hbytes hbase fun v' w' h2 h3 h4 => hK _ _ (h v' w' h2 h3 h4)
end
end Go.Proofs.YtbjepdfnmbdplaaGreat
namespace Go.Proofs.YtbjepdfnmbdplaaGreat
set_option linter.unusedSimpArgs false
set_option linter.unusedVariables false
set_option linter.unusedSectionVars false
open Go.RowKit
def putAll : List Value → Nat → List Value → List Value
  | xs, _, [] => xs
  | xs, o, v :: r => putAll (xs.set o v) (o + 1) r
theorem putAll_cons (u : Value) : ∀ (vs xs : List Value) (o : Nat), putAll (u :: xs) (o + 1) vs = u :: putAll xs o vs
  | [], _, _ => rfl
  | v :: r, xs, o => by
    show putAll ((u :: xs).set (o + 1) v) (o + 1 + 1) r = u :: putAll (xs.set o v) (o + 1) r
    rw [List.set_cons_succ, putAll_cons u r]
theorem putAll_append (us : List Value) : ∀ (vs xs : List Value) (o : Nat), putAll (us ++ xs) (us.length + o) vs = us ++ putAll xs o vs := by
  induction us with
  | nil => intro vs xs o; simp
  | cons u l ih =>
    intro vs xs o
    rw [List.cons_append, List.length_cons, show l.length + 1 + o = l.length + o + 1 from by omega, putAll_cons, ih]
    rfl
theorem putAll_zero : ∀ (vs us xs : List Value), us.length = vs.length → putAll (us ++ xs) 0 vs = vs ++ xs
  | [], us, xs, h => by
    have : us = [] := List.eq_nil_of_length_eq_zero h
    subst this
    rfl
  | v :: r, [], xs, h => by simp at h
  | v :: r, u :: l, xs, h => by
    show putAll ((u :: (l ++ xs)).set 0 v) (0 + 1) r = _
    rw [List.set_cons_zero, putAll_cons, putAll_zero r l xs (by simpa using h)]
    rfl
section
variable {α : Type} (E : Enc α)
end
theorem drop_set_lt {α : Type} (xs : List α) (a b : Nat) (x : α) (h : a < b) : (xs.set a x).drop b = xs.drop b := by
  rw [List.drop_set, if_pos h]
theorem take_set_at {α : Type} (xs : List α) (a : Nat) (x : α) (h : a < xs.length) : (xs.set a x).take (a + 1) = xs.take a ++ [x] := by
  rw [List.take_succ_eq_append_getElem (by rw [List.length_set]; exact h), List.take_set, List.getElem_set_self, List.set_eq_of_length_le (by rw [List.length_take]; omega)]
section
variable {w wx : World} {base : Nat} {e : TypeId} {size g n cap : Nat} {xs : List Value}
theorem own_put : ∀ (vs : List Value) (o : Nat) (w : World) (xs : List Value), w.ownsRow base e size (.slice (some ⟨g, 0, none⟩) n cap) n xs → (w.setCells g o vs).ownsRow base e size (.slice (some ⟨g, 0, none⟩) n cap) n (putAll xs o vs)
  | [], _, _, _, h => h
  | v :: r, o, w, xs, h => own_put r (o + 1) _ _ (h.stored o v).1
theorem own_cut (h : w.ownsRow base e size (.slice (some ⟨g, 0, none⟩) n cap) n xs) {m : Nat} (hm : m ≤ n) : w.ownsRow base e size (.slice (some ⟨g, 0, none⟩) m cap) m (xs.take (m * size)) := by
  obtain ⟨h1, h2⟩ := h
  have hms : m * size ≤ n * size := Nat.mul_le_mul_right _ hm
  refine ⟨by rw [List.length_take, h1]; omega, ?_⟩
  rcases h2 with ⟨hv, _⟩ | ⟨g', cap', cur, hv, hb', hh, h3, h4, h5, h6⟩
  · cases hv
  · injection hv with hv1 _ hv3
    subst hv3
    refine .inr ⟨g', cap, cur, by rw [hv1], hb', hh, Nat.le_trans hm h3, h4, h5, ?_⟩
    rw [← h6, List.take_take, Nat.min_eq_left hms]
theorem zeroCells_one (z : Value) (n : Nat) (h1 : ∀ u ∈ z.cells.toList, u.oneCell' = true) : ∀ u ∈ (Builtin.zeroCells z.cells n).toList, u.oneCell' = true := by
  intro u hu
  unfold Builtin.zeroCells at hu
  rw [Array.mem_toList_iff, Array.mem_map] at hu
  obtain ⟨i, hi, rfl⟩ := hu
  rw [Array.mem_range] at hi
  have hz : 0 < z.cells.size := by
    rcases Nat.eq_zero_or_pos z.cells.size with h | h
    · rw [h, Nat.mul_zero] at hi; omega
    · exact h
  have hm : i % z.cells.size < z.cells.size := Nat.mod_lt _ hz
  rw [getElem!_pos z.cells _ hm]
  exact h1 _ (Array.mem_toList_iff.2 (Array.getElem_mem hm))
theorem run_clear_row {P : Program} (w : World) (t e ty : TypeId) (z : Value) (ht : P.underlying t = some (.slice e)) (hv : ∀ w, (zeroValue e).run P w = .ok z w) (h1 : ∀ u ∈ z.cells.toList, u.oneCell' = true) (b o n c : Nat) (hn : 0 < n)
    (hc : ∀ j, j < n * z.cells.size → (w.cell? ⟨b, o + j, none⟩).isSome = true) (hf : ∀ j, j < n * z.cells.size → w.frozen? ⟨b, o + j, none⟩ = false) :
    (Builtin.clear_ #[t] ty #[.slice (some ⟨b, o, none⟩) n c]).run P w = .ok (.tuple #[]) (w.setCells b o (Builtin.zeroCells z.cells n).toList) := by
  have hlen : (Builtin.zeroCells z.cells n).toList.length = n * z.cells.size := by rw [Array.length_toList, size_zeroCells]
  have hst := run_storeCells_cells (P := P) b o (Builtin.zeroCells z.cells n).toList 0 w (fun j hj => by simpa using hc j (by rw [← hlen]; exact hj)) (fun j hj => by simpa using hf j (by rw [← hlen]; exact hj)) (zeroCells_one z n h1)
  simp only [Nat.add_zero] at hst
  obtain ⟨m, rfl⟩ : ∃ m, n = m + 1 := ⟨n - 1, by omega⟩
  simp [Builtin.clear_, run_underlying ht, hv, hst]
end
end Go.Proofs.YtbjepdfnmbdplaaGreat
namespace Go.Proofs.YtbjepdfnmbdplaaGreat
set_option linter.unusedSimpArgs false
set_option linter.unusedVariables false
set_option linter.unusedSectionVars false
open Go.RowKit
inductive PV where
  | v (x : Value)
  | any
  | agg (cs : List PV)
  | tup (cs : List PV)
  | sl (sz : Nat) (xs : List (List PV))
  | ptr (cs : List PV)
  | lp (id o : Nat)
  | row (id ver : Nat)
  | rp (id ver sz i j : Nat)
  | own (ty sz : Nat) (xs : List (List PV))
  | fn (f : Fn) (first caps : List PV)
  | ifc (t : TypeId) (x : PV)
  | rs (id ver sz off len : Nat)
  | mp (kv : List (Value × Value))
  | mo (id : Nat)
structure MapIs (es : Array MapEntry) (clk : Nat) (kv : List (Value × Value)) : Prop where
  kv : es.toList.map (fun e => (e.key, e.val)) = kv
  st : MapKept.Stamped es clk
inductive LI where
  | box (g : Nat)
  | row (y : Value) (ver : Nat)
structure LMap where
  F : Nat → Prop
  m : Nat → Option LI
def LI.block : LI → Option Nat
  | .box g => some g
  | .row y _ => y.ownBlock
def LMap.owns (μ : LMap) (g : Nat) : Prop := μ.F g ∨ ∃ id l, μ.m id = some l ∧ l.block = some g
def LMap.none (F : Nat → Prop) : LMap := ⟨F, fun _ => Option.none⟩
theorem LMap.none_owns {F : Nat → Prop} {g : Nat} (h : (LMap.none F).owns g) : F g := by
  rcases h with h | ⟨id, l, h, _⟩
  · exact h
  · cases h
theorem LMap.none_owns_eq (F : Nat → Prop) : (LMap.none F).owns = F := by
  funext g
  exact propext ⟨LMap.none_owns, .inl⟩
def LMap.shut (μ : LMap) : LMap := LMap.none μ.owns
theorem LMap.shut_none (F : Nat → Prop) : (LMap.none F).shut = LMap.none F := by unfold LMap.shut; rw [LMap.none_owns_eq]
theorem LMap.shut_shut (μ : LMap) : μ.shut.shut = μ.shut := LMap.shut_none _
theorem LMap.shut_owns (μ : LMap) : μ.shut.owns = μ.owns := LMap.none_owns_eq _
mutual
def Rep (w : World) : LMap → PV → Value → Prop
  | _, .v x, y => y = x
  | _, .any, _ => True
  | μ, .agg cs, y => ∃ vs : List Value, y = .agg vs.toArray ∧ RepL w μ cs vs ∧ ∀ u ∈ vs, u.oneCell' = true
  | μ, .tup cs, y => ∃ vs : List Value, y = .tuple vs.toArray ∧ RepL w μ cs vs
  | μ, .sl sz xs, y => ∃ A c, y = .slice A xs.length c ∧ xs.length ≤ c ∧ c ≤ maxLen ∧ RepR w μ.shut A sz xs 0
  | μ, .ptr cs, y => ∃ a : Addr, y = .pointer (some a) ∧ RepC w μ.shut (some a) cs 0
  | μ, .lp id o, y => ∃ g, μ.m id = some (.box g) ∧ y = .pointer (some ⟨g, o, none⟩)
  | μ, .row id ver, y => ∃ z k, μ.m id = some (.row z k) ∧ ver ≤ k ∧ y.oneCell' = true ∧ (k = ver → y = z)
  | μ, .rp id ver sz i j, y => ∃ z k, μ.m id = some (.row z k) ∧ ver ≤ k ∧ y.oneCell' = true ∧ (k = ver → ∃ g n c, z = .slice (some ⟨g, 0, none⟩) n c ∧ y = .pointer (some ⟨g, i * sz + j, none⟩))
  | _, .own _ _ _, _ => False
  | μ, .fn f first caps, y => ∃ vs us : List Value, y = .func f vs.toArray us.toArray ∧ RepL w μ first vs ∧ RepL w μ caps us
  | μ, .ifc t x, y => ∃ z, y = .iface t z ∧ Rep w μ x z
  | μ, .rs id ver sz off len, y => ∃ z k, μ.m id = some (.row z k) ∧ ver ≤ k ∧ y.oneCell' = true ∧ (k = ver → ∃ g n c c', z = .slice (some ⟨g, 0, none⟩) n c ∧ y = .slice (some ⟨g, off * sz, none⟩) len c' ∧ len ≤ c' ∧ c' ≤ maxLen)
  | μ, .mp kv, y => ∃ g es clk, y = .map (some g) ∧ w.heap[g]? = some (.map es clk) ∧ ¬ μ.owns g ∧ MapIs es clk kv
  | μ, .mo id, y => ∃ g, μ.m id = some (.box g) ∧ y = .map (some g)
def RepL (w : World) : LMap → List PV → List Value → Prop
  | _, [], vs => vs = []
  | μ, c :: cs, vs => ∃ u us, vs = u :: us ∧ Rep w μ c u ∧ RepL w μ cs us
def RepC (w : World) : LMap → Option Addr → List PV → Nat → Prop
  | _, _, [], _ => True
  | μ, A, c :: cs, k => (∃ a u, A = some a ∧ w.cell? (a.add k) = some u ∧ ¬ μ.owns a.block ∧ u.oneCell' = true ∧ Rep w μ c u) ∧ RepC w μ A cs (k + 1)
def RepR (w : World) : LMap → Option Addr → Nat → List (List PV) → Nat → Prop
  | _, _, _, [], _ => True
  | μ, A, sz, e :: es, k => e.length = sz ∧ RepC w μ A e k ∧ RepR w μ A sz es (k + sz)
end
structure Later (w : World) (μ : LMap) (w' : World) (μ' : LMap) : Prop where
  cell : ∀ (a : Addr) u, w.cell? a = some u → ¬ μ.owns a.block → w'.cell? a = some u ∧ ¬ μ'.owns a.block
  box : ∀ id g, μ.m id = some (.box g) → μ'.m id = some (.box g)
  row : ∀ id z k, μ.m id = some (.row z k) → ∃ z' k', μ'.m id = some (.row z' k') ∧ k ≤ k' ∧ (k' = k → z' = z)
  mp : ∀ g es c, w.heap[g]? = some (.map es c) → ¬ μ.owns g → w'.heap[g]? = some (.map es c) ∧ ¬ μ'.owns g
theorem Later.shut {w w' : World} {μ μ' : LMap} (h : Later w μ w' μ') : Later w μ.shut w' μ'.shut :=
  ⟨fun a u hc ho => by
    rw [LMap.shut_owns] at ho
    rw [LMap.shut_owns]
    exact h.cell a u hc ho, fun _ _ h => (by cases h), fun _ _ _ h => (by cases h), fun g es c hg ho => by
    rw [LMap.shut_owns] at ho
    rw [LMap.shut_owns]
    exact h.mp g es c hg ho⟩
mutual
theorem Rep.later {w w' : World} : ∀ {μ μ' : LMap} (_ : Later w μ w' μ') (p : PV) (y : Value), Rep w μ p y → Rep w' μ' p y
  | _, _, _, .v _, _, r => r
  | _, _, _, .any, _, _ => trivial
  | _, _, h, .agg cs, _, ⟨vs, e, r, h1⟩ => ⟨vs, e, RepL.later h cs vs r, h1⟩
  | _, _, h, .tup cs, _, ⟨vs, e, r⟩ => ⟨vs, e, RepL.later h cs vs r⟩
  | _, _, h, .sl sz xs, _, ⟨A, c, e, h1, h2, r⟩ => ⟨A, c, e, h1, h2, RepR.later h.shut A sz xs 0 r⟩
  | _, _, h, .ptr cs, _, ⟨a, e, r⟩ => ⟨a, e, RepC.later h.shut (some a) cs 0 r⟩
  | _, _, h, .lp id o, _, ⟨g, hg, e⟩ => ⟨g, h.box id g hg, e⟩
  | _, _, h, .row id ver, y, ⟨z, k, hz, hv, h1, e⟩ => by
    obtain ⟨z', k', hz', hk, he⟩ := h.row id z k hz
    refine ⟨z', k', hz', Nat.le_trans hv hk, h1, fun hk' => ?_⟩
    have : k = ver := by omega
    rw [e this, he (by omega)]
  | _, _, h, .rp id ver _ _ _, y, ⟨z, k, hz, hv, h1, e⟩ => by
    obtain ⟨z', k', hz', hk, he⟩ := h.row id z k hz
    refine ⟨z', k', hz', Nat.le_trans hv hk, h1, fun hk' => ?_⟩
    have : k = ver := by omega
    rw [he (by omega)]
    exact e this
  | _, _, _, .own _ _ _, _, r => r
  | _, _, h, .fn _ first caps, _, ⟨vs, us, e, r1, r2⟩ => ⟨vs, us, e, RepL.later h first vs r1, RepL.later h caps us r2⟩
  | _, _, h, .ifc _ x, _, ⟨z, e, r⟩ => ⟨z, e, Rep.later h x z r⟩
  | _, _, h, .rs id ver _ _ _, y, ⟨z, k, hz, hv, h1, e⟩ => by
    obtain ⟨z', k', hz', hk, he⟩ := h.row id z k hz
    refine ⟨z', k', hz', Nat.le_trans hv hk, h1, fun hk' => ?_⟩
    have : k = ver := by omega
    rw [he (by omega)]
    exact e this
  | _, _, h, .mp _, _, ⟨g, es, clk, e, hg, ho, hm⟩ => ⟨g, es, clk, e, (h.mp g es clk hg ho).1, (h.mp g es clk hg ho).2, hm⟩
  | _, _, h, .mo id, _, ⟨g, hg, e⟩ => ⟨g, h.box id g hg, e⟩
theorem RepL.later {w w' : World} : ∀ {μ μ' : LMap} (_ : Later w μ w' μ') (cs : List PV) (vs : List Value), RepL w μ cs vs → RepL w' μ' cs vs
  | _, _, _, [], _, r => r
  | _, _, h, c :: cs, _, ⟨u, us, e, r1, r2⟩ => ⟨u, us, e, Rep.later h c u r1, RepL.later h cs us r2⟩
theorem RepC.later {w w' : World} : ∀ {μ μ' : LMap} (_ : Later w μ w' μ') (A : Option Addr) (cs : List PV) (k : Nat), RepC w μ A cs k → RepC w' μ' A cs k
  | _, _, _, _, [], _, _ => trivial
  | μ, μ', h, A, c :: cs, k, ⟨⟨a, u, e, hc, ho, h1, r⟩, r2⟩ => by
    have hb : (a.add k).block = a.block := block_of_add a k
    obtain ⟨hc', ho'⟩ := h.cell (a.add k) u hc (by rw [hb]; exact ho)
    rw [hb] at ho'
    exact ⟨⟨a, u, e, hc', ho', h1, Rep.later h c u r⟩, RepC.later h A cs (k + 1) r2⟩
theorem RepR.later {w w' : World} : ∀ {μ μ' : LMap} (_ : Later w μ w' μ') (A : Option Addr) (sz : Nat) (xs : List (List PV)) (k : Nat), RepR w μ A sz xs k → RepR w' μ' A sz xs k
  | _, _, _, _, _, [], _, _ => trivial
  | _, _, h, A, sz, e :: es, k, ⟨hl, r1, r2⟩ => ⟨hl, RepC.later h A e k r1, RepR.later h A sz es (k + sz) r2⟩
end
mutual
theorem Rep.opens {w : World} {μ : LMap} : ∀ (p : PV) (y : Value), Rep w μ.shut p y → Rep w μ p y
  | .v _, _, r => r
  | .any, _, _ => trivial
  | .agg cs, _, ⟨vs, e, r, h1⟩ => ⟨vs, e, RepL.opens cs vs r, h1⟩
  | .tup cs, _, ⟨vs, e, r⟩ => ⟨vs, e, RepL.opens cs vs r⟩
  | .sl sz xs, _, ⟨A, c, e, h1, h2, r⟩ => ⟨A, c, e, h1, h2, by rw [LMap.shut_shut] at r; exact r⟩
  | .ptr cs, _, ⟨a, e, r⟩ => ⟨a, e, by rw [LMap.shut_shut] at r; exact r⟩
  | .lp _ _, _, ⟨_, hg, _⟩ => by cases hg
  | .row _ _, _, ⟨_, _, hz, _⟩ => by cases hz
  | .rp _ _ _ _ _, _, ⟨_, _, hz, _⟩ => by cases hz
  | .own _ _ _, _, r => r
  | .fn _ first caps, _, ⟨vs, us, e, r1, r2⟩ => ⟨vs, us, e, RepL.opens first vs r1, RepL.opens caps us r2⟩
  | .ifc _ x, _, ⟨z, e, r⟩ => ⟨z, e, Rep.opens x z r⟩
  | .rs _ _ _ _ _, _, ⟨_, _, hz, _⟩ => by cases hz
  | .mp _, _, ⟨g, es, clk, e, hg, ho, hm⟩ => ⟨g, es, clk, e, hg, by rwa [LMap.shut_owns] at ho, hm⟩
  | .mo _, _, ⟨_, hg, _⟩ => by cases hg
theorem RepL.opens {w : World} {μ : LMap} : ∀ (cs : List PV) (vs : List Value), RepL w μ.shut cs vs → RepL w μ cs vs
  | [], _, r => r
  | c :: cs, _, ⟨u, us, e, r1, r2⟩ => ⟨u, us, e, Rep.opens c u r1, RepL.opens cs us r2⟩
end
mutual
def PV.closed : PV → Bool
  | .agg cs | .tup cs => closedL cs
  | .lp _ _ | .row _ _ | .rp _ _ _ _ _ | .own _ _ _ | .rs _ _ _ _ _ | .mo _ => false
  | .fn _ a b => closedL a && closedL b
  | .ifc _ x => x.closed
  | _ => true
def closedL : List PV → Bool
  | [] => true
  | c :: cs => c.closed && closedL cs
end
mutual
theorem Rep.shuts {w : World} {μ : LMap} : ∀ (p : PV) (y : Value), p.closed = true → Rep w μ p y → Rep w μ.shut p y
  | .v _, _, _, r => r
  | .any, _, _, _ => trivial
  | .agg cs, _, h, ⟨vs, e, r, h1⟩ => ⟨vs, e, RepL.shuts cs vs (by simpa [PV.closed] using h) r, h1⟩
  | .tup cs, _, h, ⟨vs, e, r⟩ => ⟨vs, e, RepL.shuts cs vs (by simpa [PV.closed] using h) r⟩
  | .sl sz xs, _, _, ⟨A, c, e, h1, h2, r⟩ => ⟨A, c, e, h1, h2, by rw [LMap.shut_shut]; exact r⟩
  | .ptr cs, _, _, ⟨a, e, r⟩ => ⟨a, e, by rw [LMap.shut_shut]; exact r⟩
  | .lp _ _, _, h, _ => by cases h
  | .row _ _, _, h, _ => by cases h
  | .rp _ _ _ _ _, _, h, _ => by cases h
  | .own _ _ _, _, _, r => r
  | .fn _ first caps, _, h, ⟨vs, us, e, r1, r2⟩ => by
    simp only [PV.closed, Bool.and_eq_true] at h
    exact ⟨vs, us, e, RepL.shuts first vs h.1 r1, RepL.shuts caps us h.2 r2⟩
  | .ifc _ x, _, h, ⟨z, e, r⟩ => ⟨z, e, Rep.shuts x z (by simpa [PV.closed] using h) r⟩
  | .rs _ _ _ _ _, _, h, _ => by cases h
  | .mp _, _, _, ⟨g, es, clk, e, hg, ho, hm⟩ => ⟨g, es, clk, e, hg, by rwa [LMap.shut_owns], hm⟩
  | .mo _, _, h, _ => by cases h
theorem RepL.shuts {w : World} {μ : LMap} : ∀ (cs : List PV) (vs : List Value), closedL cs = true → RepL w μ cs vs → RepL w μ.shut cs vs
  | [], _, _, r => r
  | c :: cs, _, h, ⟨u, us, e, r1, r2⟩ => by
    simp only [closedL, Bool.and_eq_true] at h
    exact ⟨u, us, e, Rep.shuts c u h.1 r1, RepL.shuts cs us h.2 r2⟩
end
theorem RepL.length {w : World} {μ : LMap} : ∀ {cs : List PV} {vs : List Value}, RepL w μ cs vs → vs.length = cs.length
  | [], _, r => by simp only [RepL] at r; subst r; rfl
  | c :: cs, _, r => by
    simp only [RepL] at r
    obtain ⟨u, us, rfl, _, r⟩ := r
    simp [RepL.length r]
theorem RepL.get {w : World} {μ : LMap} : ∀ {cs : List PV} {vs : List Value}, RepL w μ cs vs → ∀ (i : Nat) (p : PV), cs[i]? = some p → ∃ y, vs[i]? = some y ∧ Rep w μ p y
  | [], _, _, _, _, h => by simp at h
  | c :: cs, _, r, i, p, h => by
    simp only [RepL] at r
    obtain ⟨u, us, rfl, r1, r2⟩ := r
    cases i with
    | zero => simp at h; subst h; exact ⟨u, rfl, r1⟩
    | succ i => exact RepL.get r2 i p (by simpa using h)
theorem RepL.set {w : World} {μ : LMap} : ∀ {cs : List PV} {vs : List Value}, RepL w μ cs vs → ∀ (i : Nat) (p : PV) (y : Value), Rep w μ p y → RepL w μ (cs.set i p) (vs.set i y)
  | [], _, r, i, p, y, _ => by simp only [RepL] at r; subst r; simp [RepL]
  | c :: cs, _, r, i, p, y, h => by
    simp only [RepL] at r
    obtain ⟨u, us, rfl, r1, r2⟩ := r
    cases i with
    | zero => simp only [List.set_cons_zero, RepL]; exact ⟨y, us, rfl, h, r2⟩
    | succ i => simp only [List.set_cons_succ, RepL]; exact ⟨u, _, rfl, r1, RepL.set r2 i p y h⟩
theorem RepL.append {w : World} {μ : LMap} : ∀ {cs : List PV} {vs : List Value}, RepL w μ cs vs → ∀ {ds : List PV} {us : List Value}, RepL w μ ds us → RepL w μ (cs ++ ds) (vs ++ us)
  | [], _, r, _, _, h => by simp only [RepL] at r; subst r; exact h
  | c :: cs, _, r, _, _, h => by
    simp only [RepL] at r
    obtain ⟨u, us, rfl, r1, r2⟩ := r
    simp only [List.cons_append, RepL]
    exact ⟨u, _, rfl, r1, RepL.append r2 h⟩
theorem RepL.take {w : World} {μ : LMap} : ∀ {cs : List PV} {vs : List Value}, RepL w μ cs vs → ∀ n, RepL w μ (cs.take n) (vs.take n)
  | [], _, r, n => by simp only [RepL] at r; subst r; simp [RepL]
  | c :: cs, _, r, n => by
    simp only [RepL] at r
    obtain ⟨u, us, rfl, r1, r2⟩ := r
    cases n with
    | zero => simp [RepL]
    | succ n => simp only [List.take_succ_cons, RepL]; exact ⟨u, _, rfl, r1, RepL.take r2 n⟩
theorem RepL.drop {w : World} {μ : LMap} : ∀ {cs : List PV} {vs : List Value}, RepL w μ cs vs → ∀ n, RepL w μ (cs.drop n) (vs.drop n)
  | [], _, r, n => by simp only [RepL] at r; subst r; simp [RepL]
  | c :: cs, _, r, n => by
    simp only [RepL] at r
    obtain ⟨u, us, rfl, r1, r2⟩ := r
    cases n with
    | zero => simp only [List.drop_zero, RepL]; exact ⟨u, us, rfl, r1, r2⟩
    | succ n => simp only [List.drop_succ_cons]; exact RepL.drop r2 n
theorem RepC.get {w : World} {μ : LMap} {A : Option Addr} : ∀ {cs : List PV} {k : Nat}, RepC w μ A cs k → ∀ (i : Nat) (p : PV), cs[i]? = some p → ∃ a u, A = some a ∧ w.cell? (a.add (k + i)) = some u ∧ ¬ μ.owns a.block ∧ u.oneCell' = true ∧ Rep w μ p u
  | [], _, _, _, _, h => by simp at h
  | c :: cs, k, r, i, p, h => by
    simp only [RepC] at r
    cases i with
    | zero => simp at h; subst h; exact r.1
    | succ i =>
      have := RepC.get r.2 i p (by simpa using h)
      rwa [show k + 1 + i = k + (i + 1) from by omega] at this
theorem RepC.drop {w : World} {μ : LMap} {A : Option Addr} : ∀ {cs : List PV} {k : Nat}, RepC w μ A cs k → ∀ n, RepC w μ A (cs.drop n) (k + n)
  | [], _, _, n => by simp [RepC]
  | c :: cs, k, r, n => by
    cases n with
    | zero => simpa using r
    | succ n =>
      simp only [RepC] at r
      have := RepC.drop r.2 n
      rw [List.drop_succ_cons, show k + (n + 1) = k + 1 + n from by omega]
      exact this
theorem RepC.shift {w : World} {μ : LMap} {a : Addr} (n : Nat) : ∀ {cs : List PV} {k : Nat}, RepC w μ (some a) cs (n + k) → RepC w μ (some (a.add n)) cs k
  | [], _, _ => trivial
  | c :: cs, k, r => by
    simp only [RepC] at r ⊢
    obtain ⟨⟨a', u, e, hc, ho, h1, r1⟩, r2⟩ := r
    injection e with e
    subst e
    exact ⟨⟨a.add n, u, rfl, by rw [add_of_add]; exact hc, by rw [block_of_add]; exact ho, h1, r1⟩, RepC.shift n (k := k + 1) r2⟩
theorem RepR.get {w : World} {μ : LMap} {A : Option Addr} {sz : Nat} : ∀ {xs : List (List PV)} {k : Nat}, RepR w μ A sz xs k → ∀ (i : Nat) (e : List PV), xs[i]? = some e → e.length = sz ∧ RepC w μ A e (k + i * sz)
  | [], _, _, _, _, h => by simp at h
  | c :: cs, k, r, i, p, h => by
    simp only [RepR] at r
    cases i with
    | zero => simp at h; subst h; exact ⟨r.1, by simpa using r.2.1⟩
    | succ i =>
      have := RepR.get r.2.2 i p (by simpa using h)
      rwa [show k + sz + i * sz = k + (i + 1) * sz from by rw [Nat.succ_mul]; omega] at this
theorem RepC.append {w : World} {μ : LMap} {A : Option Addr} : ∀ {cs : List PV} {k : Nat}, RepC w μ A cs k → ∀ {ds : List PV}, RepC w μ A ds (k + cs.length) → RepC w μ A (cs ++ ds) k
  | [], _, _, _, h => by simpa using h
  | c :: cs, k, r, ds, h => by
    simp only [RepC, List.cons_append] at r ⊢
    exact ⟨r.1, RepC.append r.2 (by rwa [show k + 1 + cs.length = k + (c :: cs).length from by simp; omega])⟩
theorem RepR.flat {w : World} {μ : LMap} {A : Option Addr} {sz : Nat} : ∀ {xs : List (List PV)} {k : Nat}, RepR w μ A sz xs k → RepC w μ A xs.flatten k ∧ xs.flatten.length = xs.length * sz
  | [], _, _ => by simp [RepC]
  | e :: es, k, r => by
    simp only [RepR] at r
    obtain ⟨hl, r1, r2⟩ := r
    have := RepR.flat r2
    rw [List.flatten_cons]
    exact ⟨RepC.append r1 (by rw [hl]; exact this.1), by rw [List.length_append, this.2, hl, List.length_cons, Nat.succ_mul]; omega⟩
theorem RepR.of_flat {w : World} {μ : LMap} {A : Option Addr} {sz : Nat} : ∀ {xs : List (List PV)} {k : Nat}, (∀ e ∈ xs, e.length = sz) → RepC w μ A xs.flatten k → RepR w μ A sz xs k
  | [], _, _, _ => trivial
  | e :: es, k, hl, r => by
    rw [List.flatten_cons] at r
    have he : e.length = sz := hl e (List.mem_cons_self ..)
    simp only [RepR]
    refine ⟨he, ?_, RepR.of_flat (fun e h => hl e (List.mem_cons_of_mem _ h)) ?_⟩
    · have : ∀ (cs ds : List PV) k, RepC w μ A (cs ++ ds) k → RepC w μ A cs k := by
        intro cs
        induction cs with
        | nil => intro _ _ _; trivial
        | cons c cs ih => intro ds k h; simp only [List.cons_append, RepC] at h ⊢; exact ⟨h.1, ih ds _ h.2⟩
      exact this e es.flatten k r
    · have := RepC.drop r e.length
      rwa [List.drop_left, he] at this
theorem RepC.row {w : World} {μ : LMap} {A : Option Addr} : ∀ {cs : List PV} {k : Nat}, RepC w μ A cs k → ∃ vs : List Value, RepL w μ cs vs ∧ (∀ u ∈ vs, u.oneCell' = true) ∧ ∀ j u, vs[j]? = some u → ∃ a, A = some a ∧ w.cell? (a.add (k + j)) = some u
  | [], _, _ => ⟨[], rfl, by simp, by simp⟩
  | c :: cs, k, r => by
    simp only [RepC] at r
    obtain ⟨⟨a, u, e, hc, _, h1, r1⟩, r2⟩ := r
    obtain ⟨vs, q1, q2, q3⟩ := RepC.row r2
    refine ⟨u :: vs, ⟨u, vs, rfl, r1, q1⟩, ?_, ?_⟩
    · intro x hx
      rcases List.mem_cons.1 hx with rfl | hx
      · exact h1
      · exact q2 x hx
    · intro j x hx
      cases j with
      | zero => simp at hx; subst hx; exact ⟨a, e, hc⟩
      | succ j =>
        obtain ⟨a', e', h'⟩ := q3 j x (by simpa using hx)
        exact ⟨a', e', by rwa [show k + (j + 1) = k + 1 + j from by omega]⟩
theorem RepC.of_cells {w : World} {μ : LMap} {a : Addr} (ho : ¬ μ.owns a.block) : ∀ {cs : List PV} {vs : List Value} {k : Nat}, RepL w μ cs vs → (∀ u ∈ vs, u.oneCell' = true) → (∀ j u, vs[j]? = some u → w.cell? (a.add (k + j)) = some u) → RepC w μ (some a) cs k
  | [], _, _, _, _, _ => trivial
  | c :: cs, vs, k, r, h1, h => by
    simp only [RepL] at r
    obtain ⟨u, us, rfl, r1, r2⟩ := r
    simp only [RepC]
    exact ⟨⟨a, u, rfl, by simpa using h 0 u rfl, ho, h1 u (List.mem_cons_self ..), r1⟩, RepC.of_cells ho r2 (fun x hx => h1 x (List.mem_cons_of_mem _ hx)) (fun j x hx => by rw [show k + 1 + j = k + (j + 1) from by omega]; exact h (j + 1) x (by simpa using hx))⟩
end Go.Proofs.YtbjepdfnmbdplaaGreat
namespace Go.Proofs.YtbjepdfnmbdplaaGreat
set_option linter.unusedSimpArgs false
set_option linter.unusedVariables false
set_option linter.unusedSectionVars false
open Go.RowKit
inductive LB where
  | box (cells : List PV)
  | row (ty sz ver : Nat) (xs : List (List PV))
  | mp (kv : List (Value × Value))
  | it (kv : List (Value × Value)) (seen : List Nat)
structure St where
  nt : Nat
  env : List (Nat × PV)
  lh : List (Nat × LB)
def look {α : Type} (k : Nat) : List (Nat × α) → Option α
  | [] => none
  | (j, x) :: l => bif Nat.beq k j then some x else look k l
def St.get (σ : St) (t : Nat) : Option PV := look t σ.env
def St.blk (σ : St) (id : Nat) : Option LB := look id σ.lh
def St.ev (σ : St) : Operand → Option PV
  | .tmp t => σ.get t
  | .const x => some (.v x)
  | .func f => some (.fn (.func f) [] [])
  | .global _ => none
def St.put (σ : St) (d : Option Nat) (p : PV) : St := match d with
  | some d => { σ with env := (d, p) :: σ.env }
  | none => σ
def St.setB (σ : St) (id : Nat) (b : LB) : St := { σ with lh := (id, b) :: σ.lh }
def St.addB (σ : St) (nb : List (Nat × LB)) : St := { σ with lh := nb ++ σ.lh }
def inB (σ : St) : Option Nat → Bool
  | some d => Nat.blt d σ.nt
  | none => true
structure XF where
  box : Nat → Prop
  F : Nat → Prop
  fr : List (List (Nat × PV) × Array Value)
  df : List Deferred
def FrOK (X : XF) (w : World) (μ : LMap) : Prop := ∀ e ∈ X.fr, ∀ t p, look t e.1 = some p → ∃ y, e.2[t]? = some y ∧ Rep w μ p y
theorem FrOK.later {X : XF} {w w' : World} {μ μ' : LMap} (h : FrOK X w μ) (l : Later w μ w' μ') : FrOK X w' μ' := fun e he t p hp => by
  obtain ⟨y, hy, r⟩ := h e he t p hp
  exact ⟨y, hy, Rep.later l p y r⟩
structure Keep (X : Nat → Prop) (w w' : World) : Prop where
  os : w'.os = w.os
  tape : w'.tape = w.tape
  output : w'.output = w.output
  size : w.heap.size ≤ w'.heap.size
  block : ∀ k, k < w.heap.size → ¬ X k → w'.heap[k]? = w.heap[k]?
theorem Keep.refl (X : Nat → Prop) (w : World) : Keep X w w := ⟨rfl, rfl, rfl, Nat.le_refl _, fun _ _ _ => rfl⟩
theorem Keep.below {X : Nat → Prop} {w w1 w2 : World} (h : Keep X w w1) (b : Below w1.heap.size w1 w2) : Keep X w w2 :=
  ⟨b.os.trans h.os, b.tape.trans h.tape, b.output.trans h.output, Nat.le_trans h.size b.size, fun k hk hx => (b.block k (Nat.lt_of_lt_of_le hk h.size)).trans (h.block k hk hx)⟩
theorem Keep.to_below {w w' : World} (h : Keep (fun _ => False) w w') : Below w.heap.size w w' := ⟨h.os, h.tape, h.output, h.size, fun k hk => h.block k hk (fun x => x)⟩
theorem Keep.setCell {X : Nat → Prop} {w w1 : World} (h : Keep X w w1) {a : Addr} (ha : w.heap.size ≤ a.block ∨ X a.block) (v : Value) : Keep X w (w1.setCell a v) :=
  ⟨h.os, h.tape, h.output, Nat.le_trans h.size (by simp [World.setCell]), fun k hk hx => by
    rw [Below.heap_setCell _ _ _ _ (by
      rcases ha with ha | ha
      · omega
      · intro e; exact hx (e ▸ ha))]
    exact h.block k hk hx⟩
def BlkOK (w0 w : World) (μ : LMap) (id : Nat) : LB → Prop
  | .box cells => ∃ g cs ty, μ.m id = some (.box g) ∧ w.heap[g]? = some (.cells cs ty (0, 0)) ∧ RepL w μ cells cs.toList ∧ ∀ u ∈ cs.toList, u.oneCell' = true
  | .row ty sz ver xs => ∃ y vs, μ.m id = some (.row y ver) ∧ w.ownsRow w0.heap.size ty sz y xs.length vs ∧ RepL w μ xs.flatten vs ∧ (∀ e ∈ xs, e.length = sz) ∧ ∀ u ∈ vs, u.oneCell' = true
  | .mp kv => ∃ g es clk, μ.m id = some (.box g) ∧ w.heap[g]? = some (.map es clk) ∧ MapIs es clk kv
  | .it kv seen => ∃ g gm es clk bs, μ.m id = some (.box g) ∧ w.heap[g]? = some (.mapIter (some gm) clk bs clk) ∧ w.heap[gm]? = some (.map es clk) ∧ ¬ μ.owns gm ∧ MapIs es clk kv ∧ bs.toList.map some = seen.map (fun i => (es[i]?).map (·.born)) ∧ seen.Nodup ∧ ∀ i ∈ seen, i < kv.length
structure SimM (X : XF) (w0 : World) (σ : St) (a : Act) (w : World) (μ : LMap) : Prop where
  nt : a.tmps.size = σ.nt
  defers : a.defers = X.df
  keep : Keep X.box w0 w
  F : μ.F = X.F
  hF : ∀ g, X.F g → g < w0.heap.size
  hX : ∀ g, X.box g → ¬ X.F g
  fr : FrOK X w μ
  env : ∀ t p, σ.get t = some p → ∃ y, a.tmps[t]? = some y ∧ Rep w μ p y
  blk : ∀ id b, σ.blk id = some b → BlkOK w0 w μ id b
  dom : ∀ id l, μ.m id = some l → ∃ b, σ.blk id = some b
  apart : ∀ id id' l l' g, μ.m id = some l → μ.m id' = some l' → l.block = some g → l'.block = some g → id = id'
  fresh : ∀ id l g, μ.m id = some l → l.block = some g → g < w.heap.size ∧ (w0.heap.size ≤ g ∨ X.box g)
section
variable {X : XF} {w0 w w' : World} {σ σ' : St} {a : Act} {μ μ' : LMap}
theorem of_eq_true_blt {a b : Nat} (h : Nat.blt a b = true) : a < b := by rwa [Nat.blt_eq] at h
theorem look_cons_eq {α : Type} (k : Nat) (x : α) (l : List (Nat × α)) : look k ((k, x) :: l) = some x := by simp [look]
theorem look_cons_ne {α : Type} {k j : Nat} (h : k ≠ j) (x : α) (l : List (Nat × α)) : look k ((j, x) :: l) = look k l := by
  have : Nat.beq k j = false := by
    cases e : Nat.beq k j
    · rfl
    · exact absurd (Nat.eq_of_beq_eq_true e) h
  simp [look, this]
theorem look_append {α : Type} (k : Nat) : ∀ (l m : List (Nat × α)), look k (l ++ m) = match look k l with | some x => some x | none => look k m
  | [], m => rfl
  | (j, x) :: l, m => by
    by_cases h : k = j
    · subst h; rw [List.cons_append, look_cons_eq, look_cons_eq]
    · rw [List.cons_append, look_cons_ne h, look_cons_ne h, look_append k l m]
theorem St.get_put (σ : St) (d : Nat) (p : PV) (t : Nat) : (σ.put (some d) p).get t = if t = d then some p else σ.get t := by
  unfold St.put St.get
  by_cases h : t = d
  · subst h; rw [if_pos rfl, look_cons_eq]
  · rw [if_neg h, look_cons_ne h]
theorem St.blk_put (σ : St) (d : Option Nat) (p : PV) (id : Nat) : (σ.put d p).blk id = σ.blk id := by cases d <;> rfl
theorem St.nt_put (σ : St) (d : Option Nat) (p : PV) : (σ.put d p).nt = σ.nt := by cases d <;> rfl
theorem Act.size_put (a : Act) (d : Option Nat) (y : Value) : (a.put d y).tmps.size = a.tmps.size := by cases d <;> simp [Act.put]
theorem Act.get_put (a : Act) (d : Nat) (y : Value) (hd : d < a.tmps.size) (t : Nat) : (a.put (some d) y).tmps[t]? = if t = d then some y else a.tmps[t]? := by
  simp only [Act.put, Array.getElem?_setIfInBounds]
  by_cases h : t = d
  · subst h; simp [hd]
  · rw [if_neg (Ne.symm h), if_neg h]
theorem eval_tmp (h : SimM X w0 σ a w μ) {x : Operand} {p : PV} (hx : σ.ev x = some p) : Rep w μ p (a.eval x) := by
  cases x with
  | tmp t =>
    obtain ⟨y, hy, r⟩ := h.env t p hx
    have : a.eval (.tmp t) = y := by simp [Act.eval, hy]
    rw [this]; exact r
  | const v => injection hx with hx; subst hx; exact rfl
  | func f => injection hx with hx; subst hx; exact ⟨[], [], rfl, rfl, rfl⟩
  | global g => cases hx
theorem eval_v (h : SimM X w0 σ a w μ) {x : Operand} {v : Value} (hx : σ.ev x = some (.v v)) : a.eval x = v := eval_tmp h hx
theorem BlkOK.later {id id' : Nat} {b : LB} (h : BlkOK w0 w μ id b) (hl : Later w μ w' μ') (hm : ∀ l, μ.m id = some l → μ'.m id' = some l) (hb : ∀ l g, μ.m id = some l → l.block = some g → w'.heap[g]? = w.heap[g]?) : BlkOK w0 w' μ' id' b := by
  cases b with
  | box cells =>
    obtain ⟨g, cs, ty, hm', hg, r, h1⟩ := h
    exact ⟨g, cs, ty, hm _ hm', (hb _ g hm' rfl).trans hg, RepL.later hl _ _ r, h1⟩
  | row ty sz ver xs =>
    obtain ⟨y, vs, hm', hown, r, h1, h2⟩ := h
    refine ⟨y, vs, hm _ hm', ?_, RepL.later hl _ _ r, h1, h2⟩
    obtain ⟨g1, g2⟩ := hown
    refine ⟨g1, ?_⟩
    rcases g2 with g2 | ⟨g, cap, cur, hv, hb', hh, h3⟩
    · exact .inl g2
    · exact .inr ⟨g, cap, cur, hv, hb', by rw [hb _ g hm' (by rw [LI.block, hv]; rfl)]; exact hh, h3⟩
  | mp kv =>
    obtain ⟨g, es, clk, hm', hg, h1⟩ := h
    exact ⟨g, es, clk, hm _ hm', (hb _ g hm' rfl).trans hg, h1⟩
  | it kv seen =>
    obtain ⟨g, gm, es, clk, bs, hm', hg, hgm, ho, h1⟩ := h
    exact ⟨g, gm, es, clk, bs, hm _ hm', (hb _ g hm' rfl).trans hg, (hl.mp gm es clk hgm ho).1, (hl.mp gm es clk hgm ho).2, h1⟩
theorem SimM.put (h : SimM X w0 σ a w μ) {d : Option Nat} (hd : inB σ d = true) {p : PV} {y : Value} (r : Rep w μ p y) : SimM X w0 (σ.put d p) (a.put d y) w μ := by
  cases d with
  | none => exact h
  | some d =>
    have hd' : d < a.tmps.size := by rw [h.nt]; exact of_eq_true_blt hd
    refine ⟨by rw [Act.size_put]; exact h.nt, h.defers, h.keep, h.F, h.hF, h.hX, h.fr, ?_, h.blk, h.dom, h.apart, h.fresh⟩
    intro t q hq
    rw [St.get_put] at hq
    rw [Act.get_put a d y hd']
    by_cases ht : t = d
    · rw [if_pos ht] at hq ⊢
      injection hq with hq
      subst hq
      exact ⟨y, rfl, r⟩
    · rw [if_neg ht] at hq ⊢
      exact h.env t q hq
theorem Later.below (hd : ∀ id l g, μ.m id = some l → l.block = some g → g < w.heap.size) (b : Below w.heap.size w w') : Later w μ w' μ :=
  ⟨fun a u hc ho => ⟨cell_later b hc, ho⟩, fun _ _ h => h, fun _ z k h => ⟨z, k, h, Nat.le_refl _, fun _ => rfl⟩, fun g _ _ hg ho => ⟨(b.block g (Array.getElem?_eq_some_iff.1 hg).1).trans hg, ho⟩⟩
theorem SimM.later (h : SimM X w0 σ a w μ) : Below w.heap.size w w' → Later w μ w' μ := fun b => Later.below (fun id l g h1 h2 => (h.fresh id l g h1 h2).1) b
theorem SimM.below (h : SimM X w0 σ a w μ) (b : Below w.heap.size w w') : SimM X w0 σ a w' μ := by
  have hl := h.later b
  refine ⟨h.nt, h.defers, h.keep.below b, h.F, h.hF, h.hX, h.fr.later hl, ?_, ?_, h.dom, h.apart, fun id l g h1 h2 => ?_⟩
  · intro t p hp
    obtain ⟨y, hy, r⟩ := h.env t p hp
    exact ⟨y, hy, Rep.later hl p y r⟩
  · intro id bk hb
    exact (h.blk id bk hb).later hl (fun _ h => h) fun l g hl' hg' => b.block g (h.fresh id l g hl' hg').1
  · obtain ⟨h3, h4⟩ := h.fresh id l g h1 h2
    exact ⟨Nat.lt_of_lt_of_le h3 b.size, h4⟩
theorem SimM.less (h : SimM X w0 σ a w μ) (hn : σ'.nt = σ.nt) (he : ∀ t p, σ'.get t = some p → σ.get t = some p) (hb : ∀ id, σ'.blk id = σ.blk id) : SimM X w0 σ' a w μ :=
  ⟨h.nt.trans hn.symm, h.defers, h.keep, h.F, h.hF, h.hX, h.fr, fun t p hp => h.env t p (he t p hp), fun id b hb' => h.blk id b ((hb id).symm.trans hb'), fun id l hl => by rw [hb]; exact h.dom id l hl, h.apart, h.fresh⟩
end
structure Weak (X : XF) (w0 : World) (σ σ' : St) : Prop where
  run : ∀ a w μ, SimM X w0 σ a w μ → ∃ μ', SimM X w0 σ' a w μ'
theorem Weak.refl (X : XF) (w0 : World) (σ : St) : Weak X w0 σ σ := ⟨fun _ _ μ h => ⟨μ, h⟩⟩
theorem Weak.trans {X : XF} {w0 : World} {σ σ' σ'' : St} (h : Weak X w0 σ σ') (k : Weak X w0 σ' σ'') : Weak X w0 σ σ'' := ⟨fun a w μ s => by
  obtain ⟨μ', s'⟩ := h.run a w μ s
  exact k.run a w μ' s'⟩
def subEnv (σ : St) : List (Nat × PV) → Prop
  | [] => True
  | (t, p) :: l => σ.get t = some p ∧ subEnv σ l
theorem subEnv_get {σ : St} : ∀ {l : List (Nat × PV)}, subEnv σ l → ∀ t p, look t l = some p → σ.get t = some p
  | [], _, _, _, h => by cases h
  | (j, q) :: l, hs, t, p, h => by
    by_cases e : t = j
    · subst e; rw [look_cons_eq] at h; injection h with h; subst h; exact hs.1
    · rw [look_cons_ne e] at h; exact subEnv_get hs.2 t p h
section
variable (P : Program) (X : XF) (w0 : World)
structure PW (c : Code) (σ : St) (K : Exit → St → Prop) : Prop where
  run : ∀ a w μ, SimM X w0 σ a w μ → c.wp P (fun ex a' w' => ∃ σ' μ', K ex σ' ∧ SimM X w0 σ' a' w' μ') a w
inductive ThenK (next : St → Prop) (K : Exit → St → Prop) : Exit → St → Prop
  | n {σ : St} : next σ → ThenK next K .normal σ
  | r {σ : St} : K .ret σ → ThenK next K .ret σ
  | x {σ : St} {id : Nat} : K (.exit id) σ → ThenK next K (.exit id) σ
  | g {σ : St} {l : Nat} : K (.goto l) σ → ThenK next K (.goto l) σ
inductive InBlockK (id : Nat) (K : Exit → St → Prop) : Exit → St → Prop
  | n {σ : St} : K .normal σ → InBlockK id K .normal σ
  | r {σ : St} : K .ret σ → InBlockK id K .ret σ
  | x {σ : St} : K .normal σ → InBlockK id K (.exit id) σ
  | y {σ : St} {j : Nat} : Nat.beq j id = false → K (.exit j) σ → InBlockK id K (.exit j) σ
  | g {σ : St} {l : Nat} : K (.goto l) σ → InBlockK id K (.goto l) σ
structure RW (ops : Array Oper) (l : List Oper) (σ : St) (K : St → Prop) : Prop where
  run : ∀ (Q : Exit → Act → World → Prop), (∀ σ' a w μ, K σ' → SimM X w0 σ' a w μ → Q .normal a w) → ∀ a w μ, SimM X w0 σ a w μ → wpList P ops Q l a w
variable {P X w0}
theorem PW.weak {c : Code} {σ σ' : St} {K : Exit → St → Prop} (hw : Weak X w0 σ σ') (h : PW P X w0 c σ' K) : PW P X w0 c σ K := ⟨fun a w μ s => by
  obtain ⟨μ', s'⟩ := hw.run a w μ s
  exact h.run a w μ' s'⟩
theorem PW.mono {c : Code} {σ : St} {K K' : Exit → St → Prop} (h : PW P X w0 c σ K) (hk : ∀ e σ, K e σ → K' e σ) : PW P X w0 c σ K' := ⟨fun a w μ s =>
  wp_mono (h.run a w μ s) fun e a' w' ⟨σ', μ', k, s'⟩ => ⟨σ', μ', hk e σ' k, s'⟩⟩
theorem PW.seq {x y : Code} {σ : St} {K : Exit → St → Prop} (h : PW P X w0 x σ (ThenK (fun σ' => PW P X w0 y σ' K) K)) : PW P X w0 (.seq x y) σ K := ⟨fun a w μ s => by
  refine wp_seq (wp_mono (h.run a w μ s) ?_)
  rintro e a' w' ⟨σ', μ', k, s'⟩
  cases k with
  | n k => exact k.run a' w' μ' s'
  | x k => exact ⟨σ', μ', k, s'⟩
  | g k => exact ⟨σ', μ', k, s'⟩
  | r k => exact ⟨σ', μ', k, s'⟩⟩
theorem PW.cond {c : Operand} {x y : Code} {σ : St} {K : Exit → St → Prop} {b : Bool} (hc : σ.ev c = some (.v (.bool b))) (ht : b = true → PW P X w0 x σ K) (hf : b = false → PW P X w0 y σ K) : PW P X w0 (.cond c x y) σ K := ⟨fun a w μ s =>
  wp_cond_split (eval_v s hc) (fun e => (ht e).run a w μ s) (fun e => (hf e).run a w μ s)⟩
theorem PW.skip {σ : St} {K : Exit → St → Prop} (h : K .normal σ) : PW P X w0 .skip σ K := ⟨fun _ _ μ s => wp_skip ⟨σ, μ, h, s⟩⟩
theorem PW.label {l : Nat} {σ : St} {K : Exit → St → Prop} (h : K .normal σ) : PW P X w0 (.label l) σ K := ⟨fun _ _ μ s => wp_label ⟨σ, μ, h, s⟩⟩
theorem PW.ret {σ : St} {K : Exit → St → Prop} (h : K .ret σ) : PW P X w0 .ret σ K := ⟨fun _ _ μ s => wp_ret ⟨σ, μ, h, s⟩⟩
theorem PW.exit {id : Nat} {σ : St} {K : Exit → St → Prop} (h : K (.exit id) σ) : PW P X w0 (.exit id) σ K := ⟨fun _ _ μ s => wp_exit ⟨σ, μ, h, s⟩⟩
theorem PW.block {id : Nat} {c : Code} {σ : St} {K : Exit → St → Prop} (h : PW P X w0 c σ (InBlockK id K)) : PW P X w0 (.block id c) σ K := ⟨fun a w μ s => by
  refine wp_block (wp_mono (h.run a w μ s) ?_)
  rintro e a' w' ⟨σ', μ', k, s'⟩
  cases k with
  | n k => exact ⟨σ', μ', k, s'⟩
  | r k => exact ⟨σ', μ', k, s'⟩
  | x k => simp only [Exit.inBlock, if_true]; exact ⟨σ', μ', k, s'⟩
  | @y σ j hne k =>
    have hn : ¬ j = id := fun e => by subst e; simp at hne
    simp only [Exit.inBlock, if_neg hn]
    exact ⟨_, μ', k, s'⟩
  | g k => exact ⟨σ', μ', k, s'⟩⟩
theorem PW.loop {ι : Type} (I : ι → St) (ok : ι → Prop) (m : ι → Nat) (i0 : ι) {c : Code} {σ : St} {K : Exit → St → Prop} (h0 : ok i0) (hw : Weak X w0 σ (I i0))
    (round : ∀ i, ok i → PW P X w0 c (I i) (ThenK (fun σ' => ∃ i', ok i' ∧ m i' < m i ∧ Weak X w0 σ' (I i')) K)) : PW P X w0 (.loop c) σ K := ⟨fun a w μ s => by
  obtain ⟨μ0, s0⟩ := hw.run a w μ s
  refine wp_loop_ghost (fun n a w => ∃ i μ, ok i ∧ m i = n ∧ SimM X w0 (I i) a w μ) (m i0) ⟨i0, μ0, h0, rfl, s0⟩ ?_
  rintro n a w ⟨i, μ, hi, rfl, s⟩
  refine wp_mono ((round i hi).run a w μ s) ?_
  rintro e a' w' ⟨σ', μ', k, s'⟩
  cases k with
  | n k =>
    obtain ⟨i', hi', hm, hw'⟩ := k
    obtain ⟨μ'', s''⟩ := hw'.run a' w' μ' s'
    exact ⟨m i', hm, i', μ'', hi', rfl, s''⟩
  | x k => exact ⟨σ', μ', k, s'⟩
  | g k => exact ⟨σ', μ', k, s'⟩
  | r k => exact ⟨σ', μ', k, s'⟩⟩
theorem PW.region {id : Nat} {l : List Oper} {σ : St} {K : Exit → St → Prop} (h : RW P X w0 l.toArray l σ (K .normal)) : PW P X w0 (.region id l.toArray false) σ K := ⟨fun a w μ s =>
  wp_region_lit (h.run _ (fun σ' _ _ μ' k s' => ⟨σ', μ', k, s'⟩) a w μ s)⟩
theorem RW.nil {ops : Array Oper} {σ : St} {K : St → Prop} (h : K σ) : RW P X w0 ops [] σ K := ⟨fun _ hQ a w μ s => wpList_nil (hQ σ a w μ h s)⟩
theorem RW.weak {ops : Array Oper} {l : List Oper} {σ σ' : St} {K : St → Prop} (hw : Weak X w0 σ σ') (h : RW P X w0 ops l σ' K) : RW P X w0 ops l σ K := ⟨fun Q hQ a w μ s => by
  obtain ⟨μ', s'⟩ := hw.run a w μ s
  exact h.run Q hQ a w μ' s'⟩
end
structure OpEff (P : Program) (o : Oper) (σ σ' : St) : Prop where
  run : ∀ (X : XF) (w0 : World) (a : Act) (w : World) (μ : LMap) (K : Act → World → Prop) (Q : Exit → Act → World → Prop), SimM X w0 σ a w μ → (∀ a' w' μ', SimM X w0 σ' a' w' μ' → K a' w') → o.wp P a w K Q
def PV.id? : PV → Option Nat
  | .lp id _ | .row id _ | .rp id _ _ _ _ | .rs id _ _ _ _ | .mo id => some id
  | _ => none
structure Agree (o : Oper) (σ σ' : St) : Prop where
  nt : σ'.nt = σ.nt
  ev : ∀ x ∈ o.op.operands.toList, ∀ q, σ.ev x = some q → σ'.ev x = some q
  blk : ∀ x ∈ o.op.operands.toList, ∀ q id b, σ.ev x = some q → q.id? = some id → σ.blk id = some b → σ'.blk id = some b
def newB (σ : St) (nb : List (Nat × LB)) : Prop := ∀ id b, look id nb = some b → σ.blk id = none
structure OpOK (P : Program) (o : Oper) (σ : St) (p : PV) (nb : List (Nat × LB)) : Prop where
  run : ∀ σ', Agree o σ σ' → newB σ' nb → OpEff P o σ' ((σ'.addB nb).put o.dst p)
theorem Agree.refl (o : Oper) (σ : St) : Agree o σ σ := ⟨rfl, fun _ _ _ h => h, fun _ _ _ _ _ _ _ h => h⟩
section
variable {P : Program} {X : XF} {w0 : World}
theorem OpOK.eff {o : Oper} {σ : St} {p : PV} {nb : List (Nat × LB)} (h : OpOK P o σ p nb) (hn : newB σ nb) : OpEff P o σ ((σ.addB nb).put o.dst p) := h.run σ (Agree.refl o σ) hn
theorem RW.eff {ops : Array Oper} {o : Oper} {l : List Oper} {σ σ' : St} {K : St → Prop} (hg : o.guard = none) (h : OpEff P o σ σ') (k : RW P X w0 ops l σ' K) : RW P X w0 ops (o :: l) σ K := ⟨fun Q hQ a w μ s =>
  wpList_plain hg fun K' hK => h.run X w0 a w μ K' Q s fun a' w' μ' s' => hK a' w' (k.run Q hQ a' w' μ' s')⟩
theorem newB_nil (σ : St) : newB σ [] := fun _ _ h => by cases h
theorem RW.ok {ops : Array Oper} {o : Oper} {l : List Oper} {σ : St} {p : PV} {K : St → Prop} (hg : o.guard = none) (h : OpOK P o σ p []) (k : RW P X w0 ops l (σ.put o.dst p) K) : RW P X w0 ops (o :: l) σ K :=
  RW.eff hg (h.eff (newB_nil σ)) k
theorem newB_one {σ : St} {id : Nat} {b : LB} (h : σ.blk id = none) : newB σ [(id, b)] := by
  intro id' b' hl
  by_cases e : id' = id
  · subst e; exact h
  · rw [look_cons_ne e] at hl; cases hl
theorem RW.okB {ops : Array Oper} {o : Oper} {l : List Oper} {σ : St} {p : PV} {id : Nat} {b : LB} {K : St → Prop} (hg : o.guard = none) (h : OpOK P o σ p [(id, b)]) (hn : σ.blk id = none) (k : RW P X w0 ops l ((σ.setB id b).put o.dst p) K) : RW P X w0 ops (o :: l) σ K :=
  RW.eff hg (h.eff (newB_one hn)) k
theorem yielded_of {ops : Array Oper} {σ : St} {a : Act} {w : World} {μ : LMap} {j t : Nat} {oj : Oper} {b : Bool} (s : SimM X w0 σ a w μ) (hj : ops[j]? = some oj) (hd : oj.dst = some t) (hb : σ.get t = some (.v (.bool b))) : yielded ops a.tmps j = some b := by
  obtain ⟨y, hy, r⟩ := s.env t _ hb
  simp only [Rep] at r
  subst r
  unfold yielded
  simp [hj, hd, hy]
theorem RW.guard {ops : Array Oper} {o : Oper} {l : List Oper} {σ : St} {K : St → Prop} {j t : Nat} {want b : Bool} {oj : Oper} (hg : o.guard = some (j, want)) (hj : ops[j]? = some oj) (hd : oj.dst = some t) (hb : σ.get t = some (.v (.bool b)))
    (hdst : inB σ o.dst = true) (hy : b = want → RW P X w0 ops ({ o with guard := none } :: l) σ K) (hn : b = (!want) → RW P X w0 ops l (σ.put o.dst (.v undef)) K) : RW P X w0 ops (o :: l) σ K := ⟨fun Q hQ a w μ s => by
  have hyl := yielded_of s hj hd hb
  have hw : Region.wanted o (yielded ops a.tmps) = (b == want) := by
    unfold Region.wanted
    rw [hg]
    simp only [hyl]
    cases b <;> cases want <;> rfl
  by_cases e : b = want
  · have h1 := (hy e).run Q hQ a w μ s
    unfold wpList at h1 ⊢
    rw [hw, e]
    have : Region.wanted { o with guard := none } (yielded ops a.tmps) = true := rfl
    rw [if_pos this] at h1
    rw [if_pos (by simp)]
    exact h1
  · have e' : b = (!want) := by cases b <;> cases want <;> simp_all
    have h1 := (hn e').run Q hQ _ w μ (s.put hdst (p := .v undef) (y := undef) rfl)
    unfold wpList
    rw [hw, if_neg (by simp [e])]
    exact h1⟩
end
end Go.Proofs.YtbjepdfnmbdplaaGreat
namespace Go.Proofs.YtbjepdfnmbdplaaGreat
set_option linter.unusedSimpArgs false
set_option linter.unusedVariables false
set_option linter.unusedSectionVars false
open Go.RowKit
def closA : List Nat → List Oper → List Nat
  | acc, [] => acc
  | acc, o :: l => closA (acc ++ [o.after.toList.foldl (fun m e => bif Region.binds .any e then m ||| (2 ^ e.on ||| acc.getD e.on 0) else m) 0]) l
def ancB (m : List Nat) (i j : Nat) : Bool := (m.getD i 0).testBit j
def tmpsOf (o : Oper) : List Nat := o.op.operands.toList.filterMap fun | .tmp t => some t | _ => none
def guardTmp (ops : List Oper) (o : Oper) : List Nat := match o.guard with
  | some (j, _) => match (ops[j]?).bind (·.dst) with | some t => [t] | none => []
  | none => []
def pairOK (ops : List Oper) (m : List Nat) (i j : Nat) (o oj : Oper) : Bool :=
  Nat.beq i j || match oj.dst with
  | none => true
  | some d => (match o.dst with | some d' => !Nat.beq d d' | none => true) && (!(((tmpsOf o).any (Nat.beq d)) || (guardTmp ops o).any (Nat.beq d)) || (Nat.blt j i && ancB m i j) || (Nat.blt i j && ancB m j i))
def regOK (ops : List Oper) : Bool :=
  let m := closA [] ops
  ops.zipIdx.all fun (o, i) => o.after.toList.all (fun e => !Region.binds .any e || Nat.blt e.on i) && ops.zipIdx.all fun (oj, j) => pairOK ops m i j o oj
def Closed (ops : List Oper) (L : Nat → Prop) : Prop := ∀ i o, ops[i]? = some o → L i → ∀ e ∈ o.after.toList, Region.binds .any e = true → L e.on
def GoodA (ops : List Oper) (acc : List Nat) : Prop := ∀ i o j, ops[i]? = some o → (acc.getD i 0).testBit j = true → ∀ L, Closed ops L → (∀ e ∈ o.after.toList, Region.binds .any e = true → L e.on) → L j
theorem foldl_bits (acc : List Nat) (j : Nat) : ∀ (es : List Edge) (m : Nat), (es.foldl (fun m e => bif Region.binds .any e then m ||| (2 ^ e.on ||| acc.getD e.on 0) else m) m).testBit j = true →
    m.testBit j = true ∨ ∃ e ∈ es, Region.binds .any e = true ∧ (e.on = j ∨ (acc.getD e.on 0).testBit j = true)
  | [], m, h => .inl h
  | e :: es, m, h => by
    rw [List.foldl_cons] at h
    rcases foldl_bits acc j es _ h with h1 | ⟨e', he', hb, h1⟩
    · by_cases hb : Region.binds .any e = true
      · rw [hb, cond_true, Nat.testBit_or, Nat.testBit_or, Nat.testBit_two_pow] at h1
        rw [Bool.or_eq_true, Bool.or_eq_true] at h1
        rcases h1 with h1 | h1 | h1
        · exact .inl h1
        · exact .inr ⟨e, List.mem_cons_self .., hb, .inl (by simpa using h1)⟩
        · exact .inr ⟨e, List.mem_cons_self .., hb, .inr h1⟩
      · rw [Bool.not_eq_true] at hb
        rw [hb, cond_false] at h1
        exact .inl h1
    · exact .inr ⟨e', List.mem_cons_of_mem _ he', hb, h1⟩
theorem goodA_clos (ops : List Oper) : ∀ (l : List Oper) (acc : List Nat), (∀ j, l[j]? = ops[acc.length + j]?) → GoodA ops acc → GoodA ops (closA acc l)
  | [], _, _, h => h
  | o :: l, acc, hl, h => by
    unfold closA
    refine goodA_clos ops l _ (fun j => ?_) ?_
    · have := hl (j + 1)
      simp only [List.getElem?_cons_succ] at this
      rw [this, List.length_append, List.length_singleton]
      congr 1
      omega
    · intro i oi j hi hb L hL he
      rcases Nat.lt_or_ge i acc.length with h1 | h1
      · rw [List.getD_eq_getElem?_getD, List.getElem?_append_left h1, ← List.getD_eq_getElem?_getD] at hb
        exact h i oi j hi hb L hL he
      · rcases Nat.eq_or_lt_of_le h1 with h2 | h2
        · subst h2
          have ho : oi = o := by
            have := hl 0
            simp only [List.getElem?_cons_zero, Nat.add_zero, hi] at this
            injection this with this
            exact this.symm
          subst ho
          rw [List.getD_eq_getElem?_getD, List.getElem?_append_right (Nat.le_refl _), Nat.sub_self, List.getElem?_cons_zero, Option.getD_some] at hb
          rcases foldl_bits acc j _ _ hb with h3 | ⟨e, hem, hbd, h3⟩
          · simp at h3
          · have hon := he e hem hbd
            rcases h3 with h3 | h3
            · exact h3 ▸ hon
            · cases hoe : ops[e.on]? with
              | none =>
                have : (acc.getD e.on 0) = 0 := by
                  rw [List.getD_eq_getElem?_getD]
                  rcases Nat.lt_or_ge e.on acc.length with hlt | hge
                  · exfalso
                    have : acc.length < ops.length := (List.getElem?_eq_some_iff.1 hi).1
                    rw [List.getElem?_eq_none_iff] at hoe
                    omega
                  · rw [List.getElem?_eq_none_iff.2 hge]; rfl
                rw [this] at h3
                simp at h3
              | some oe => exact h e.on oe j hoe h3 L hL (fun e' he' hb' => hL e.on oe hoe hon e' he' hb')
        · rw [List.getD_eq_getElem?_getD, List.getElem?_eq_none_iff.2 (by rw [List.length_append, List.length_singleton]; omega)] at hb
          simp at hb
theorem goodA (ops : List Oper) : GoodA ops (closA [] ops) := goodA_clos ops ops [] (by simp) (fun i o j _ hb => by simp at hb)
def wantsP (ops : Array Oper) (σ : St) (o : Oper) (w : Bool) : Prop := match o.guard with
  | none => w = true
  | some (j, want) => ∃ oj t b, ops[j]? = some oj ∧ oj.dst = some t ∧ σ.get t = some (.v (.bool b)) ∧ (b == want) = w
def St.ids (σ : St) (o : Oper) : List Nat := (o.op.operands.toList.filterMap σ.ev).filterMap PV.id?
def okId (ops : List Oper) (i id : Nat) : Bool := ops.zipIdx.all fun (oj, j) => (match oj.dst with | some d => !Nat.beq d id | none => true) || Nat.ble i j || ancB (closA [] ops) i j
def nbOK (o : Oper) (nb : List (Nat × LB)) : Prop := nb = [] ∨ ∃ d b, o.dst = some d ∧ nb = [(d, b)]
inductive DRun (P : Program) (ops : Array Oper) : Nat → List Oper → St → St → Prop
  | nil {i : Nat} {σ : St} : DRun P ops i [] σ σ
  | ok {i : Nat} {o : Oper} {l : List Oper} {σ σe : St} {p : PV} {nb : List (Nat × LB)} : wantsP ops σ o true → OpOK P o σ p nb → nbOK o nb → newB σ nb → (σ.ids o).all (okId ops.toList i) = true → DRun P ops (i + 1) l ((σ.addB nb).put o.dst p) σe → DRun P ops i (o :: l) σ σe
  | skip {i : Nat} {o : Oper} {l : List Oper} {σ σe : St} : wantsP ops σ o false → inB σ o.dst = true → DRun P ops (i + 1) l (σ.put o.dst (.v undef)) σe → DRun P ops i (o :: l) σ σe
def StepOK (P : Program) (ops : Array Oper) (i : Nat) (o : Oper) (σ : St) (p : PV) (nb : List (Nat × LB)) : Prop :=
  (wantsP ops σ o true ∧ OpOK P o σ p nb ∧ nbOK o nb ∧ newB σ nb ∧ (σ.ids o).all (okId ops.toList i) = true) ∨ (wantsP ops σ o false ∧ inB σ o.dst = true ∧ p = .v undef ∧ nb = [])
section
variable {P : Program} {X : XF} {w0 : World}
structure AtD (ops : List Oper) (σ0 : St) (p : Nat → PV) (nb : Nat → List (Nat × LB)) (D : Nat → Prop) (σ : St) : Prop where
  nt : σ.nt = σ0.nt
  inn : ∀ i o t, ops[i]? = some o → D i → o.dst = some t → σ.get t = some (p i)
  out : ∀ t, (∀ i o, ops[i]? = some o → D i → o.dst ≠ some t) → σ.get t = σ0.get t
  binn : ∀ i o id b, ops[i]? = some o → D i → look id (nb i) = some b → σ.blk id = some b
  bout : ∀ id, (∀ i o, ops[i]? = some o → D i → look id (nb i) = none) → σ.blk id = σ0.blk id
theorem St.get_addB (σ : St) (nb : List (Nat × LB)) (t : Nat) : (σ.addB nb).get t = σ.get t := rfl
theorem St.blk_addB (σ : St) (nb : List (Nat × LB)) (id : Nat) : (σ.addB nb).blk id = match look id nb with | some b => some b | none => σ.blk id := by
  have h := look_append id nb σ.lh
  unfold St.addB St.blk
  rw [h]
  cases look id nb <;> rfl
def cntB (n : Nat) (f : Nat → Bool) : Nat := ((List.range n).filter f).length
theorem filter_len_le {α : Type} {f g : α → Bool} (h : ∀ x, f x = true → g x = true) : ∀ l : List α, (l.filter f).length ≤ (l.filter g).length
  | [] => Nat.le_refl _
  | x :: l => by
    have ih := filter_len_le h l
    cases hf : f x
    · rw [List.filter_cons_of_neg (by simp [hf])]
      cases hg : g x
      · rw [List.filter_cons_of_neg (by simp [hg])]; exact ih
      · rw [List.filter_cons_of_pos hg]; simp only [List.length_cons]; omega
    · rw [List.filter_cons_of_pos hf, List.filter_cons_of_pos (h x hf)]
      simp only [List.length_cons]; omega
theorem filter_len_lt {α : Type} {f g : α → Bool} (h : ∀ x, f x = true → g x = true) {y : α} (hy : f y = false) (hg : g y = true) : ∀ l : List α, y ∈ l → (l.filter f).length < (l.filter g).length
  | [], hm => by cases hm
  | x :: l, hm => by
    rcases List.mem_cons.1 hm with rfl | hm
    · rw [List.filter_cons_of_neg (by simp [hy]), List.filter_cons_of_pos hg]
      have := filter_len_le h l
      simp only [List.length_cons]; omega
    · have ih := filter_len_lt h hy hg l hm
      cases hf : f x
      · rw [List.filter_cons_of_neg (by simp [hf])]
        cases hg' : g x
        · rw [List.filter_cons_of_neg (by simp [hg'])]; exact ih
        · rw [List.filter_cons_of_pos hg']; simp only [List.length_cons]; omega
      · rw [List.filter_cons_of_pos hf, List.filter_cons_of_pos (h x hf)]
        simp only [List.length_cons]; omega
theorem regOK_spec {ops : List Oper} (h : regOK ops = true) {i : Nat} {o : Oper} (hi : ops[i]? = some o) :
    (∀ e ∈ o.after.toList, Region.binds .any e = true → e.on < i) ∧ ∀ j oj, ops[j]? = some oj → j ≠ i → ∀ d, oj.dst = some d → o.dst ≠ some d ∧ (d ∈ tmpsOf o ∨ d ∈ guardTmp ops o → (j < i ∧ ancB (closA [] ops) i j = true) ∨ (i < j ∧ ancB (closA [] ops) j i = true)) := by
  unfold regOK at h
  have hz : ∀ (k : Nat) (x : Oper), ops[k]? = some x → (x, k) ∈ ops.zipIdx := by
    intro k x hk
    rw [List.mem_zipIdx_iff_getElem?]
    exact hk
  simp only [List.all_eq_true] at h
  have h1 := h (o, i) (hz i o hi)
  rw [Bool.and_eq_true] at h1
  refine ⟨fun e he hb => ?_, fun j oj hj hji d hd => ?_⟩
  · have h2 := h1.1
    rw [List.all_eq_true] at h2
    have h3 := h2 e he
    rw [hb, Bool.not_true, Bool.false_or] at h3
    exact of_eq_true_blt h3
  · have h2 := h1.2
    rw [List.all_eq_true] at h2
    have h3 := h2 (oj, j) (hz j oj hj)
    unfold pairOK at h3
    have hne : Nat.beq i j = false := by
      cases e : Nat.beq i j
      · rfl
      · exact absurd (Nat.eq_of_beq_eq_true e).symm hji
    simp only [hne, Bool.false_or, hd, Bool.and_eq_true] at h3
    refine ⟨fun e => ?_, fun hm => ?_⟩
    · rw [e] at h3
      have := h3.1
      simp only [Bool.not_eq_true'] at this
      rw [show Nat.beq d d = true from Nat.beq_refl d] at this
      cases this
    · have h4 := h3.2
      have hany : ((tmpsOf o).any (Nat.beq d) || (guardTmp ops o).any (Nat.beq d)) = true := by
        rw [Bool.or_eq_true, List.any_eq_true, List.any_eq_true]
        rcases hm with hm | hm
        · exact .inl ⟨d, hm, Nat.beq_refl d⟩
        · exact .inr ⟨d, hm, Nat.beq_refl d⟩
      rw [hany] at h4
      simp only [Bool.not_true, Bool.false_or, Bool.or_eq_true, Bool.and_eq_true] at h4
      rcases h4 with h4 | h4
      · exact .inl ⟨of_eq_true_blt h4.1, h4.2⟩
      · exact .inr ⟨of_eq_true_blt h4.1, h4.2⟩
theorem mem_tmpsOf {o : Oper} {t : Nat} (h : Operand.tmp t ∈ o.op.operands.toList) : t ∈ tmpsOf o := List.mem_filterMap.2 ⟨.tmp t, h, rfl⟩
structure RunOf (P : Program) (ops : Array Oper) (σ0 : St) (p : Nat → PV) (nb : Nat → List (Nat × LB)) (sg : Nat → St) : Prop where
  reg : regOK ops.toList = true
  zero : sg 0 = σ0
  step : ∀ j o, ops.toList[j]? = some o → sg (j + 1) = ((sg j).addB (nb j)).put o.dst (p j) ∧ StepOK P ops j o (sg j) (p j) (nb j)
section
variable {P : Program} {X : XF} {w0 : World} {ops : Array Oper} {σ0 : St} {p : Nat → PV} {nb : Nat → List (Nat × LB)} {sg : Nat → St}
theorem guardTmp_of {o : Oper} {j : Nat} {want : Bool} {oj : Oper} {t : Nat} (hg : o.guard = some (j, want)) (hj : ops[j]? = some oj) (hd : oj.dst = some t) : t ∈ guardTmp ops.toList o := by
  unfold guardTmp
  rw [hg]
  have : ops.toList[j]? = some oj := by simpa using hj
  simp [this, hd]
theorem wanted_of {o : Oper} {σ : St} {a : Act} {w : World} {μ : LMap} {b : Bool} (s : SimM X w0 σ a w μ) (h : wantsP ops σ o b) : Region.wanted o (yielded ops a.tmps) = b := by
  unfold wantsP at h
  unfold Region.wanted
  cases hg : o.guard with
  | none => rw [hg] at h; exact h.symm
  | some jw =>
    obtain ⟨j, want⟩ := jw
    rw [hg] at h
    obtain ⟨oj, t, c, hj, hd, ht, e⟩ := h
    have hy := yielded_of s hj hd ht
    simp only [hy]
    rw [← e]
    cases c <;> cases want <;> rfl
theorem wantsP_mono {o : Oper} {σ σ' : St} {b : Bool} (h : wantsP ops σ o b) (hm : ∀ t ∈ guardTmp ops.toList o, ∀ q, σ.get t = some q → σ'.get t = some q) : wantsP ops σ' o b := by
  unfold wantsP at h ⊢
  cases hg : o.guard with
  | none => rw [hg] at h; exact h
  | some jw =>
    obtain ⟨j, want⟩ := jw
    rw [hg] at h
    obtain ⟨oj, t, c, hj, hd, ht, e⟩ := h
    exact ⟨oj, t, c, hj, hd, hm t (guardTmp_of hg hj hd) _ ht, e⟩
theorem getD_true {L : Array Bool} {i : Nat} (h : L.getD i true = false) : i < L.size ∧ L.getD i false = false := by
  rcases Nat.lt_or_ge i L.size with h1 | h1
  · refine ⟨h1, ?_⟩
    simp [Array.getD, h1] at h ⊢
    exact h
  · simp [Array.getD, Nat.not_lt.2 h1] at h
end
end
end Go.Proofs.YtbjepdfnmbdplaaGreat
namespace Go.Proofs.YtbjepdfnmbdplaaGreat
set_option linter.unusedSimpArgs false
set_option linter.unusedVariables false
set_option linter.unusedSectionVars false
open Go.RowKit
def tyB (P : Program) (t : TypeId) : Option (Bool × Nat) := (P.underlying t).bind fun d => (P.info? t).map fun i => (match d with | .struct _ | .array _ _ => true | _ => false, i.size)
class TySz (P : Program) (t : TypeId) (ag : outParam Bool) (n : outParam Nat) : Prop where
  h : tyB P t = some (ag, n)
class StrT (P : Program) (t : TypeId) : Prop where
  h : P.underlying t = some .string
class BoolT (P : Program) (t : TypeId) : Prop where
  h : P.underlying t = some .bool
def fldB (P : Program) (s f : Nat) : Option (Nat × Nat × Bool) := match P.underlying s with
  | some (.struct fs) => (fs[f]?).bind fun fl => (tyB P fl.type).map fun x => (fl.offset, x.2, x.1)
  | _ => none
class FieldT (P : Program) (s : TypeId) (f : Nat) (off n : outParam Nat) (ag : outParam Bool) : Prop where
  h : fldB P s f = some (off, n, ag)
def sliceB (P : Program) (t : TypeId) : Option (TypeId × Nat) := match P.underlying t with
  | some (.slice e) => (P.info? e).map fun i => (e, i.size)
  | _ => none
class SliceT (P : Program) (t : TypeId) (e : outParam TypeId) (sz : outParam Nat) : Prop where
  h : sliceB P t = some (e, sz)
def arrB (P : Program) (t : TypeId) : Option (Nat × TypeId × Nat) := match P.underlying t with
  | some (.array n e) => (P.info? e).map fun i => (n, e, i.size)
  | _ => none
class ArrT (P : Program) (t : TypeId) (len : outParam Nat) (e : outParam TypeId) (sz : outParam Nat) : Prop where
  h : arrB P t = some (len, e, sz)
def zeroB (P : Program) (t : TypeId) : Option (List Value) := (P.info? t).bind fun i => i.zero.map fun z => z.cells.toList
class ZeroT (P : Program) (t : TypeId) (zs : outParam (List Value)) : Prop where
  h : zeroB P t = some zs
def structB (P : Program) (t : TypeId) : Option (List (Nat × Nat)) := match P.underlying t with
  | some (.struct fs) => fs.toList.mapM fun f => (P.info? f.type).map fun i => (f.offset, i.size)
  | _ => none
class StructT (P : Program) (t : TypeId) (pl : outParam (List (Nat × Nat))) : Prop where
  h : structB P t = some pl
class ElemT (P : Program) (e : TypeId) (z : outParam Value) (sz bytes : outParam Nat) : Prop where
  h : (P.info? e).map (fun i => (i.zero, i.size, i.bytes)) = some (some z, sz, bytes)
section
variable {P : Program} {X : XF} {w0 w : World} {σ : St} {a : Act} {μ : LMap}
theorem run_isAgg {t : TypeId} {ag : Bool} {n : Nat} (h : tyB P t = some (ag, n)) (w : World) : (isAgg t).run P w = .ok ag w := by
  unfold tyB at h
  obtain ⟨d, hd, h1⟩ := Option.bind_eq_some_iff.1 h
  obtain ⟨i, hi, h2⟩ := Option.map_eq_some_iff.1 h1
  injection h2 with h2 h3
  unfold isAgg
  rw [Sem.run_bind, run_underlying hd w]
  cases d <;> simp_all
theorem run_size {t : TypeId} {ag : Bool} {n : Nat} (h : tyB P t = some (ag, n)) (w : World) : (sizeOf t).run P w = .ok n w := by
  unfold tyB at h
  obtain ⟨d, hd, h1⟩ := Option.bind_eq_some_iff.1 h
  obtain ⟨i, hi, h2⟩ := Option.map_eq_some_iff.1 h1
  injection h2 with h2 h3
  simp [sizeOf, typeInfo, hi, h3]
theorem OpOK.val {o : Oper} {p : PV} (hd : inB σ o.dst = true)
    (h : ∀ (X : XF) (w0 : World) (σ' : St) (a : Act) (w : World) (μ : LMap), Agree o σ σ' → SimM X w0 σ' a w μ → ∃ y, (execOp a.eval o).run P w = .ok (.value y) w ∧ Rep w μ p y) : OpOK P o σ p [] := by
  refine ⟨fun σ' hag _ => ⟨fun X w0 a w μ K Q s hK => ?_⟩⟩
  obtain ⟨y, hr, hrep⟩ := h X w0 σ' a w μ hag s
  unfold Oper.wp
  rw [hr]
  have hd' : inB σ' o.dst = true := by
    cases ho : o.dst with
    | none => rfl
    | some d => rw [ho] at hd; simp only [inB] at hd ⊢; rw [hag.nt]; exact hd
  exact hK _ _ μ (s.put hd' hrep)
end
section
variable {P : Program} {σ : St} {dst : Option Tmp} {ty : TypeId} {pos : String} {after : Array Edge} {guard : Option (Nat × Bool)}
theorem ok_move {x : Operand} {p : PV} (hx : σ.ev x = some p := by rfl) (hd : inB σ dst = true := by rfl) : OpOK P ⟨dst, .move x, ty, pos, after, guard⟩ σ p [] :=
  OpOK.val hd fun X w0 σ' a w μ hag s => ⟨a.eval x, by simp [execOp], eval_tmp s (hag.ev x (by simp [Op.operands]) p hx)⟩
theorem ok_assign {x : Operand} {p : PV} (hx : σ.ev x = some p := by rfl) (hd : inB σ dst = true := by rfl) : OpOK P ⟨dst, .assign x, ty, pos, after, guard⟩ σ p [] :=
  OpOK.val hd fun X w0 σ' a w μ hag s => ⟨a.eval x, by simp [execOp], eval_tmp s (hag.ev x (by simp [Op.operands]) p hx)⟩
theorem ok_pick_t {c x y : Operand} {p : PV} (hc : σ.ev c = some (.v (.bool true)) := by rfl) (hx : σ.ev x = some p := by rfl) (hd : inB σ dst = true := by rfl) : OpOK P ⟨dst, .pick c x y, ty, pos, after, guard⟩ σ p [] :=
  OpOK.val hd fun X w0 σ' a w μ hag s => ⟨a.eval x, by
    have := eval_v s (hag.ev c (by simp [Op.operands]) _ hc)
    simp [execOp, this, asBool], eval_tmp s (hag.ev x (by simp [Op.operands]) p hx)⟩
theorem ok_pick_f {c x y : Operand} {p : PV} (hc : σ.ev c = some (.v (.bool false)) := by rfl) (hx : σ.ev y = some p := by rfl) (hd : inB σ dst = true := by rfl) : OpOK P ⟨dst, .pick c x y, ty, pos, after, guard⟩ σ p [] :=
  OpOK.val hd fun X w0 σ' a w μ hag s => ⟨a.eval y, by
    have := eval_v s (hag.ev c (by simp [Op.operands]) _ hc)
    simp [execOp, this, asBool], eval_tmp s (hag.ev y (by simp [Op.operands]) p hx)⟩
theorem ok_bin {op : BinOp} {t yt : TypeId} {x y : Operand} {vx vy r : Value} (hx : σ.ev x = some (.v vx)) (hy : σ.ev y = some (.v vy)) (hr : ∀ w, (do eqGuard op t x y vx vy; binOp op t vx vy : Sem Value).run P w = .ok r w) (hd : inB σ dst = true) :
    OpOK P ⟨dst, .binOp op t x y yt, ty, pos, after, guard⟩ σ (.v r) [] :=
  OpOK.val hd fun X w0 σ' a w μ hag s => ⟨r, by
    have h1 := eval_v s (hag.ev x (by simp [Op.operands]) _ hx)
    have h2 := eval_v s (hag.ev y (by simp [Op.operands]) _ hy)
    have := hr w
    simp only [execOp, h1, h2, Sem.run_bind] at this ⊢
    rw [this]
    rfl, rfl⟩
theorem ok_un {op : UnOp} {t : TypeId} {x : Operand} {vx r : Value} (hx : σ.ev x = some (.v vx)) (hr : ∀ w, (Op.unary op vx).run P w = .ok r w) (hd : inB σ dst = true) : OpOK P ⟨dst, .unOp op t x, ty, pos, after, guard⟩ σ (.v r) [] :=
  OpOK.val hd fun X w0 σ' a w μ hag s => ⟨r, by
    have h1 := eval_v s (hag.ev x (by simp [Op.operands]) _ hx)
    simp [execOp, h1, hr w], rfl⟩
theorem ok_convert {src tgt : TypeId} {x : Operand} {vx r : Value} (hx : σ.ev x = some (.v vx)) (hr : ∀ w, (convert src tgt vx).run P w = .ok r w) (hd : inB σ dst = true) : OpOK P ⟨dst, .convert src tgt x, ty, pos, after, guard⟩ σ (.v r) [] :=
  OpOK.val hd fun X w0 σ' a w μ hag s => ⟨r, by
    have h1 := eval_v s (hag.ev x (by simp [Op.operands]) _ hx)
    simp [execOp, h1, hr w], rfl⟩
theorem ok_extract {x : Operand} {i : Nat} {cs : List PV} {p : PV} (hx : σ.ev x = some (.tup cs) := by rfl) (hi : cs[i]? = some p := by rfl) (hd : inB σ dst = true := by rfl) : OpOK P ⟨dst, .extract x i, ty, pos, after, guard⟩ σ p [] :=
  OpOK.val hd fun X w0 σ' a w μ hag s => by
    have h1 := eval_tmp s (hag.ev x (by simp [Op.operands]) _ hx)
    simp only [Rep] at h1
    obtain ⟨vs, e, r⟩ := h1
    obtain ⟨y, hy, r'⟩ := r.get i p hi
    exact ⟨y, by simp [execOp, e, Instr.extract, hy], r'⟩
theorem ok_nilCheck_lp {x : Operand} {id k : Nat} (hx : σ.ev x = some (.lp id k) := by rfl) (hd : inB σ dst = true := by rfl) : OpOK P ⟨dst, .nilCheck x, ty, pos, after, guard⟩ σ (.lp id k) [] :=
  OpOK.val hd fun X w0 σ' a w μ hag s => by
    have h1 := eval_tmp s (hag.ev x (by simp [Op.operands]) _ hx)
    have h2 := h1
    simp only [Rep] at h1
    obtain ⟨g, hg, e⟩ := h1
    exact ⟨a.eval x, by simp [execOp, e], h2⟩
theorem ok_nilCheck_ptr {x : Operand} {cs : List PV} (hx : σ.ev x = some (.ptr cs) := by rfl) (hd : inB σ dst = true := by rfl) : OpOK P ⟨dst, .nilCheck x, ty, pos, after, guard⟩ σ (.ptr cs) [] :=
  OpOK.val hd fun X w0 σ' a w μ hag s => by
    have h1 := eval_tmp s (hag.ev x (by simp [Op.operands]) _ hx)
    have h2 := h1
    simp only [Rep] at h1
    obtain ⟨g, e, _⟩ := h1
    exact ⟨a.eval x, by simp [execOp, e], h2⟩
theorem ok_nilCheck_fn {x : Operand} {f : FuncId} {l r : List PV} (hx : σ.ev x = some (.fn (.func f) l r) := by rfl) (hd : inB σ dst = true := by rfl) : OpOK P ⟨dst, .nilCheck x, ty, pos, after, guard⟩ σ (.fn (.func f) l r) [] :=
  OpOK.val hd fun X w0 σ' a w μ hag s => by
    have h1 := eval_tmp s (hag.ev x (by simp [Op.operands]) _ hx)
    have h2 := h1
    simp only [Rep] at h1
    obtain ⟨vs, us, e, _⟩ := h1
    exact ⟨a.eval x, by simp [execOp, e], h2⟩
theorem fld_parts {s f off n : Nat} {ag : Bool} (h : fldB P s f = some (off, n, ag)) : ∃ fs fl, P.underlying s = some (.struct fs) ∧ fs[f]? = some fl ∧ fl.offset = off ∧ tyB P fl.type = some (ag, n) := by
  unfold fldB at h
  split at h
  · rename_i fs hu
    obtain ⟨fl, hf, h1⟩ := Option.bind_eq_some_iff.1 h
    obtain ⟨x, hx, h2⟩ := Option.map_eq_some_iff.1 h1
    injection h2 with h2 h3
    injection h3 with h3 h4
    exact ⟨fs, fl, hu, hf, h2, by rw [hx]; obtain ⟨x1, x2⟩ := x; simp only at h3 h4; rw [h3, h4]⟩
  · cases h
theorem ok_field1 {s : TypeId} {x : Operand} {f off : Nat} {cs : List PV} {p : PV} [h : FieldT P s f off 1 false] (hx : σ.ev x = some (.agg cs) := by rfl) (hp : cs[off]? = some p := by rfl) (hd : inB σ dst = true := by rfl) : OpOK P ⟨dst, .field s x f, ty, pos, after, guard⟩ σ p [] :=
  OpOK.val hd fun X w0 σ' a w μ hag sm => by
    obtain ⟨fs, fl, hu, hf, ho, ht⟩ := fld_parts h.h
    have h1 := eval_tmp sm (hag.ev x (by simp [Op.operands]) _ hx)
    simp only [Rep] at h1
    obtain ⟨vs, e, r, _⟩ := h1
    obtain ⟨y, hy, r'⟩ := r.get off p hp
    exact ⟨y, by simp [execOp, e, Instr.field, run_underlying hu, hf, asAgg, part, run_isAgg ht, ho, hy], r'⟩
theorem ok_fieldN {s : TypeId} {x : Operand} {f off n : Nat} {cs : List PV} [h : FieldT P s f off n true] (hx : σ.ev x = some (.agg cs) := by rfl) (hd : inB σ dst = true := by rfl) : OpOK P ⟨dst, .field s x f, ty, pos, after, guard⟩ σ (.agg ((cs.drop off).take n)) [] :=
  OpOK.val hd fun X w0 σ' a w μ hag sm => by
    obtain ⟨fs, fl, hu, hf, ho, ht⟩ := fld_parts h.h
    have h1 := eval_tmp sm (hag.ev x (by simp [Op.operands]) _ hx)
    simp only [Rep] at h1
    obtain ⟨vs, e, r, h1⟩ := h1
    refine ⟨.agg ((vs.drop off).take n).toArray, ?_, _, rfl, (r.drop off).take n, fun u hu => h1 u (List.mem_of_mem_drop (List.mem_of_mem_take hu))⟩
    simp only [execOp, e, Instr.field, Sem.run_bind, run_underlying hu, hf, asAgg, part, run_isAgg ht, run_size ht, ho, Result.andThen_ok, Sem.run_pure, if_true]
    congr 4
    apply Array.ext'
    simp [List.drop_take]
theorem run_fieldPlace {fl : Field} {ag : Bool} {n : Nat} (ht : tyB P fl.type = some (ag, n)) (hn : n ≠ 0) (ad : Addr) (w : World) : (fieldPlace ad fl).run P w = .ok (ad.add fl.offset) w := by
  simp [fieldPlace, run_size ht, hn]
theorem ok_fieldAddr_lp {s : TypeId} {x : Operand} {f off n id k : Nat} {ag : Bool} [h : FieldT P s f off n ag] (hx : σ.ev x = some (.lp id k) := by rfl) (hn : n ≠ 0 := by decide) (hd : inB σ dst = true := by rfl) : OpOK P ⟨dst, .fieldAddr s x f, ty, pos, after, guard⟩ σ (.lp id (k + off)) [] :=
  OpOK.val hd fun X w0 σ' a w μ hag sm => by
    obtain ⟨fs, fl, hu, hf, ho, ht⟩ := fld_parts h.h
    have h1 := eval_tmp sm (hag.ev x (by simp [Op.operands]) _ hx)
    simp only [Rep] at h1
    obtain ⟨g, hg, e⟩ := h1
    refine ⟨.pointer (some ⟨g, k + off, none⟩), ?_, g, hg, rfl⟩
    have : (⟨g, k, none⟩ : Addr).add fl.offset = ⟨g, k + off, none⟩ := by rw [ho]; unfold Addr.add; split <;> simp_all
    simp [execOp, e, Instr.fieldAt, run_underlying hu, hf, Instr.sureAddr, run_fieldPlace ht hn, this]
theorem ok_fieldAddr_ptr {s : TypeId} {x : Operand} {f off n : Nat} {ag : Bool} {cs : List PV} [h : FieldT P s f off n ag] (hx : σ.ev x = some (.ptr cs) := by rfl) (hn : n ≠ 0 := by decide) (hd : inB σ dst = true := by rfl) : OpOK P ⟨dst, .fieldAddr s x f, ty, pos, after, guard⟩ σ (.ptr (cs.drop off)) [] :=
  OpOK.val hd fun X w0 σ' a w μ hag sm => by
    obtain ⟨fs, fl, hu, hf, ho, ht⟩ := fld_parts h.h
    have h1 := eval_tmp sm (hag.ev x (by simp [Op.operands]) _ hx)
    simp only [Rep] at h1
    obtain ⟨g, e, r⟩ := h1
    refine ⟨.pointer (some (g.add off)), ?_, g.add off, rfl, RepC.shift off (by simpa using r.drop off)⟩
    simp [execOp, e, Instr.fieldAt, run_underlying hu, hf, Instr.sureAddr, run_fieldPlace ht hn, ho]
theorem ok_fieldAddr_rp {s : TypeId} {x : Operand} {f off n id ver sz i j : Nat} {ag : Bool} [h : FieldT P s f off n ag] (hx : σ.ev x = some (.rp id ver sz i j)) (hn : n ≠ 0) (hb : ∃ ty xs, σ.blk id = some (.row ty sz ver xs)) (hd : inB σ dst = true) : OpOK P ⟨dst, .fieldAddr s x f, ty, pos, after, guard⟩ σ (.rp id ver sz i (j + off)) [] :=
  OpOK.val hd fun X w0 σ' a w μ hag sm => by
    obtain ⟨fs, fl, hu, hf, ho, ht⟩ := fld_parts h.h
    have h1 := eval_tmp sm (hag.ev x (by simp [Op.operands]) _ hx)
    obtain ⟨ty', xs, hb⟩ := hb
    obtain ⟨y', vs', hm', _⟩ := sm.blk id _ (hag.blk x (by simp [Op.operands]) _ id _ hx rfl hb)
    simp only [Rep] at h1
    obtain ⟨z, k, hz, hv, _, e⟩ := h1
    rw [hz] at hm'
    injection hm' with hm'
    injection hm' with e1 e2
    subst e1 e2
    obtain ⟨g, n', c, hzz, e⟩ := e rfl
    have : (⟨g, i * sz + j, none⟩ : Addr).add fl.offset = ⟨g, i * sz + (j + off), none⟩ := by rw [ho]; unfold Addr.add; split <;> simp_all; omega
    exact ⟨.pointer (some ⟨g, i * sz + (j + off), none⟩), by simp [execOp, e, Instr.fieldAt, run_underlying hu, hf, Instr.sureAddr, run_fieldPlace ht hn, this], z, _, hz, Nat.le_refl _, rfl, fun _ => ⟨g, n', c, hzz, rfl⟩⟩
end
end Go.Proofs.YtbjepdfnmbdplaaGreat
namespace Go.Proofs.YtbjepdfnmbdplaaGreat
set_option linter.unusedSimpArgs false
set_option linter.unusedVariables false
set_option linter.unusedSectionVars false
open Go.RowKit
def PV.cells : PV → List PV
  | .agg cs => cs
  | p => [p]
def PV.one : PV → Bool
  | .v x => x.oneCell'
  | .any | .agg _ | .tup _ | .own _ _ _ => false
  | _ => true
theorem Rep.one {w : World} {μ : LMap} {p : PV} {y : Value} (h : Rep w μ p y) (hp : p.one = true) : y.oneCell' = true ∧ y.cells = #[y] := by
  cases p with
  | v x => simp only [Rep] at h; subst h; simp only [PV.one] at hp; exact ⟨hp, by cases y <;> first | rfl | cases hp⟩
  | any => cases hp
  | agg cs => cases hp
  | tup cs => cases hp
  | sl sz xs => simp only [Rep] at h; obtain ⟨A, c, rfl, _⟩ := h; exact ⟨rfl, rfl⟩
  | ptr cs => simp only [Rep] at h; obtain ⟨A, rfl, _⟩ := h; exact ⟨rfl, rfl⟩
  | lp id o => simp only [Rep] at h; obtain ⟨A, _, rfl⟩ := h; exact ⟨rfl, rfl⟩
  | row id ver => simp only [Rep] at h; obtain ⟨_, _, _, _, h1, _⟩ := h; exact ⟨h1, by cases y <;> first | rfl | cases h1⟩
  | rp id ver sz i j => simp only [Rep] at h; obtain ⟨_, _, _, _, h1, _⟩ := h; exact ⟨h1, by cases y <;> first | rfl | cases h1⟩
  | own ty sz xs => cases hp
  | fn f a b => simp only [Rep] at h; obtain ⟨A, _, rfl, _⟩ := h; exact ⟨rfl, rfl⟩
  | ifc t x => simp only [Rep] at h; obtain ⟨A, rfl, _⟩ := h; exact ⟨rfl, rfl⟩
  | rs id ver sz i j => simp only [Rep] at h; obtain ⟨_, _, _, _, h1, _⟩ := h; exact ⟨h1, by cases y <;> first | rfl | cases h1⟩
  | mp kv => simp only [Rep] at h; obtain ⟨_, _, _, rfl, _⟩ := h; exact ⟨rfl, rfl⟩
  | mo id => simp only [Rep] at h; obtain ⟨_, _, rfl⟩ := h; exact ⟨rfl, rfl⟩
def PV.lies : PV → Bool
  | .agg _ => true
  | p => p.one
theorem Rep.lies {w : World} {μ : LMap} {p : PV} {y : Value} (h : Rep w μ p y) (hp : p.lies = true) : RepL w μ p.cells y.cells.toList ∧ ∀ u ∈ y.cells.toList, u.oneCell' = true := by
  by_cases ho : p.one = true
  · obtain ⟨h1, h2⟩ := h.one ho
    rw [h2]
    have : p.cells = [p] := by cases p <;> first | rfl | cases ho
    rw [this]
    exact ⟨⟨y, [], rfl, h, rfl⟩, fun u hu => by simp at hu; subst hu; exact h1⟩
  · cases p with
    | agg cs =>
      simp only [Rep] at h
      obtain ⟨vs, rfl, r, h1⟩ := h
      exact ⟨r, h1⟩
    | _ => exact absurd hp ho
theorem RepL.of_lits {w : World} {μ : LMap} : ∀ zs : List Value, RepL w μ (zs.map PV.v) zs
  | [] => rfl
  | z :: zs => ⟨z, zs, rfl, rfl, RepL.of_lits zs⟩
section
variable {P : Program} {X : XF} {w0 w : World} {σ : St} {a : Act} {μ : LMap}
theorem new_not_owned (h : SimM X w0 σ a w μ) : ¬ μ.owns w.heap.size := by
  rintro (hF | ⟨id, l, hl, hb⟩)
  · rw [h.F] at hF
    have := h.hF _ hF
    have := h.keep.size
    omega
  · have := (h.fresh id l _ hl hb).1
    omega
def LMap.set (μ : LMap) (id : Nat) (l : LI) : LMap := ⟨μ.F, fun k => if k = id then some l else μ.m k⟩
theorem LMap.set_eq (μ : LMap) (id : Nat) (l : LI) : (μ.set id l).m id = some l := if_pos rfl
theorem LMap.set_ne (μ : LMap) {id k : Nat} (l : LI) (h : k ≠ id) : (μ.set id l).m k = μ.m k := if_neg h
theorem LMap.set_owns {μ : LMap} {id : Nat} {l : LI} {g : Nat} (h : (μ.set id l).owns g) : μ.owns g ∨ l.block = some g := by
  rcases h with h | ⟨k, l', hl, hb⟩
  · exact .inl (.inl h)
  · by_cases e : k = id
    · subst e
      rw [LMap.set_eq] at hl
      injection hl with hl
      subst hl
      exact .inr hb
    · rw [LMap.set_ne _ _ e] at hl
      exact .inl (.inr ⟨k, l', hl, hb⟩)
theorem Later.new {μ : LMap} {w' : World} (h : SimM X w0 σ a w μ) (b : Below w.heap.size w w') {id : Nat} (hn : μ.m id = none) {l : LI} (hl : ∀ g, l.block = some g → w.heap.size ≤ g) : Later w μ w' (μ.set id l) :=
  ⟨fun ad u hc ho => ⟨cell_later b hc, fun hw => by
      rcases LMap.set_owns hw with hw | hw
      · exact ho hw
      · have := World.block_lt_of_cell? _ _ hc
        have := hl _ hw
        omega⟩,
    fun k g hk => by rw [LMap.set_ne _ _ (fun e => by subst e; rw [hn] at hk; cases hk)]; exact hk,
    fun k z n hk => ⟨z, n, by rw [LMap.set_ne _ _ (fun e => by subst e; rw [hn] at hk; cases hk)]; exact hk, Nat.le_refl _, fun _ => rfl⟩,
    fun g es c hg ho => by
      have hlt := (Array.getElem?_eq_some_iff.1 hg).1
      refine ⟨(b.block g hlt).trans hg, fun hw => ?_⟩
      rcases LMap.set_owns hw with hw | hw
      · exact ho hw
      · have := hl _ hw
        omega⟩
theorem SimM.new (h : SimM X w0 σ a w μ) {w' : World} (b : Below w.heap.size w w') {id : Nat} (hn : σ.blk id = none) {l : LI} (hl : ∀ g, l.block = some g → w.heap.size ≤ g ∧ g < w'.heap.size) {bk : LB} (hb : BlkOK w0 w' (μ.set id l) id bk) :
    SimM X w0 (σ.setB id bk) a w' (μ.set id l) := by
  have hm : μ.m id = none := by
    cases e : μ.m id with
    | none => rfl
    | some l' => obtain ⟨b', hb'⟩ := h.dom id l' e; rw [hn] at hb'; cases hb'
  have hlat := Later.new h b hm (l := l) (fun g hg => (hl g hg).1)
  have hblk : ∀ k, (σ.setB id bk).blk k = if k = id then some bk else σ.blk k := by
    intro k
    unfold St.setB St.blk
    by_cases e : k = id
    · subst e; rw [look_cons_eq, if_pos rfl]
    · rw [look_cons_ne e, if_neg e]
  refine ⟨h.nt, h.defers, h.keep.below b, h.F, h.hF, h.hX, h.fr.later hlat, ?_, ?_, ?_, ?_, ?_⟩
  · intro t p hp
    obtain ⟨y, hy, r⟩ := h.env t p hp
    exact ⟨y, hy, Rep.later hlat p y r⟩
  · intro k bk' hk
    rw [hblk] at hk
    by_cases e : k = id
    · subst e; rw [if_pos rfl] at hk; injection hk with hk; subst hk; exact hb
    · rw [if_neg e] at hk
      exact (h.blk k bk' hk).later hlat (fun l hl' => by rw [LMap.set_ne _ _ e]; exact hl') fun l g hl' hg' => b.block g (h.fresh k l g hl' hg').1
  · intro k l' hk
    rw [hblk]
    by_cases e : k = id
    · exact ⟨bk, by rw [if_pos e]⟩
    · rw [LMap.set_ne _ _ e] at hk
      rw [if_neg e]
      exact h.dom k l' hk
  · intro k k' l1 l2 g h1 h2 g1 g2
    by_cases e1 : k = id
    · subst e1
      rw [LMap.set_eq] at h1
      injection h1 with h1
      subst h1
      by_cases e2 : k' = k
      · exact e2.symm
      · rw [LMap.set_ne _ _ e2] at h2
        have := (h.fresh k' l2 g h2 g2).1
        have := (hl g g1).1
        omega
    · rw [LMap.set_ne _ _ e1] at h1
      by_cases e2 : k' = id
      · subst e2
        rw [LMap.set_eq] at h2
        injection h2 with h2
        subst h2
        have := (h.fresh k l1 g h1 g1).1
        have := (hl g g2).1
        omega
      · rw [LMap.set_ne _ _ e2] at h2
        exact h.apart k k' l1 l2 g h1 h2 g1 g2
  · intro k l' g hk hg
    by_cases e : k = id
    · subst e
      rw [LMap.set_eq] at hk
      injection hk with hk
      subst hk
      obtain ⟨h1, h2⟩ := hl g hg
      exact ⟨h2, .inl (Nat.le_trans h.keep.size h1)⟩
    · rw [LMap.set_ne _ _ e] at hk
      obtain ⟨h1, h2⟩ := h.fresh k l' g hk hg
      exact ⟨Nat.lt_of_lt_of_le h1 b.size, h2⟩
theorem below_alloc (w : World) (o : Obj) : Below w.heap.size w (w.alloc o) := (Below.refl _ _).alloc (Nat.le_refl _) o
theorem SimM.nt_inB {o : Oper} {σ' : St} (hag : Agree o σ σ') {d : Option Nat} (hd : inB σ d = true) : inB σ' d = true := by
  cases d with
  | none => rfl
  | some d => simp only [inB] at hd ⊢; rw [hag.nt]; exact hd
theorem OpOK.new {o : Oper} {d : Nat} {p : PV} {bk : LB} (ho : o.dst = some d) (hd : inB σ o.dst = true)
    (h : ∀ (X : XF) (w0 : World) (σ' : St) (a : Act) (w : World) (μ : LMap), Agree o σ σ' → SimM X w0 σ' a w μ → ∃ y w' l, (execOp a.eval o).run P w = .ok (.value y) w' ∧ Below w.heap.size w w' ∧ (∀ g, l.block = some g → w.heap.size ≤ g ∧ g < w'.heap.size) ∧
      (∀ hl : Later w μ w' (μ.set d l), BlkOK w0 w' (μ.set d l) d bk ∧ Rep w' (μ.set d l) p y)) : OpOK P o σ p [(d, bk)] := by
  refine ⟨fun σ' hag hn => ⟨fun X w0 a w μ K Q s hK => ?_⟩⟩
  obtain ⟨y, w', l, hr, hb, hl, hk⟩ := h X w0 σ' a w μ hag s
  have hfree : σ'.blk d = none := hn d bk (look_cons_eq d bk [])
  have hm : μ.m d = none := by
    cases e : μ.m d with
    | none => rfl
    | some l' => obtain ⟨b', hb'⟩ := s.dom d l' e; rw [hfree] at hb'; cases hb'
  obtain ⟨hblk, hrep⟩ := hk (Later.new s hb hm (fun g hg => (hl g hg).1))
  unfold Oper.wp
  rw [hr]
  exact hK _ _ _ ((s.new hb hfree hl hblk).put (SimM.nt_inB hag hd) hrep)
end
section
variable {P : Program} {σ : St} {dst : Option Tmp} {ty : TypeId} {pos : String} {after : Array Edge} {guard : Option (Nat × Bool)}
theorem ok_box {d : Nat} {e : TypeId} {x : Operand} {p : PV} (hx : σ.ev x = some p := by rfl) (hl : p.lies = true := by rfl) (hd : inB σ (some d) = true := by rfl) : OpOK P ⟨some d, .box e x, ty, pos, after, guard⟩ σ (.lp d 0) [(d, .box p.cells)] :=
  OpOK.new rfl hd fun X w0 σ' a w μ hag s => by
    have h1 := eval_tmp s (hag.ev x (by simp [Op.operands]) _ hx)
    obtain ⟨r, h2⟩ := h1.lies hl
    refine ⟨.pointer (some ⟨w.heap.size, 0, none⟩), w.alloc (.cells (a.eval x).cells e), .box w.heap.size, ?_, below_alloc w _, fun g hg => by injection hg with hg; subst hg; simp, fun hlat => ⟨⟨w.heap.size, _, e, LMap.set_eq _ _ _, heap_alloc_new w _, RepL.later hlat _ _ r, h2⟩, ?_⟩⟩
    · simp [execOp, Instr.box, newVar, newRow]
    · simp only [Rep]; exact ⟨w.heap.size, LMap.set_eq _ _ _, rfl⟩
theorem zero_parts {e : TypeId} {zs : List Value} (h : zeroB P e = some zs) : ∃ i z, P.info? e = some i ∧ i.zero = some z ∧ z.cells.toList = zs := by
  unfold zeroB at h
  obtain ⟨i, hi, h1⟩ := Option.bind_eq_some_iff.1 h
  obtain ⟨z, hz, h2⟩ := Option.map_eq_some_iff.1 h1
  exact ⟨i, z, hi, hz, h2⟩
theorem ok_alloc {d : Nat} {e : TypeId} {zs : List Value} [h : ZeroT P e zs] (h1 : zs.all Value.oneCell' = true := by rfl) (hd : inB σ (some d) = true := by rfl) : OpOK P ⟨some d, .alloc e, ty, pos, after, guard⟩ σ (.lp d 0) [(d, .box (zs.map PV.v))] :=
  OpOK.new rfl hd fun X w0 σ' a w μ hag s => by
    obtain ⟨i, z, hi, hz, hzs⟩ := zero_parts h.h
    refine ⟨.pointer (some ⟨w.heap.size, 0, none⟩), w.alloc (.cells z.cells e), .box w.heap.size, ?_, below_alloc w _, fun g hg => by injection hg with hg; subst hg; simp, fun hlat => ⟨⟨w.heap.size, _, e, LMap.set_eq _ _ _, heap_alloc_new w _, ?_, ?_⟩, ?_⟩⟩
    · simp [execOp, Instr.alloc, zeroValue, typeInfo, hi, hz, newVar, newRow]
    · rw [hzs]; exact RepL.of_lits zs
    · rw [hzs]; exact fun u hu => List.all_eq_true.1 h1 u hu
    · simp only [Rep]; exact ⟨w.heap.size, LMap.set_eq _ _ _, rfl⟩
theorem run_load_cells {P : Program} {w : World} {ad : Addr} {vs : List Value} (h : ∀ j u, vs[j]? = some u → w.cell? (ad.add j) = some u) : (loadCells ad vs.length).run P w = .ok vs.toArray w := run_loadCells_list (P := P) w ad vs h
theorem run_loadVar1 {t : TypeId} (ht : tyB P t = some (false, 1)) {w : World} {ad : Addr} {u : Value} (h : w.cell? ad = some u) : (loadVar t ad).run P w = .ok u w := by
  simp [loadVar, run_isAgg ht, load, Sem.run, h]
theorem run_loadVarN {t : TypeId} {n : Nat} (ht : tyB P t = some (true, n)) {w : World} {ad : Addr} {vs : List Value} (hn : vs.length = n) (h : ∀ j u, vs[j]? = some u → w.cell? (ad.add j) = some u) : (loadVar t ad).run P w = .ok (.agg vs.toArray) w := by
  subst hn
  simp [loadVar, run_isAgg ht, run_size ht, run_load_cells h]
theorem add_lit (g k j : Nat) : (⟨g, k, none⟩ : Addr).add j = ⟨g, k + j, none⟩ := by unfold Addr.add; split <;> simp_all
theorem box_cell {w : World} {g k : Nat} {cs : Array Value} {t : TypeId} {fr : Nat × Nat} (hg : w.heap[g]? = some (.cells cs t fr)) {j : Nat} {u : Value} (h : (cs.toList.drop k)[j]? = some u) : w.cell? ((⟨g, k, none⟩ : Addr).add j) = some u := by
  rw [add_lit, cell_of_row w g (k + j) cs t fr hg]
  rw [List.getElem?_drop] at h
  simpa using h
theorem ok_load1_lp {t : TypeId} {x : Operand} {id k : Nat} {cells : List PV} {p : PV} [ht : TySz P t false 1] (hx : σ.ev x = some (.lp id k) := by rfl) (hb : σ.blk id = some (.box cells) := by rfl) (hp : cells[k]? = some p := by rfl) (hd : inB σ dst = true := by rfl) : OpOK P ⟨dst, .load t x, ty, pos, after, guard⟩ σ p [] :=
  OpOK.val hd fun X w0 σ' a w μ hag s => by
    have h1 := eval_tmp s (hag.ev x (by simp [Op.operands]) _ hx)
    obtain ⟨g, cs, bt, hm, hg, r, _⟩ := s.blk id _ (hag.blk x (by simp [Op.operands]) _ id _ hx rfl hb)
    simp only [Rep] at h1
    obtain ⟨g', hm', e⟩ := h1
    rw [hm] at hm'
    injection hm' with hm'
    injection hm' with hm'
    subst hm'
    obtain ⟨y, hy, r'⟩ := r.get k p hp
    have hc : w.cell? ⟨g, k, none⟩ = some y := by rw [cell_of_row w g k cs bt _ hg]; simpa using hy
    exact ⟨y, by simp [execOp, e, Instr.loadAt, Instr.sureAddr, run_loadVar1 ht.h hc], r'⟩
theorem ok_loadN_lp {t : TypeId} {x : Operand} {id k n : Nat} {cells : List PV} [ht : TySz P t true n] (hx : σ.ev x = some (.lp id k) := by rfl) (hb : σ.blk id = some (.box cells) := by rfl) (hn : Nat.ble (k + n) cells.length = true := by rfl) (hd : inB σ dst = true := by rfl) :
    OpOK P ⟨dst, .load t x, ty, pos, after, guard⟩ σ (.agg ((cells.drop k).take n)) [] :=
  OpOK.val hd fun X w0 σ' a w μ hag s => by
    have h1 := eval_tmp s (hag.ev x (by simp [Op.operands]) _ hx)
    obtain ⟨g, cs, bt, hm, hg, r, h2⟩ := s.blk id _ (hag.blk x (by simp [Op.operands]) _ id _ hx rfl hb)
    simp only [Rep] at h1
    obtain ⟨g', hm', e⟩ := h1
    rw [hm] at hm'
    injection hm' with hm'
    injection hm' with hm'
    subst hm'
    have hlen := r.length
    rw [Nat.ble_eq] at hn
    have hv : ((cs.toList.drop k).take n).length = n := by rw [List.length_take, List.length_drop, hlen]; omega
    refine ⟨.agg ((cs.toList.drop k).take n).toArray, ?_, _, rfl, (r.drop k).take n, fun u hu => h2 u (List.mem_of_mem_drop (List.mem_of_mem_take hu))⟩
    have hld := run_loadVarN (P := P) ht.h hv (w := w) (ad := ⟨g, k, none⟩) (fun j u hj => box_cell hg (by
      rw [List.getElem?_take] at hj
      split at hj
      · exact hj
      · cases hj))
    simp only [execOp, e, Instr.loadAt, Instr.sureAddr, Sem.run_bind, Sem.run_pure, Result.andThen_ok, hld]
theorem ok_load1_ptr {t : TypeId} {x : Operand} {cs : List PV} {p : PV} [ht : TySz P t false 1] (hx : σ.ev x = some (.ptr cs) := by rfl) (hp : cs[0]? = some p := by rfl) (hd : inB σ dst = true := by rfl) : OpOK P ⟨dst, .load t x, ty, pos, after, guard⟩ σ p [] :=
  OpOK.val hd fun X w0 σ' a w μ hag s => by
    have h1 := eval_tmp s (hag.ev x (by simp [Op.operands]) _ hx)
    simp only [Rep] at h1
    obtain ⟨ad, e, r⟩ := h1
    obtain ⟨a', u, e', hc, _, _, r'⟩ := r.get 0 p hp
    injection e' with e'
    subst e'
    have hc' : w.cell? ad = some u := by simpa [Addr.add] using hc
    exact ⟨u, by simp [execOp, e, Instr.loadAt, Instr.sureAddr, run_loadVar1 ht.h hc'], Rep.opens p u r'⟩
theorem ok_loadN_ptr {t : TypeId} {x : Operand} {n : Nat} {cs : List PV} [ht : TySz P t true n] (hx : σ.ev x = some (.ptr cs) := by rfl) (hn : Nat.ble n cs.length = true := by rfl) (hd : inB σ dst = true := by rfl) : OpOK P ⟨dst, .load t x, ty, pos, after, guard⟩ σ (.agg (cs.take n)) [] :=
  OpOK.val hd fun X w0 σ' a w μ hag s => by
    have h1 := eval_tmp s (hag.ev x (by simp [Op.operands]) _ hx)
    simp only [Rep] at h1
    obtain ⟨ad, e, r⟩ := h1
    obtain ⟨vs, q1, q2, q3⟩ := r.row
    rw [Nat.ble_eq] at hn
    have hlen := q1.length
    have hv : (vs.take n).length = n := by rw [List.length_take, hlen]; omega
    refine ⟨.agg (vs.take n).toArray, ?_, _, rfl, RepL.opens _ _ (q1.take n), fun u hu => q2 u (List.mem_of_mem_take hu)⟩
    have hld := run_loadVarN (P := P) ht.h hv (w := w) (ad := ad) (fun j u hj => by
      rw [List.getElem?_take] at hj
      split at hj
      · obtain ⟨a', e', hc⟩ := q3 j u hj
        injection e' with e'
        subst e'
        simpa using hc
      · cases hj)
    simp only [execOp, e, Instr.loadAt, Instr.sureAddr, Sem.run_bind, Sem.run_pure, Result.andThen_ok, hld]
theorem row_parts {X : XF} {w0 w : World} {σ : St} {a : Act} {μ : LMap} (s : SimM X w0 σ a w μ) {id ver sz : Nat} {rt : TypeId} {xs : List (List PV)} (hb : σ.blk id = some (.row rt sz ver xs)) {p : PV} {y : Value} :
    (p = .row id ver → Rep w μ p y → ∃ vs, μ.m id = some (.row y ver) ∧ w.ownsRow w0.heap.size rt sz y xs.length vs ∧ RepL w μ xs.flatten vs ∧ (∀ e ∈ xs, e.length = sz) ∧ ∀ u ∈ vs, u.oneCell' = true) ∧
    (∀ i j, p = .rp id ver sz i j → Rep w μ p y → ∃ g n c vs, y = .pointer (some ⟨g, i * sz + j, none⟩) ∧ μ.m id = some (.row (.slice (some ⟨g, 0, none⟩) n c) ver) ∧ w.ownsRow w0.heap.size rt sz (.slice (some ⟨g, 0, none⟩) n c) xs.length vs ∧ RepL w μ xs.flatten vs ∧ (∀ e ∈ xs, e.length = sz) ∧ ∀ u ∈ vs, u.oneCell' = true) := by
  obtain ⟨y', vs, hm, hown, r, h1, h2⟩ := s.blk id _ hb
  constructor
  · rintro rfl h
    simp only [Rep] at h
    obtain ⟨z, k, hz, _, _, e⟩ := h
    rw [hm] at hz
    injection hz with hz
    injection hz with e1 e2
    subst e1 e2
    rw [e rfl]
    exact ⟨vs, hm, hown, r, h1, h2⟩
  · rintro i j rfl h
    simp only [Rep] at h
    obtain ⟨z, k, hz, _, _, e⟩ := h
    rw [hm] at hz
    injection hz with hz
    injection hz with e1 e2
    subst e1 e2
    obtain ⟨g, n, c, e1, e2⟩ := e rfl
    subst e1
    exact ⟨g, n, c, vs, e2, hm, hown, r, h1, h2⟩
theorem flatten_at {sz : Nat} : ∀ {xs : List (List PV)}, (∀ e ∈ xs, e.length = sz) → ∀ (i : Nat) (e : List PV), xs[i]? = some e → ∀ j p, e[j]? = some p → xs.flatten[i * sz + j]? = some p
  | [], _, i, e, h, _, _, _ => by simp at h
  | x :: xs, hl, 0, e, h, j, p, hp => by
    simp at h
    subst h
    have hj : j < x.length := (List.getElem?_eq_some_iff.1 hp).1
    rw [List.flatten_cons, Nat.zero_mul, Nat.zero_add, List.getElem?_append_left hj]
    exact hp
  | x :: xs, hl, i + 1, e, h, j, p, hp => by
    have hx := hl x (List.mem_cons_self ..)
    have ih := flatten_at (fun e he => hl e (List.mem_cons_of_mem _ he)) i e (by simpa using h) j p hp
    rw [List.flatten_cons, List.getElem?_append_right (by rw [hx, Nat.succ_mul]; omega), hx, show (i + 1) * sz + j - sz = i * sz + j from by rw [Nat.succ_mul]; omega]
    exact ih
theorem ok_loadN_rp {t rt : TypeId} {x : Operand} {id ver sz i j n : Nat} {xs : List (List PV)} {e : List PV} [ht : TySz P t true n] (hx : σ.ev x = some (.rp id ver sz i j)) (hb : σ.blk id = some (.row rt sz ver xs)) (he : xs[i]? = some e) (hn : j + n ≤ e.length) (hd : inB σ dst = true) :
    OpOK P ⟨dst, .load t x, ty, pos, after, guard⟩ σ (.agg ((e.drop j).take n)) [] :=
  OpOK.val hd fun X w0 σ' a w μ hag s => by
    have h1 := eval_tmp s (hag.ev x (by simp [Op.operands]) _ hx)
    obtain ⟨g, m, c, vs, e1, hm, hown, r, hl, h2⟩ := (row_parts s (hag.blk x (by simp [Op.operands]) _ id _ hx rfl hb) (y := a.eval x)).2 i j rfl h1
    have hee : (xs.flatten.drop (i * sz + j)).take n = (e.drop j).take n := by
      apply List.ext_getElem?
      intro k
      rw [List.getElem?_take, List.getElem?_take]
      split
      · rename_i hk
        rw [List.getElem?_drop, List.getElem?_drop]
        have hjk : j + k < e.length := by omega
        rw [List.getElem?_eq_getElem hjk]
        rw [show i * sz + j + k = i * sz + (j + k) from by omega]
        exact flatten_at hl i e he (j + k) _ (List.getElem?_eq_getElem hjk)
      · rfl
    have hrr := (r.drop (i * sz + j)).take n
    rw [hee] at hrr
    have hlen := hrr.length
    have hv : ((vs.drop (i * sz + j)).take n).length = n := by rw [hlen, List.length_take, List.length_drop]; omega
    refine ⟨.agg ((vs.drop (i * sz + j)).take n).toArray, ?_, _, rfl, hrr, fun u hu => h2 u (List.mem_of_mem_drop (List.mem_of_mem_take hu))⟩
    have hld := run_loadVarN (P := P) ht.h hv (w := w) (ad := ⟨g, i * sz + j, none⟩) (fun k u hk => by
      rw [List.getElem?_take] at hk
      split at hk
      · rw [List.getElem?_drop] at hk
        have := hown.cells (g := g) rfl _ u hk
        rw [add_lit, Nat.zero_add] at this
        rw [add_lit]
        exact this
      · cases hk)
    simp only [execOp, e1, Instr.loadAt, Instr.sureAddr, Sem.run_bind, Sem.run_pure, Result.andThen_ok, hld]
end
end Go.Proofs.YtbjepdfnmbdplaaGreat
namespace Go.Proofs.YtbjepdfnmbdplaaGreat
set_option linter.unusedSimpArgs false
set_option linter.unusedVariables false
set_option linter.unusedSectionVars false
open Go.RowKit
section
variable {P : Program} {σ : St} {dst : Option Tmp} {ty : TypeId} {pos : String} {after : Array Edge} {guard : Option (Nat × Bool)}
theorem slice_parts {t e sz : Nat} (h : sliceB P t = some (e, sz)) : ∃ i, P.underlying t = some (.slice e) ∧ P.info? e = some i ∧ i.size = sz := by
  unfold sliceB at h
  split at h
  · rename_i e' hu
    obtain ⟨i, hi, h1⟩ := Option.map_eq_some_iff.1 h
    injection h1 with h1 h2
    subst h1
    exact ⟨i, hu, hi, h2⟩
  · cases h
theorem arr_parts {t n e sz : Nat} (h : arrB P t = some (n, e, sz)) : ∃ i, P.underlying t = some (.array n e) ∧ P.info? e = some i ∧ i.size = sz := by
  unfold arrB at h
  split at h
  · rename_i n' e' hu
    obtain ⟨i, hi, h1⟩ := Option.map_eq_some_iff.1 h
    injection h1 with h1 h2
    injection h2 with h2 h3
    subst h1 h2
    exact ⟨i, hu, hi, h3⟩
  · cases h
theorem ok_indexAddr_sl {t e sz : Nat} {x ix : Operand} {xs : List (List PV)} {c : List PV} {k : IntKind} {i : Int} [h : SliceT P t e sz] (hx : σ.ev x = some (.sl sz xs)) (hi : σ.ev ix = some (.v (.int k i))) (h0 : 0 ≤ i) (hc : xs[i.toNat]? = some c) (hz : sz ≠ 0) (hd : inB σ dst = true) :
    OpOK P ⟨dst, .indexAddr t x ix, ty, pos, after, guard⟩ σ (.ptr c) [] :=
  OpOK.val hd fun X w0 σ' a w μ hag s => by
    obtain ⟨inf, hu, hf, hs⟩ := slice_parts h.h
    have h1 := eval_tmp s (hag.ev x (by simp [Op.operands]) _ hx)
    have h2 := eval_v s (hag.ev ix (by simp [Op.operands]) _ hi)
    simp only [Rep] at h1
    obtain ⟨A, cap, e1, _, _, r⟩ := h1
    obtain ⟨hl, rc⟩ := r.get i.toNat c hc
    have hil : i.toNat < xs.length := (List.getElem?_eq_some_iff.1 hc).1
    cases hcc : c with
    | nil => rw [hcc] at hl; simp at hl; omega
    | cons c0 cs0 =>
      have rc' := rc
      rw [hcc] at rc'
      simp only [RepC] at rc'
      obtain ⟨⟨ad, u, hA, _⟩, _⟩ := rc'
      subst hA
      rw [Nat.zero_add] at rc
      rw [← hcc]
      refine ⟨.pointer (some (ad.add (i.toNat * sz))), ?_, ad.add (i.toNat * sz), rfl, RepC.shift _ (by simpa using rc)⟩
      have hii : i < (xs.length : Int) := by omega
      simp [execOp, e1, h2, Instr.indexAt, asIntOf, run_underlying hu, h0, hii, sizeOf, typeInfo, hf, hs]
theorem ok_indexAddr_row {t e sz : Nat} {rt : TypeId} {x ix : Operand} {xs : List (List PV)} {id ver : Nat} {k : IntKind} {i : Int} [h : SliceT P t e sz] (hx : σ.ev x = some (.row id ver)) (hb : σ.blk id = some (.row rt sz ver xs)) (hi : σ.ev ix = some (.v (.int k i))) (h0 : 0 ≤ i) (hl : i.toNat < xs.length) (hd : inB σ dst = true) :
    OpOK P ⟨dst, .indexAddr t x ix, ty, pos, after, guard⟩ σ (.rp id ver sz i.toNat 0) [] :=
  OpOK.val hd fun X w0 σ' a w μ hag s => by
    obtain ⟨inf, hu, hf, hs⟩ := slice_parts h.h
    have h1 := eval_tmp s (hag.ev x (by simp [Op.operands]) _ hx)
    have h2 := eval_v s (hag.ev ix (by simp [Op.operands]) _ hi)
    obtain ⟨vs, hm, hown, _⟩ := (row_parts s (hag.blk x (by simp [Op.operands]) _ id _ hx rfl hb) (p := .row id ver) (y := a.eval x)).1 rfl h1
    obtain ⟨g, cap, hv, _, _⟩ := hown.form (by omega)
    refine ⟨.pointer (some ⟨g, i.toNat * sz, none⟩), ?_, _, ver, hm, Nat.le_refl _, rfl, fun _ => ⟨g, _, cap, hv, by simp⟩⟩
    have hii : i < (xs.length : Int) := by omega
    simp [execOp, hv, h2, Instr.indexAt, asIntOf, run_underlying hu, h0, hii, sizeOf, typeInfo, hf, hs, add_lit]
theorem ok_indexAddr_arr {t n e sz id o : Nat} {x ix : Operand} {k : IntKind} {i : Int} [h : ArrT P t n e sz] (hx : σ.ev x = some (.lp id o) := by rfl) (hi : σ.ev ix = some (.v (.int k i)) := by rfl) (h0 : 0 ≤ i := by omega) (hl : i < n := by omega) (hd : inB σ dst = true := by rfl) :
    OpOK P ⟨dst, .indexAddr t x ix, ty, pos, after, guard⟩ σ (.lp id (o + i.toNat * sz)) [] :=
  OpOK.val hd fun X w0 σ' a w μ hag s => by
    obtain ⟨inf, hu, hf, hs⟩ := arr_parts h.h
    have h1 := eval_tmp s (hag.ev x (by simp [Op.operands]) _ hx)
    have h2 := eval_v s (hag.ev ix (by simp [Op.operands]) _ hi)
    simp only [Rep] at h1
    obtain ⟨g, hg, e1⟩ := h1
    refine ⟨.pointer (some ⟨g, o + i.toNat * sz, none⟩), ?_, g, hg, rfl⟩
    simp [execOp, e1, h2, Instr.indexAt, asIntOf, run_underlying hu, h0, hl, sizeOf, typeInfo, hf, hs, add_lit, Instr.sureAddr]
theorem ok_indexAddr_arrp {t n e sz : Nat} {x ix : Operand} {cs : List PV} {k : IntKind} {i : Int} [h : ArrT P t n e sz] (hx : σ.ev x = some (.ptr cs) := by rfl) (hi : σ.ev ix = some (.v (.int k i)) := by rfl) (h0 : 0 ≤ i := by omega) (hl : i < n := by omega) (hd : inB σ dst = true := by rfl) :
    OpOK P ⟨dst, .indexAddr t x ix, ty, pos, after, guard⟩ σ (.ptr (cs.drop (i.toNat * sz))) [] :=
  OpOK.val hd fun X w0 σ' a w μ hag s => by
    obtain ⟨inf, hu, hf, hs⟩ := arr_parts h.h
    have h1 := eval_tmp s (hag.ev x (by simp [Op.operands]) _ hx)
    have h2 := eval_v s (hag.ev ix (by simp [Op.operands]) _ hi)
    simp only [Rep] at h1
    obtain ⟨g, e1, r⟩ := h1
    refine ⟨.pointer (some (g.add (i.toNat * sz))), ?_, g.add _, rfl, RepC.shift _ (by simpa using r.drop _)⟩
    simp [execOp, e1, h2, Instr.indexAt, asIntOf, run_underlying hu, h0, hl, sizeOf, typeInfo, hf, hs, Instr.sureAddr]
theorem ok_index_arr1 {t n e : Nat} {x ix : Operand} {cs : List PV} {k : IntKind} {i : Int} {p : PV} [h : ArrT P t n e 1] [he : TySz P e false 1] (hx : σ.ev x = some (.agg cs) := by rfl) (hi : σ.ev ix = some (.v (.int k i)) := by rfl) (h0 : 0 ≤ i := by omega) (hl : i < n := by omega) (hp : cs[i.toNat]? = some p := by rfl) (hd : inB σ dst = true := by rfl) :
    OpOK P ⟨dst, .index t x ix, ty, pos, after, guard⟩ σ p [] :=
  OpOK.val hd fun X w0 σ' a w μ hag s => by
    obtain ⟨inf, hu, hf, hs⟩ := arr_parts h.h
    have h1 := eval_tmp s (hag.ev x (by simp [Op.operands]) _ hx)
    have h2 := eval_v s (hag.ev ix (by simp [Op.operands]) _ hi)
    simp only [Rep] at h1
    obtain ⟨vs, e1, r, _⟩ := h1
    obtain ⟨y, hy, r'⟩ := r.get _ p hp
    exact ⟨y, by simp [execOp, e1, h2, Instr.index, asIntOf, run_underlying hu, h0, hl, sizeOf, typeInfo, hf, hs, part, run_isAgg he.h, hy], r'⟩
theorem ok_len {t e sz : Nat} {x : Operand} {xs : List (List PV)} {sz' : Nat} [h : SliceT P t e sz] (hx : σ.ev x = some (.sl sz' xs) := by rfl) (hd : inB σ dst = true := by rfl) : OpOK P ⟨dst, .call { callee := .builtin .len, args := #[x], argTypes := #[t] }, ty, pos, after, guard⟩ σ (.v (.int .i64 (xs.length : Int))) [] :=
  OpOK.val hd fun X w0 σ' a w μ hag s => by
    obtain ⟨inf, hu, hf, hs⟩ := slice_parts h.h
    have h1 := eval_tmp s (hag.ev x (by simp [Op.operands, Call.operands]) _ hx)
    simp only [Rep] at h1
    obtain ⟨A, c, e1, _⟩ := h1
    exact ⟨_, by simp [execOp, resolve, invoke, builtin, e1, Builtin.len_, run_underlying hu, goInt], rfl⟩
theorem ok_len_nil {t e sz : Nat} {x : Operand} {A : Option Addr} {n c : Nat} [h : SliceT P t e sz] (hx : σ.ev x = some (.v (.slice A n c)) := by rfl) (hd : inB σ dst = true := by rfl) : OpOK P ⟨dst, .call { callee := .builtin .len, args := #[x], argTypes := #[t] }, ty, pos, after, guard⟩ σ (.v (.int .i64 (n : Int))) [] :=
  OpOK.val hd fun X w0 σ' a w μ hag s => by
    obtain ⟨inf, hu, hf, hs⟩ := slice_parts h.h
    have h1 := eval_v s (hag.ev x (by simp [Op.operands, Call.operands]) _ hx)
    exact ⟨_, by simp [execOp, resolve, invoke, builtin, h1, Builtin.len_, run_underlying hu, goInt], rfl⟩
theorem ok_len_str {t : Nat} {x : Operand} {s : ByteArray} [hu : StrT P t] (hx : σ.ev x = some (.v (.string s)) := by rfl) (hd : inB σ dst = true := by rfl) : OpOK P ⟨dst, .call { callee := .builtin .len, args := #[x], argTypes := #[t] }, ty, pos, after, guard⟩ σ (.v (.int .i64 (s.size : Int))) [] :=
  OpOK.val hd fun X w0 σ' a w μ hag sm => by
    have h1 := eval_v sm (hag.ev x (by simp [Op.operands, Call.operands]) _ hx)
    exact ⟨_, by simp [execOp, resolve, invoke, builtin, h1, Builtin.len_, run_underlying hu.h, goInt], rfl⟩
theorem ok_len_row {t e sz : Nat} {rt : TypeId} {x : Operand} {xs : List (List PV)} {id ver sz' : Nat} [h : SliceT P t e sz] (hx : σ.ev x = some (.row id ver) := by rfl) (hb : σ.blk id = some (.row rt sz' ver xs) := by rfl) (hd : inB σ dst = true := by rfl) : OpOK P ⟨dst, .call { callee := .builtin .len, args := #[x], argTypes := #[t] }, ty, pos, after, guard⟩ σ (.v (.int .i64 (xs.length : Int))) [] :=
  OpOK.val hd fun X w0 σ' a w μ hag s => by
    obtain ⟨inf, hu, hf, hs⟩ := slice_parts h.h
    have h1 := eval_tmp s (hag.ev x (by simp [Op.operands, Call.operands]) _ hx)
    obtain ⟨vs, hm, hown, _⟩ := (row_parts s (hag.blk x (by simp [Op.operands, Call.operands]) _ id _ hx rfl hb) (p := .row id ver) (y := a.eval x)).1 rfl h1
    rcases hown.2 with ⟨hv, h0⟩ | ⟨g, cap, cur, hv, _⟩
    · exact ⟨_, by simp [execOp, resolve, invoke, builtin, hv, Builtin.len_, run_underlying hu, goInt, h0], rfl⟩
    · exact ⟨_, by simp [execOp, resolve, invoke, builtin, hv, Builtin.len_, run_underlying hu, goInt], rfl⟩
theorem ok_minmax {mx : Bool} {t : Nat} {x y : Operand} {i j : Int} {ats : Array TypeId} (hx : σ.ev x = some (.v (.int .i64 i)) := by rfl) (hy : σ.ev y = some (.v (.int .i64 j)) := by rfl) (hd : inB σ dst = true := by rfl) : OpOK P ⟨dst, .call { callee := .builtin (if mx then .max else .min), args := #[x, y], argTypes := ats }, t, pos, after, guard⟩ σ (.v (.int .i64 (if mx then max i j else min i j))) [] :=
  OpOK.val hd fun X w0 σ' a w μ hag sm => by
    have h1 := eval_v sm (hag.ev x (by simp [Op.operands, Call.operands]) _ hx)
    have h2 := eval_v sm (hag.ev y (by simp [Op.operands, Call.operands]) _ hy)
    cases mx
    · refine ⟨_, by simp [execOp, resolve, invoke, builtin, h1, h2, Builtin.min_, Builtin.min2]; rfl, ?_⟩
      simp only [Rep]
      congr 1
      simp only [Bool.false_eq_true, if_false]
      split <;> omega
    · refine ⟨_, by simp [execOp, resolve, invoke, builtin, h1, h2, Builtin.max_, Builtin.max2]; rfl, ?_⟩
      simp only [Rep]
      congr 1
      simp only [if_true]
      split <;> omega
theorem RepR.takes {w : World} {μ : LMap} {A : Option Addr} {sz : Nat} : ∀ {xs : List (List PV)} {k : Nat}, RepR w μ A sz xs k → ∀ n, RepR w μ A sz (xs.take n) k
  | [], _, _, n => by simp [RepR]
  | e :: es, k, r, n => by
    cases n with
    | zero => simp [RepR]
    | succ n => simp only [RepR, List.take_succ_cons] at r ⊢; exact ⟨r.1, r.2.1, RepR.takes r.2.2 n⟩
theorem RepR.drops {w : World} {μ : LMap} {A : Option Addr} {sz : Nat} : ∀ {xs : List (List PV)} {k : Nat}, RepR w μ A sz xs k → ∀ n, RepR w μ A sz (xs.drop n) (k + n * sz)
  | [], _, _, n => by simp [RepR]
  | e :: es, k, r, n => by
    cases n with
    | zero => simpa using r
    | succ n =>
      simp only [RepR] at r
      have := RepR.drops r.2.2 n
      rw [List.drop_succ_cons, show k + (n + 1) * sz = k + sz + n * sz from by rw [Nat.succ_mul]; omega]
      exact this
theorem RepR.shift {w : World} {μ : LMap} {a : Addr} {sz : Nat} (n : Nat) : ∀ {xs : List (List PV)} {k : Nat}, RepR w μ (some a) sz xs (n + k) → RepR w μ (some (a.add n)) sz xs k
  | [], _, _ => trivial
  | e :: es, k, r => by
    simp only [RepR] at r ⊢
    exact ⟨r.1, RepC.shift n r.2.1, RepR.shift n (k := k + sz) (by rw [← Nat.add_assoc]; exact r.2.2)⟩
theorem RepR.none_nil {w : World} {μ : LMap} {sz : Nat} (hz : sz ≠ 0) : ∀ {xs : List (List PV)} {k : Nat}, RepR w μ none sz xs k → xs = []
  | [], _, _ => rfl
  | e :: es, k, r => by
    simp only [RepR] at r
    obtain ⟨hl, rc, _⟩ := r
    cases e with
    | nil => simp at hl; omega
    | cons c cs => simp only [RepC] at rc; obtain ⟨⟨a, _, h, _⟩, _⟩ := rc; cases h
theorem rep_part {w : World} {μ : LMap} {sz : Nat} {xs : List (List PV)} {A : Option Addr} {c l h : Nat} (hz : sz ≠ 0) (hc : xs.length ≤ c) (hm : c ≤ maxLen) (r : RepR w μ.shut A sz xs 0) (hlh : l ≤ h) (hh : h ≤ xs.length) :
    Rep w μ (.sl sz ((xs.take h).drop l)) (.slice (if c = l then A else A.map (·.add (l * sz))) (h - l) (c - l)) := by
  simp only [Rep]
  have hlen : ((xs.take h).drop l).length = h - l := by rw [List.length_drop, List.length_take]; omega
  rw [hlen]
  have r' := (r.takes h).drops l
  rw [Nat.zero_add] at r'
  by_cases hcl : c = l
  · rw [if_pos hcl]
    have : (xs.take h).drop l = [] := by
      apply List.eq_nil_of_length_eq_zero
      rw [hlen]; omega
    rw [this]
    exact ⟨A, _, rfl, by omega, by omega, trivial⟩
  · rw [if_neg hcl]
    cases A with
    | none =>
      have := r.none_nil hz
      subst this
      exact ⟨none, _, rfl, by simp at hh; omega, by omega, by simp [RepR]⟩
    | some ad => exact ⟨some (ad.add (l * sz)), _, rfl, by omega, by omega, RepR.shift _ (by simpa using r')⟩
inductive Bnd (σ : St) : Option Operand → Nat → Nat → Prop
  | no {d : Nat} : Bnd σ none d d
  | lit {x : Operand} {d : Nat} {k : IntKind} {i : Int} : σ.ev x = some (.v (.int k i)) → 0 ≤ i → Bnd σ (some x) d i.toNat
def BndV (v : Option Value) (d l : Nat) : Prop := (v = none ∧ l = d) ∨ ∃ k i, v = some (.int k i) ∧ 0 ≤ i ∧ l = i.toNat
theorem Bnd.val {σ σ' : St} {X : XF} {w0 w : World} {a : Act} {μ : LMap} (s : SimM X w0 σ' a w μ) {lo : Option Operand} {d l : Nat} (h : Bnd σ lo d l) (hag : ∀ x, lo = some x → ∀ q, σ.ev x = some q → σ'.ev x = some q) : BndV (lo.map a.eval) d l := by
  cases h with
  | no => exact .inl ⟨rfl, rfl⟩
  | @lit x d k i hy h0 => exact .inr ⟨k, i, by rw [Option.map_some, eval_v s (hag x rfl _ hy)], h0, rfl⟩
theorem run_bounds {P : Program} {w : World} {isS : Bool} {n c l h : Nat} {lo hi : Option Value} (hlo : BndV lo 0 l) (hhi : BndV hi n h) (hlh : l ≤ h) (hhc : h ≤ c) : (Instr.sliceBounds isS n c lo hi none).run P w = .ok (l, h, c) w := by
  rcases hlo with ⟨rfl, rfl⟩ | ⟨k, i, rfl, h0, rfl⟩
  · rcases hhi with ⟨rfl, rfl⟩ | ⟨k', i', rfl, h0', rfl⟩
    · simp [Instr.sliceBounds]
    · have e : i' ≤ (c : Int) := by omega
      simp [Instr.sliceBounds, Instr.sliceBound, asIntOf, h0', e]
  · rcases hhi with ⟨rfl, rfl⟩ | ⟨k', i', rfl, h0', rfl⟩
    · have e : i ≤ (h : Int) := by omega
      simp [Instr.sliceBounds, Instr.sliceBound, asIntOf, h0, e]
    · have e : i' ≤ (c : Int) := by omega
      have e2 : ¬ max i' 0 < i := by omega
      simp [Instr.sliceBounds, Instr.sliceBound, asIntOf, h0, h0', e]
      exact fun h => absurd h e2
theorem ok_slice {t e sz : Nat} {x : Operand} {lo hi : Option Operand} {xs : List (List PV)} {l h : Nat} [ht : SliceT P t e sz] (hx : σ.ev x = some (.sl sz xs)) (hlo : Bnd σ lo 0 l) (hhi : Bnd σ hi xs.length h) (hlh : l ≤ h) (hh : h ≤ xs.length) (hz : sz ≠ 0) (hd : inB σ dst = true) :
    OpOK P ⟨dst, .slice t x lo hi none, ty, pos, after, guard⟩ σ (.sl sz ((xs.take h).drop l)) [] :=
  OpOK.val hd fun X w0 σ' a w μ hag s => by
    obtain ⟨inf, hu, hf, hs⟩ := slice_parts ht.h
    have h1 := eval_tmp s (hag.ev x (by simp [Op.operands]) _ hx)
    simp only [Rep] at h1
    obtain ⟨A, c, e1, hc, hm, r⟩ := h1
    refine ⟨_, ?_, rep_part hz hc hm r hlh hh⟩
    have hb := run_bounds (P := P) (w := w) (isS := true) (c := c) (hlo.val s (fun y hy q hq => hag.ev y (by simp [Op.operands, hy]) q hq)) (hhi.val s (fun y hy q hq => hag.ev y (by simp [Op.operands, hy]) q hq)) hlh (Nat.le_trans hh hc)
    simp [execOp, e1, Instr.sliceAt, run_underlying hu, Instr.slice, hb, sizeOf, typeInfo, hf, hs]
theorem eval_list {X : XF} {w0 w : World} {σ' : St} {a : Act} {μ : LMap} (s : SimM X w0 σ' a w μ) : ∀ {xs : List Operand} {ps : List PV}, xs.mapM σ'.ev = some ps → RepL w μ ps (xs.map a.eval)
  | [], ps, h => by simp at h; subst h; rfl
  | x :: xs, ps, h => by
    rw [List.mapM_cons] at h
    cases hx : σ'.ev x with
    | none => rw [hx] at h; cases h
    | some p =>
      rw [hx] at h
      cases hxs : xs.mapM σ'.ev with
      | none => rw [hxs] at h; cases h
      | some qs =>
        rw [hxs] at h
        injection h with h
        subst h
        exact ⟨_, _, rfl, eval_tmp s hx, eval_list s hxs⟩
theorem ev_agree {σ' : St} : ∀ {xs : List Operand} {ps : List PV}, (∀ x ∈ xs, ∀ q, σ.ev x = some q → σ'.ev x = some q) → xs.mapM σ.ev = some ps → xs.mapM σ'.ev = some ps
  | [], ps, _, h => h
  | x :: xs, ps, hag, h => by
    rw [List.mapM_cons] at h ⊢
    cases hx : σ.ev x with
    | none => rw [hx] at h; cases h
    | some p =>
      rw [hx] at h
      cases hxs : xs.mapM σ.ev with
      | none => rw [hxs] at h; cases h
      | some qs =>
        rw [hxs] at h
        rw [hag x (List.mem_cons_self ..) p hx, ev_agree (fun y hy => hag y (List.mem_cons_of_mem _ hy)) hxs]
        exact h
theorem ok_makeFunc {fn : Fn} {first caps : List Operand} {ps qs : List PV} (h1 : first.mapM σ.ev = some ps := by rfl) (h2 : caps.mapM σ.ev = some qs := by rfl) (hd : inB σ dst = true := by rfl) : OpOK P ⟨dst, .makeFunc fn first.toArray caps.toArray, ty, pos, after, guard⟩ σ (.fn fn ps qs) [] :=
  OpOK.val hd fun X w0 σ' a w μ hag s => by
    have r1 := eval_list s (ev_agree (σ' := σ') (fun x hx q hq => hag.ev x (by simp [Op.operands, hx]) q hq) h1)
    have r2 := eval_list s (ev_agree (σ' := σ') (fun x hx q hq => hag.ev x (by simp [Op.operands, hx]) q hq) h2)
    exact ⟨_, by simp [execOp, Instr.makeFunc], _, _, rfl, r1, r2⟩
end
end Go.Proofs.YtbjepdfnmbdplaaGreat
namespace Go.Proofs.YtbjepdfnmbdplaaGreat
set_option linter.unusedSimpArgs false
set_option linter.unusedVariables false
set_option linter.unusedSectionVars false
open Go.RowKit
def putL {α : Type} : List α → Nat → List α → List α
  | cs, _, [] => cs
  | cs, o, p :: ps => putL (cs.set o p) (o + 1) ps
def putF {α : Type} : List α → Nat → List α → List α
  | [], _, _ => []
  | c :: cs, 0, [] => c :: cs
  | _ :: cs, 0, p :: ps => p :: putF cs 0 ps
  | c :: cs, o + 1, ps => c :: putF cs o ps
theorem putL_nil {α : Type} : ∀ (ps : List α) (o : Nat), putL ([] : List α) o ps = []
  | [], _ => rfl
  | _ :: ps, o => putL_nil ps (o + 1)
theorem putL_succ {α : Type} (c : α) : ∀ (ps cs : List α) (o : Nat), putL (c :: cs) (o + 1) ps = c :: putL cs o ps
  | [], _, _ => rfl
  | p :: ps, cs, o => putL_succ c ps (cs.set o p) (o + 1)
theorem putF_eq {α : Type} : ∀ (cs : List α) (o : Nat) (ps : List α), putF cs o ps = putL cs o ps
  | [], o, ps => (putL_nil ps o).symm
  | c :: cs, 0, [] => rfl
  | c :: cs, 0, p :: ps => by
    show p :: putF cs 0 ps = putL (p :: cs) (0 + 1) ps
    rw [putL_succ, putF_eq cs 0 ps]
  | c :: cs, o + 1, ps => by
    show c :: putF cs o ps = _
    rw [putL_succ, putF_eq cs o ps]
theorem putL_length {α : Type} : ∀ (ps cs : List α) (o : Nat), (putL cs o ps).length = cs.length
  | [], _, _ => rfl
  | p :: ps, cs, o => by rw [putL, putL_length, List.length_set]
theorem RepL.puts {w : World} {μ : LMap} : ∀ {ps : List PV} {us : List Value}, RepL w μ ps us → ∀ {cs : List PV} {vs : List Value} (o : Nat), RepL w μ cs vs → RepL w μ (putL cs o ps) (putL vs o us)
  | [], _, r, _, _, _, h => by simp only [RepL] at r; subst r; exact h
  | p :: ps, _, r, _, _, o, h => by
    simp only [RepL] at r
    obtain ⟨u, us, rfl, r1, r2⟩ := r
    exact RepL.puts r2 (o + 1) (h.set o p u r1)
theorem foldl_put : ∀ (l : List Value) (n off : Nat) (cs : Array Value), ((l.zipIdx n).foldl (fun cs (x : Value × Nat) => cs.setIfInBounds (off + x.2) x.1) cs).toList = putL cs.toList (off + n) l
  | [], _, _, _ => rfl
  | v :: l, n, off, cs => by
    rw [List.zipIdx_cons, List.foldl_cons, foldl_put l (n + 1) off, putL, ← Nat.add_assoc]
    congr 1
    simp
theorem putL_mem {α : Type} {q : α → Prop} : ∀ (ps cs : List α) (o : Nat), (∀ p ∈ ps, q p) → (∀ c ∈ cs, q c) → ∀ x ∈ putL cs o ps, q x
  | [], _, _, _, h => h
  | p :: ps, cs, o, hp, h => by
    rw [putL]
    refine putL_mem ps _ _ (fun x hx => hp x (List.mem_cons_of_mem _ hx)) (fun x hx => ?_)
    rcases List.mem_or_eq_of_mem_set hx with hx | rfl
    · exact h x hx
    · exact hp x (List.mem_cons_self ..)
def fillP (place : Nat → Option (Nat × Nat)) (cs : List PV) : List (Nat × PV) → Option (List PV)
  | [] => some cs
  | (i, p) :: rest => match place i with
    | none => none
    | some (off, n) => bif Nat.beq p.cells.length n && Nat.ble (off + n) cs.length && p.lies then fillP place (putL cs off p.cells) rest else none
def fillF (place : Nat → Option (Nat × Nat)) (cs : List PV) : List (Nat × PV) → Option (List PV)
  | [] => some cs
  | (i, p) :: rest => match place i with
    | none => none
    | some (off, n) => bif Nat.beq p.cells.length n && Nat.ble (off + n) cs.length && p.lies then fillF place (putF cs off p.cells) rest else none
theorem fillF_eq (place : Nat → Option (Nat × Nat)) : ∀ (ps : List (Nat × PV)) (cs : List PV), fillF place cs ps = fillP place cs ps
  | [], _ => rfl
  | (i, p) :: rest, cs => by
    unfold fillF fillP
    split
    · rfl
    · rw [putF_eq, fillF_eq place rest]
theorem fill_of {w : World} {μ : LMap} {place : Nat → Option (Nat × Nat)} : ∀ {ps : List (Nat × PV)} {us : List (Nat × Value)} {cs res : List PV} {vs : Array Value},
    us.map Prod.fst = ps.map Prod.fst → RepL w μ (ps.map Prod.snd) (us.map Prod.snd) → RepL w μ cs vs.toList → (∀ u ∈ vs.toList, u.oneCell' = true) → fillP place cs ps = some res →
    ∃ rv, Instr.fill place vs us = some rv ∧ RepL w μ res rv.toList ∧ ∀ u ∈ rv.toList, u.oneCell' = true
  | [], [], cs, res, vs, _, _, r, h1, h => by
    injection h with h
    subst h
    exact ⟨vs, rfl, r, h1⟩
  | [], _ :: _, _, _, _, h, _, _, _, _ => by simp at h
  | _ :: _, [], _, _, _, h, _, _, _, _ => by simp at h
  | (i, p) :: ps, (i', u) :: us, cs, res, vs, hf, hr, r, h1, h => by
    simp only [List.map_cons, List.cons.injEq] at hf
    obtain ⟨rfl, hf⟩ := hf
    simp only [List.map_cons, RepL] at hr
    obtain ⟨u0, us0, e, hr1, hr2⟩ := hr
    injection e with e1 e2
    subst e1 e2
    rw [fillP] at h
    cases hp : place i' with
    | none => rw [hp] at h; cases h
    | some on =>
      obtain ⟨off, n⟩ := on
      rw [hp] at h
      simp only at h
      cases hc : (Nat.beq p.cells.length n && Nat.ble (off + n) cs.length && p.lies) with
      | false => rw [hc] at h; cases h
      | true =>
        rw [hc, cond_true] at h
        simp only [Bool.and_eq_true] at hc
        obtain ⟨⟨c1, c2⟩, c3⟩ := hc
        have c1' := Nat.eq_of_beq_eq_true c1
        rw [Nat.ble_eq] at c2
        obtain ⟨q1, q2⟩ := hr1.lies c3
        have hn : u.cells.size = n := by rw [← Array.length_toList, q1.length, c1']
        have hlen := r.length
        have hz : (u.cells.zipIdx.foldl (fun cs (x : Value × Nat) => cs.setIfInBounds (off + x.2) x.1) vs).toList = putL vs.toList off u.cells.toList := by
          have := foldl_put u.cells.toList 0 off vs
          rw [Nat.add_zero] at this
          rw [← this, ← Array.foldl_toList, Array.toList_zipIdx]
        have r2 : RepL w μ (putL cs off p.cells) (u.cells.zipIdx.foldl (fun cs (x : Value × Nat) => cs.setIfInBounds (off + x.2) x.1) vs).toList := by rw [hz]; exact RepL.puts q1 off r
        obtain ⟨rv, g1, g2, g3⟩ := fill_of hf hr2 r2 (by rw [hz]; exact putL_mem _ _ _ q2 h1) h
        refine ⟨rv, ?_, g2, g3⟩
        rw [Instr.fill, hp]
        simp only
        have hb : ¬ (u.cells.size ≠ n || decide (off + u.cells.size > vs.size)) = true := by
          rw [← Array.length_toList (xs := vs), hlen]
          simp [hn]
          omega
        rw [if_neg hb]
        exact g1
section
variable {P : Program} {σ : St} {dst : Option Tmp} {ty : TypeId} {pos : String} {after : Array Edge} {guard : Option (Nat × Bool)}
def St.evP (σ : St) : List (Nat × Operand) → Option (List (Nat × PV))
  | [] => some []
  | (i, x) :: l => match σ.ev x, σ.evP l with
    | some p, some ps => some ((i, p) :: ps)
    | _, _ => none
theorem evP_spec {X : XF} {w0 w : World} {σ' : St} {a : Act} {μ : LMap} (s : SimM X w0 σ' a w μ) : ∀ {l : List (Nat × Operand)} {ps : List (Nat × PV)}, (∀ x ∈ l.map Prod.snd, ∀ q, σ.ev x = some q → σ'.ev x = some q) → σ.evP l = some ps →
    (l.map fun (i, x) => (i, a.eval x)).map Prod.fst = ps.map Prod.fst ∧ RepL w μ (ps.map Prod.snd) ((l.map fun (i, x) => (i, a.eval x)).map Prod.snd)
  | [], ps, _, h => by injection h with h; subst h; exact ⟨rfl, rfl⟩
  | (i, x) :: l, ps, hag, h => by
    rw [St.evP] at h
    cases hx : σ.ev x with
    | none => rw [hx] at h; cases h
    | some p =>
      cases hl : σ.evP l with
      | none => rw [hx, hl] at h; cases h
      | some qs =>
        rw [hx, hl] at h
        injection h with h
        subst h
        obtain ⟨r1, r2⟩ := evP_spec s (fun y hy => hag y (List.mem_cons_of_mem _ hy)) hl
        refine ⟨by simp only [List.map_cons]; rw [r1], ?_⟩
        simp only [List.map_cons]
        exact ⟨_, _, rfl, eval_tmp s (hag x (List.mem_cons_self ..) p hx), r2⟩
theorem struct_parts {t : Nat} {pl : List (Nat × Nat)} (h : structB P t = some pl) : ∃ fs : Array Field, P.underlying t = some (.struct fs) ∧ ∀ w, (fs.mapM (m := Sem) fun f => do pure (f.offset, ← sizeOf f.type)).run P w = .ok pl.toArray w := by
  unfold structB at h
  split at h
  · rename_i fs hu
    refine ⟨fs, hu, fun w => ?_⟩
    have key : ∀ (l : List Field) (pl : List (Nat × Nat)), (l.mapM fun f => (P.info? f.type).map fun i => (f.offset, i.size)) = some pl → (l.mapM (m := Sem) fun f => do pure (f.offset, ← sizeOf f.type)).run P w = .ok pl w := by
      intro l
      induction l with
      | nil => intro pl h; simp at h; subst h; rfl
      | cons f l ih =>
        intro pl h
        rw [List.mapM_cons] at h
        cases hi : P.info? f.type with
        | none => rw [hi] at h; cases h
        | some i =>
          rw [hi] at h
          cases hm : (l.mapM fun f => (P.info? f.type).map fun i => (f.offset, i.size)) with
          | none => rw [hm] at h; cases h
          | some qs =>
            rw [hm] at h
            injection h with h
            subst h
            have hs : (do pure (f.offset, ← sizeOf f.type) : Sem (Nat × Nat)).run P w = .ok (f.offset, i.size) w := by simp [sizeOf, typeInfo, hi]
            rw [List.mapM_cons, Sem.run_bind, hs, Result.andThen_ok, Sem.run_bind, ih qs hm, Result.andThen_ok]
            rfl
    have hk := key fs.toList pl h
    rw [Array.mapM_eq_mapM_toList]
    simp only [Sem.run_bind, Sem.run_map, hk, Result.andThen_ok] <;> first | rfl | simp [hk]
  · cases h
theorem ok_build {t : TypeId} {parts : List (Nat × Operand)} {pl : List (Nat × Nat)} {zs : List Value} {ps : List (Nat × PV)} {cs : List PV} [h : StructT P t pl] [hz : ZeroT P t zs] (hps : σ.evP parts = some ps := by rfl) (hcs : fillP (fun i => pl[i]?) (zs.map PV.v) ps = some cs := by rfl) (h1 : zs.all Value.oneCell' = true := by rfl) (hd : inB σ dst = true := by rfl) :
    OpOK P ⟨dst, .build t parts.toArray, ty, pos, after, guard⟩ σ (.agg cs) [] :=
  OpOK.val hd fun X w0 σ' a w μ hag s => by
    obtain ⟨fs, hu, hm⟩ := struct_parts h.h
    obtain ⟨i, z, hi, hzz, hzs⟩ := zero_parts hz.h
    obtain ⟨e1, e2⟩ := evP_spec (σ := σ) s (fun x hx q hq => hag.ev x (by simpa [Op.operands] using hx) q hq) hps
    have hzl : RepL w μ (zs.map PV.v) z.cells.toList := by rw [hzs]; exact RepL.of_lits zs
    obtain ⟨rv, g1, g2, g3⟩ := fill_of e1 e2 hzl (by rw [hzs]; exact fun u hu => List.all_eq_true.1 h1 u hu) hcs
    refine ⟨.agg rv, ?_, rv.toList, by simp, g2, g3⟩
    have e3 : (parts.toArray.map fun (x : Nat × Operand) => (x.1, a.eval x.2)).toList = parts.map fun (x : Nat × Operand) => (x.1, a.eval x.2) := by simp
    have g1' : Instr.fill (fun i => pl.toArray[i]?) z.cells (parts.toArray.map fun (x : Nat × Operand) => (x.1, a.eval x.2)).toList = some rv := by
      rw [e3]
      simpa using g1
    simp only [execOp, Instr.build, Sem.run_bind, zeroValue, typeInfo, run_program, hi, hzz, Result.andThen_ok, Sem.run_pure, run_underlying hu, hm w, g1']
def chunks {α : Type} (sz n : Nat) (cs : List α) : List (List α) := (List.range n).map fun i => (cs.drop (i * sz)).take sz
theorem chunks_len {α : Type} {sz n : Nat} {cs : List α} (h : cs.length = n * sz) : ∀ e ∈ chunks sz n cs, e.length = sz := by
  intro e he
  obtain ⟨i, hi, rfl⟩ := List.mem_map.1 he
  rw [List.mem_range] at hi
  rw [List.length_take, List.length_drop, h]
  have : (i + 1) * sz ≤ n * sz := Nat.mul_le_mul_right _ hi
  rw [Nat.succ_mul] at this
  omega
theorem chunks_flat {α : Type} {sz : Nat} : ∀ {n : Nat} {cs : List α}, cs.length = n * sz → (chunks sz n cs).flatten = cs
  | 0, cs, h => by
    have : cs = [] := List.eq_nil_of_length_eq_zero (by simpa using h)
    subst this
    rfl
  | n + 1, cs, h => by
    have hc : chunks sz (n + 1) cs = cs.take sz :: chunks sz n (cs.drop sz) := by
      unfold chunks
      rw [List.range_succ_eq_map, List.map_cons, List.map_map]
      simp only [Nat.zero_mul, List.drop_zero]
      congr 1
      apply List.map_congr_left
      intro i _
      simp only [Function.comp, List.drop_drop]
      rw [Nat.succ_mul, Nat.add_comm]
    rw [hc, List.flatten_cons, chunks_flat (by rw [List.length_drop, h, Nat.succ_mul]; omega), List.take_append_drop]
theorem run_buildSlice {t e sz n bytes : Nat} {z : Value} (h : sliceB P t = some (e, sz)) (hz : (P.info? e).map (fun i => (i.zero, i.size, i.bytes)) = some (some z, sz, bytes)) (hn : n * sz ≤ 2 ^ 24) (hzs : z.cells.size = sz) (hsz : sz ≠ 0) {us : List (Nat × Value)} {rv : Array Value} {w : World}
    (hf : Instr.fill (fun i => some (i * sz, sz)) ((Array.range (n * sz)).map fun j => z.cells[j % z.cells.size]!) us = some rv) :
    (Instr.buildSlice t n us.toArray).run P w = .ok (.slice (some ⟨w.heap.size, 0, none⟩) n n) (w.alloc (.cells rv e)) := by
  obtain ⟨i, hu, hi, hs⟩ := slice_parts h
  obtain ⟨i', hi', hz0, hz1, _⟩ := info_parts hz
  rw [hi] at hi'
  injection hi' with hi'
  subst hi'
  have hgt : ¬ n * sz > 2 ^ 24 := by omega
  rcases Nat.eq_zero_or_pos (n * sz) with h0 | h0
  · have hn0 : n = 0 := by
      rcases Nat.mul_eq_zero.1 h0 with h | h
      · exact h
      · exact absurd h hsz
    subst hn0
    have r0 : Array.range 0 = #[] := rfl
    simp only [Nat.zero_mul, r0] at hf
    simp [Instr.buildSlice, run_underlying hu, sizeOf, typeInfo, hi, hs, newRow, r0]
    have hf' : Instr.fill (fun i => some (i * sz, sz)) #[] us = some rv := by simpa using hf
    rw [hf']
    simp
  · have hne : ¬ n * sz = 0 := by omega
    simp [Instr.buildSlice, run_underlying hu, sizeOf, typeInfo, zeroValue, hi, hs, hgt, hne, hz0, newRow]
    rw [hf]
    simp
def zeroPV (n : Nat) (zs : List Value) : List PV := (List.replicate n (zs.map PV.v)).flatten
theorem zero_range {z : Array Value} {n : Nat} (hz : z.size ≠ 0) : ((Array.range (n * z.size)).map fun j => z[j % z.size]!).toList = (List.replicate n z.toList).flatten := by
  apply List.ext_getElem?
  intro j
  have hzl : ∀ e ∈ List.replicate n z.toList, e.length = z.size := fun e he => by rw [(List.mem_replicate.1 he).2, Array.length_toList]
  have hlen : ((List.replicate n z.toList).flatten).length = n * z.size := by simp
  rcases Nat.lt_or_ge j (n * z.size) with h | h
  · have hpos : 0 < z.size := Nat.pos_of_ne_zero hz
    have hm : j % z.size < z.size := Nat.mod_lt _ hpos
    have hd : j / z.size < n := (Nat.div_lt_iff_lt_mul hpos).2 h
    have e : j = j / z.size * z.size + j % z.size := by rw [Nat.mul_comm]; exact (Nat.div_add_mod _ _).symm
    have h5 : z[j % z.size]! = z[j % z.size] := getElem!_pos z (j % z.size) hm
    have hl : ((Array.range (n * z.size)).map fun j => z[j % z.size]!).toList[j]? = some z[j % z.size] := by
      rw [← h5]
      simp [h]
    rw [hl]
    have gen : ∀ (xs : List (List Value)), (∀ e ∈ xs, e.length = z.size) → ∀ i l, xs[i]? = some l → ∀ k, k < z.size → xs.flatten[i * z.size + k]? = l[k]? := by
      intro xs
      induction xs with
      | nil => intro _ i l h; simp at h
      | cons x xs ih =>
        intro hxs i l hi k hk
        have hx := hxs x (List.mem_cons_self ..)
        cases i with
        | zero =>
          simp at hi
          subst hi
          rw [List.flatten_cons, Nat.zero_mul, Nat.zero_add, List.getElem?_append_left (by omega)]
        | succ i =>
          rw [List.flatten_cons, List.getElem?_append_right (by rw [hx, Nat.succ_mul]; omega), hx, show (i + 1) * z.size + k - z.size = i * z.size + k from by rw [Nat.succ_mul]; omega]
          exact ih (fun e he => hxs e (List.mem_cons_of_mem _ he)) i l (by simpa using hi) k hk
    have := gen (List.replicate n z.toList) hzl (j / z.size) z.toList (by rw [List.getElem?_replicate, if_pos hd]) (j % z.size) hm
    rw [← e] at this
    rw [this]
    simp [hm]
  · rw [List.getElem?_eq_none (by simp; omega), List.getElem?_eq_none (by omega)]
theorem zeroPV_rep {w : World} {μ : LMap} {z : Array Value} {n : Nat} : RepL w μ (zeroPV n z.toList) (List.replicate n z.toList).flatten := by
  unfold zeroPV
  induction n with
  | zero => rfl
  | succ n ih =>
    rw [List.replicate_succ, List.replicate_succ, List.flatten_cons, List.flatten_cons]
    exact (RepL.of_lits z.toList).append ih
theorem mem_replicate_flatten {z : List Value} {n : Nat} {u : Value} (h : u ∈ (List.replicate n z).flatten) : u ∈ z := by
  obtain ⟨l, hl, hu⟩ := List.mem_flatten.1 h
  rw [(List.mem_replicate.1 hl).2] at hu
  exact hu
theorem fillP_length {place : Nat → Option (Nat × Nat)} : ∀ {ps : List (Nat × PV)} {cs res : List PV}, fillP place cs ps = some res → res.length = cs.length
  | [], cs, res, h => by injection h with h; subst h; rfl
  | (i, p) :: ps, cs, res, h => by
    rw [fillP] at h
    cases hp : place i with
    | none => rw [hp] at h; cases h
    | some on =>
      obtain ⟨off, n⟩ := on
      rw [hp] at h
      simp only at h
      cases hc : (Nat.beq p.cells.length n && Nat.ble (off + n) cs.length && p.lies) with
      | false => rw [hc] at h; cases h
      | true =>
        rw [hc, cond_true] at h
        rw [fillP_length h, putL_length]
theorem ok_lit {t e sz bytes n : Nat} {z : Value} {parts : List (Nat × Operand)} {ps : List (Nat × PV)} {cs : List PV} [h : SliceT P t e sz] [hz : ElemT P e z sz bytes] (hps : σ.evP parts = some ps := by rfl) (hcs : fillP (fun i => some (i * sz, sz)) (zeroPV n z.cells.toList) ps = some cs := by rfl) (hcl : closedL cs = true := by rfl)
    (hk : (Nat.ble (n * sz) 16777216 && Nat.beq z.cells.size sz && !Nat.beq sz 0 && z.cells.toList.all Value.oneCell') = true := by rfl) (hd : inB σ dst = true := by rfl) :
    OpOK P ⟨dst, .buildSlice t n parts.toArray, ty, pos, after, guard⟩ σ (.sl sz (chunks sz n cs)) [] := by
  refine ⟨fun σ' hag _ => ⟨fun X w0 a w μ K Q s hK => ?_⟩⟩
  simp only [Bool.and_eq_true, Bool.not_eq_true'] at hk
  obtain ⟨⟨⟨k1, k2⟩, k3⟩, k4⟩ := hk
  rw [Nat.ble_eq] at k1
  have k2' := Nat.eq_of_beq_eq_true k2
  have k3' : sz ≠ 0 := by intro e; subst e; simp at k3
  obtain ⟨e1, e2⟩ := evP_spec (σ := σ) s (fun x hx q hq => hag.ev x (by simpa [Op.operands] using hx) q hq) hps
  have hzr : ((Array.range (n * sz)).map fun j => z.cells[j % z.cells.size]!).toList = (List.replicate n z.cells.toList).flatten := by
    rw [← k2']; exact zero_range (by omega)
  obtain ⟨rv, g1, g2, g3⟩ := fill_of e1 e2 (vs := (Array.range (n * sz)).map fun j => z.cells[j % z.cells.size]!) (by rw [hzr]; exact zeroPV_rep) (by rw [hzr]; exact fun u hu => List.all_eq_true.1 k4 u (mem_replicate_flatten hu)) hcs
  have hrun := run_buildSlice (P := P) (w := w) h.h hz.h (by simpa using k1) k2' k3' g1
  have hclen : cs.length = n * sz := by rw [fillP_length hcs]; unfold zeroPV; simp [← k2']
  have hb := below_alloc w (.cells rv e)
  have hlat := s.later hb
  have hrep : Rep (w.alloc (.cells rv e)) μ (.sl sz (chunks sz n cs)) (.slice (some ⟨w.heap.size, 0, none⟩) n n) := by
    have hn : (chunks sz n cs).length = n := by simp [chunks]
    simp only [Rep]
    rw [hn]
    refine ⟨some ⟨w.heap.size, 0, none⟩, n, rfl, Nat.le_refl _, ?_, ?_⟩
    · unfold maxLen
      have : n * 1 ≤ n * sz := Nat.mul_le_mul_left n (by omega)
      omega
    · refine RepR.of_flat (chunks_len hclen) ?_
      rw [chunks_flat hclen]
      refine RepC.of_cells ?_ (RepL.shuts cs rv.toList hcl (RepL.later hlat _ _ g2)) g3 (fun j u hu => ?_)
      · rw [LMap.shut_owns]
        exact new_not_owned s
      · rw [Nat.zero_add, add_lit, Nat.zero_add, World.cell?_alloc_new]
        simpa using hu
  unfold Oper.wp
  have he : (execOp a.eval ⟨dst, .buildSlice t n parts.toArray, ty, pos, after, guard⟩).run P w = .ok (.value (.slice (some ⟨w.heap.size, 0, none⟩) n n)) (w.alloc (.cells rv e)) := by
    have e3 : (parts.toArray.map fun (x : Nat × Operand) => (x.1, a.eval x.2)) = (parts.map fun (x : Nat × Operand) => (x.1, a.eval x.2)).toArray := by simp
    simp only [execOp, Sem.run_bind]
    rw [e3, hrun]
    rfl
  rw [he]
  exact hK _ _ μ ((s.below hb).put (SimM.nt_inB hag hd) hrep)
theorem ok_litrow {d t e sz bytes n : Nat} {z : Value} {parts : List (Nat × Operand)} {ps : List (Nat × PV)} {cs : List PV} [h : SliceT P t e sz] [hz : ElemT P e z sz bytes] (hps : σ.evP parts = some ps) (hcs : fillP (fun i => some (i * sz, sz)) (zeroPV n z.cells.toList) ps = some cs)
    (hk : (Nat.ble (n * sz) 16777216 && Nat.beq z.cells.size sz && !Nat.beq sz 0 && z.cells.toList.all Value.oneCell') = true) (hd : inB σ (some d) = true) :
    OpOK P ⟨some d, .buildSlice t n parts.toArray, ty, pos, after, guard⟩ σ (.row d 0) [(d, .row e sz 0 (chunks sz n cs))] :=
  OpOK.new rfl hd fun X w0 σ' a w μ hag s => by
    simp only [Bool.and_eq_true, Bool.not_eq_true'] at hk
    obtain ⟨⟨⟨k1, k2⟩, k3⟩, k4⟩ := hk
    rw [Nat.ble_eq] at k1
    have k2' := Nat.eq_of_beq_eq_true k2
    have k3' : sz ≠ 0 := by intro e; subst e; simp at k3
    obtain ⟨e1, e2⟩ := evP_spec (σ := σ) s (fun x hx q hq => hag.ev x (by simpa [Op.operands] using hx) q hq) hps
    have hzr : ((Array.range (n * sz)).map fun j => z.cells[j % z.cells.size]!).toList = (List.replicate n z.cells.toList).flatten := by
      rw [← k2']; exact zero_range (by omega)
    obtain ⟨rv, g1, g2, g3⟩ := fill_of e1 e2 (vs := (Array.range (n * sz)).map fun j => z.cells[j % z.cells.size]!) (by rw [hzr]; exact zeroPV_rep) (by rw [hzr]; exact fun u hu => List.all_eq_true.1 k4 u (mem_replicate_flatten hu)) hcs
    have hrun := run_buildSlice (P := P) (w := w) h.h hz.h (by simpa using k1) k2' k3' g1
    have hclen : cs.length = n * sz := by rw [fillP_length hcs]; unfold zeroPV; simp [← k2']
    refine ⟨.slice (some ⟨w.heap.size, 0, none⟩) n n, w.alloc (.cells rv e), .row (.slice (some ⟨w.heap.size, 0, none⟩) n n) 0, ?_, below_alloc w _, fun g hg => ?_, fun hlat => ⟨⟨_, rv.toList, LMap.set_eq _ _ _, ?_, ?_, chunks_len hclen, g3⟩, ?_⟩⟩
    · have e3 : (parts.toArray.map fun (x : Nat × Operand) => (x.1, a.eval x.2)) = (parts.map fun (x : Nat × Operand) => (x.1, a.eval x.2)).toArray := by simp
      simp only [execOp, Sem.run_bind]
      rw [e3, hrun]
      rfl
    · simp only [LI.block, Value.ownBlock, Option.some.injEq] at hg
      subst hg
      simp
    · have hn : (chunks sz n cs).length = n := by simp [chunks]
      rw [hn]
      refine World.ownsRow_lit w rv n s.keep.size ?_ ?_
      · unfold maxLen
        have : n * 1 ≤ n * sz := Nat.mul_le_mul_left n (by omega)
        omega
      · rw [← Array.length_toList, g2.length, hclen]
    · rw [chunks_flat hclen]
      exact RepL.later hlat _ _ g2
    · simp only [Rep]
      exact ⟨_, 0, LMap.set_eq _ _ _, Nat.le_refl _, rfl, fun _ => rfl⟩
end
end Go.Proofs.YtbjepdfnmbdplaaGreat
namespace Go.Proofs.YtbjepdfnmbdplaaGreat
set_option linter.unusedSimpArgs false
set_option linter.unusedVariables false
set_option linter.unusedSectionVars false
open Go.RowKit
theorem heap_setCells_other (g : Nat) : ∀ (us : List Value) (k : Nat) (w : World) (j : Nat), j ≠ g → (w.setCells g k us).heap[j]? = w.heap[j]?
  | [], _, _, _, _ => rfl
  | u :: us, k, w, j, h => by
    rw [World.setCells, heap_setCells_other g us (k + 1) _ j h, Below.heap_setCell _ _ _ _ h]
theorem heap_setCells_size (g : Nat) : ∀ (us : List Value) (k : Nat) (w : World), (w.setCells g k us).heap.size = w.heap.size
  | [], _, _ => rfl
  | u :: us, k, w => by rw [World.setCells, heap_setCells_size g us (k + 1)]; simp [World.setCell]
theorem heap_setCells_same (g : Nat) : ∀ (us : List Value) (k : Nat) (w : World) (cs : Array Value) (ty : TypeId), w.heap[g]? = some (.cells cs ty (0, 0)) → ∃ cs', (w.setCells g k us).heap[g]? = some (.cells cs' ty (0, 0)) ∧ cs'.toList = putL cs.toList k us
  | [], _, _, cs, _, h => ⟨cs, h, rfl⟩
  | u :: us, k, w, cs, ty, h => by
    have h1 : (w.setCell ⟨g, k, none⟩ u).heap[g]? = some (.cells (cs.setIfInBounds k u) ty (0, 0)) := heap_setCell_same w g k cs ty u h
    obtain ⟨cs', h2, h3⟩ := heap_setCells_same g us (k + 1) _ _ ty h1
    exact ⟨cs', by rw [World.setCells]; exact h2, by rw [h3, putL]; simp⟩
theorem Keep.setCells {X : Nat → Prop} {w : World} {g : Nat} (ha : w.heap.size ≤ g ∨ X g) : ∀ (us : List Value) (k : Nat) (w1 : World), Keep X w w1 → Keep X w (w1.setCells g k us)
  | [], _, _, h => h
  | u :: us, k, w1, h => Keep.setCells ha us (k + 1) _ (h.setCell (a := ⟨g, k, none⟩) ha u)
section
variable {P : Program} {X : XF} {w0 w : World} {σ : St} {a : Act} {μ : LMap}
theorem blk_setB (σ : St) (id : Nat) (b : LB) (k : Nat) : (σ.setB id b).blk k = if k = id then some b else σ.blk k := by
  unfold St.setB St.blk
  by_cases e : k = id
  · subst e; rw [look_cons_eq, if_pos rfl]
  · rw [look_cons_ne e, if_neg e]
theorem SimM.write (h : SimM X w0 σ a w μ) {id g : Nat} {l : LI} (hm : μ.m id = some l) (hg : l.block = some g) {k : Nat} {us : List Value} {b' : LB} (hb : BlkOK w0 (w.setCells g k us) μ id b') (hlat : Later w μ (w.setCells g k us) μ → True) :
    SimM X w0 (σ.setB id b') a (w.setCells g k us) μ := by
  have hlater : Later w μ (w.setCells g k us) μ :=
    ⟨fun ad u hc ho => ⟨by
      have hne : ad.block ≠ g := fun e => ho (.inr ⟨id, l, hm, by rw [hg, e]⟩)
      rw [World.cell?_of_block (heap_setCells_other g us k w ad.block hne)]
      exact hc, ho⟩, fun _ _ h => h, fun _ z k h => ⟨z, k, h, Nat.le_refl _, fun _ => rfl⟩, fun gm es c hgm ho => ⟨(heap_setCells_other g _ _ w gm (fun e => ho (.inr ⟨id, _, hm, by rw [hg, e]⟩))).trans hgm, ho⟩⟩
  refine ⟨h.nt, h.defers, Keep.setCells (h.fresh id l g hm hg).2 us k w h.keep, h.F, h.hF, h.hX, h.fr.later hlater, ?_, ?_, ?_, h.apart, ?_⟩
  · intro t p hp
    obtain ⟨y, hy, r⟩ := h.env t p hp
    exact ⟨y, hy, Rep.later hlater p y r⟩
  · intro j bk hj
    rw [blk_setB] at hj
    by_cases e : j = id
    · subst e
      rw [if_pos rfl] at hj
      injection hj with hj
      subst hj
      exact hb
    · rw [if_neg e] at hj
      exact (h.blk j bk hj).later hlater (fun _ h => h) fun l' g' hl' hg' => heap_setCells_other g us k w g' (fun e' => e (h.apart j id _ _ g hl' hm (by rw [← e']; exact hg') hg))
  · intro j l' hj
    rw [blk_setB]
    by_cases e : j = id
    · exact ⟨b', by rw [if_pos e]⟩
    · rw [if_neg e]; exact h.dom j l' hj
  · intro j l' g' hj hg'
    rw [heap_setCells_size]
    exact h.fresh j l' g' hj hg'
theorem run_storeVar {t : TypeId} {ag : Bool} {n g k : Nat} {v : Value} {cs : Array Value} {ty : TypeId} (ht : tyB P t = some (ag, n)) (hv : v.cells.size = n) (hg : w.heap[g]? = some (.cells cs ty (0, 0))) (hk : k + n ≤ cs.size) (h1 : ∀ u ∈ v.cells.toList, u.oneCell' = true) :
    (storeVar t ⟨g, k, none⟩ v).run P w = .ok () (w.setCells g k v.cells.toList) := by
  have hst := run_storeCells_cells (P := P) g k v.cells.toList 0 w
    (fun j hj => by
      rw [Nat.add_zero, cell_of_row w g (k + j) cs ty _ hg]
      rw [Array.length_toList] at hj
      rw [Array.getElem?_eq_getElem (by omega)]
      rfl)
    (fun j hj => by
      unfold World.frozen?
      rw [Nat.add_zero]
      simp only [hg]
      simp) h1
  rw [Nat.add_zero] at hst
  simp [storeVar, run_size ht, hv, hst]
end
section
variable {P : Program} {σ : St} {dst : Option Tmp} {ty : TypeId} {pos : String} {after : Array Edge} {guard : Option (Nat × Bool)}
theorem eff_store_lp {t : TypeId} {x v : Operand} {id k n : Nat} {ag : Bool} {cells : List PV} {p : PV} [ht : TySz P t ag n] (hx : σ.ev x = some (.lp id k) := by rfl) (hb : σ.blk id = some (.box cells) := by rfl) (hv : σ.ev v = some p := by rfl) (hl : p.lies = true := by rfl) (hn : (Nat.beq p.cells.length n && Nat.ble (k + n) cells.length) = true := by rfl) :
    OpEff P ⟨none, .store t x v, ty, pos, after, guard⟩ σ (σ.setB id (.box (putL cells k p.cells))) := by
  refine ⟨fun X w0 a w μ K Q s hK => ?_⟩
  rw [Bool.and_eq_true] at hn
  have n1 := Nat.eq_of_beq_eq_true hn.1
  have n2 := hn.2
  rw [Nat.ble_eq] at n2
  have h1 := eval_tmp s hx
  have h2 := eval_tmp s hv
  obtain ⟨q1, q2⟩ := h2.lies hl
  obtain ⟨g, cs, bt, hm, hg, r, h3⟩ := s.blk id _ hb
  simp only [Rep] at h1
  obtain ⟨g', hm', e⟩ := h1
  rw [hm] at hm'
  injection hm' with hm'
  injection hm' with hm'
  subst hm'
  have hsz : (a.eval v).cells.size = n := by rw [← Array.length_toList, q1.length, n1]
  have hlen : cs.size = cells.length := by rw [← Array.length_toList, r.length]
  have hrun := run_storeVar (P := P) (w := w) (k := k) ht.h hsz hg (by omega) q2
  obtain ⟨cs', g1, g2⟩ := heap_setCells_same g (a.eval v).cells.toList k w cs bt hg
  have hlater : Later w μ (w.setCells g k (a.eval v).cells.toList) μ :=
    ⟨fun ad u hc ho => ⟨by
      have hne : ad.block ≠ g := fun e => ho (.inr ⟨id, _, hm, by rw [e]; rfl⟩)
      rw [World.cell?_of_block (heap_setCells_other g _ k w ad.block hne)]
      exact hc, ho⟩, fun _ _ h => h, fun _ z k h => ⟨z, k, h, Nat.le_refl _, fun _ => rfl⟩, fun gm es c hgm ho => ⟨(heap_setCells_other g _ _ w gm (fun e => ho (.inr ⟨id, _, hm, by rw [e]; rfl⟩))).trans hgm, ho⟩⟩
  have hbk : BlkOK w0 (w.setCells g k (a.eval v).cells.toList) μ id (.box (putL cells k p.cells)) :=
    ⟨g, cs', bt, hm, g1, by rw [g2]; exact RepL.later hlater _ _ (RepL.puts q1 k r), by rw [g2]; exact putL_mem _ _ _ q2 h3⟩
  unfold Oper.wp
  have he : (execOp a.eval ⟨none, .store t x v, ty, pos, after, guard⟩).run P w = .ok .skip (w.setCells g k (a.eval v).cells.toList) := by
    simp [execOp, e, Instr.storeAt, Instr.sureAddr, hrun]
  rw [he]
  exact hK _ _ μ (s.write hm rfl hbk (fun _ => trivial))
theorem flatten_put {sz : Nat} : ∀ {xs : List (List PV)}, (∀ e ∈ xs, e.length = sz) → ∀ (i : Nat) (e : List PV), xs[i]? = some e → ∀ (ps : List PV) (j : Nat), j + ps.length ≤ sz → (xs.set i (putL e j ps)).flatten = putL xs.flatten (i * sz + j) ps
  | [], _, _, _, h, _, _, _ => by simp at h
  | x :: xs, hl, 0, e, h, ps, j, hj => by
    simp at h
    subst h
    have hx := hl x (List.mem_cons_self ..)
    rw [List.set_cons_zero, List.flatten_cons, List.flatten_cons, Nat.zero_mul, Nat.zero_add]
    have gen : ∀ (ps x y : List PV) (j : Nat), j + ps.length ≤ x.length → putL x j ps ++ y = putL (x ++ y) j ps := by
      intro ps
      induction ps with
      | nil => intro x y j _; rfl
      | cons p ps ih =>
        intro x y j hj
        simp only [List.length_cons] at hj
        rw [putL, putL, ih _ _ _ (by rw [List.length_set]; omega), List.set_append_left _ _ (by omega)]
    exact gen ps x _ j (by omega)
  | x :: xs, hl, i + 1, e, h, ps, j, hj => by
    have hx := hl x (List.mem_cons_self ..)
    have ih := flatten_put (fun e he => hl e (List.mem_cons_of_mem _ he)) i e (by simpa using h) ps j hj
    rw [List.set_cons_succ, List.flatten_cons, List.flatten_cons, ih]
    have gen : ∀ (ps x y : List PV) (j : Nat), x ++ putL y j ps = putL (x ++ y) (x.length + j) ps := by
      intro ps
      induction ps with
      | nil => intro x y j; rfl
      | cons p ps ih =>
        intro x y j
        rw [putL, putL, ih, List.set_append_right _ _ (by omega), show x.length + j - x.length = j from by omega]
        rfl
    rw [gen, hx, show sz + (i * sz + j) = (i + 1) * sz + j from by rw [Nat.succ_mul]; omega]
theorem putAll_eq : ∀ (us vs : List Value) (o : Nat), putAll vs o us = putL vs o us
  | [], _, _ => rfl
  | u :: us, vs, o => by rw [putAll, putL, putAll_eq]
theorem eff_store_rp {t : TypeId} {x v : Operand} {rt id ver sz i j n : Nat} {ag : Bool} {xs : List (List PV)} {e : List PV} {p : PV} [ht : TySz P t ag n] (hx : σ.ev x = some (.rp id ver sz i j)) (hb : σ.blk id = some (.row rt sz ver xs)) (he : xs[i]? = some e) (hv : σ.ev v = some p) (hl : p.lies = true) (hn : Nat.beq p.cells.length n = true) (hj : j + n ≤ sz) :
    OpEff P ⟨none, .store t x v, ty, pos, after, guard⟩ σ (σ.setB id (.row rt sz ver (xs.set i (putL e j p.cells)))) := by
  refine ⟨fun X w0 a w μ K Q s hK => ?_⟩
  have n1 := Nat.eq_of_beq_eq_true hn
  have h1 := eval_tmp s hx
  have h2 := eval_tmp s hv
  obtain ⟨q1, q2⟩ := h2.lies hl
  obtain ⟨g, m, c, vs, e1, hm, hown, r, hlen, h3⟩ := (row_parts s hb (y := a.eval x)).2 i j rfl h1
  have hil : i < xs.length := (List.getElem?_eq_some_iff.1 he).1
  have hmn : m = xs.length := by
    rcases hown.2 with ⟨hv, _⟩ | ⟨g', cap, cur, hv, _⟩
    · cases hv
    · injection hv with _ e2 _
  subst hmn
  have hblock : ∃ cur, w.heap[g]? = some (.cells cur rt (0, 0)) ∧ xs.length * sz ≤ cur.size := by
    rcases hown.2 with ⟨hv, _⟩ | ⟨g', cap, cur, hv, _, hh, hnc, _, hs, _⟩
    · cases hv
    · injection hv with e1 _ e2
      injection e1 with e1
      injection e1 with e1
      subst e1
      exact ⟨cur, hh, by rw [hs]; exact Nat.mul_le_mul_right _ hnc⟩
  obtain ⟨cur, hcur, hcs⟩ := hblock
  have hsz : (a.eval v).cells.size = n := by rw [← Array.length_toList, q1.length, n1]
  have hle : (i + 1) * sz ≤ xs.length * sz := Nat.mul_le_mul_right _ hil
  rw [Nat.succ_mul] at hle
  have hrun := run_storeVar (P := P) (w := w) (k := i * sz + j) ht.h hsz hcur (by omega) q2
  have hlater : Later w μ (w.setCells g (i * sz + j) (a.eval v).cells.toList) μ :=
    ⟨fun ad u hc ho => ⟨by
      have hne : ad.block ≠ g := fun e => ho (.inr ⟨id, _, hm, by rw [e]; rfl⟩)
      rw [World.cell?_of_block (heap_setCells_other g _ _ w ad.block hne)]
      exact hc, ho⟩, fun _ _ h => h, fun _ z k h => ⟨z, k, h, Nat.le_refl _, fun _ => rfl⟩, fun gm es c hgm ho => ⟨(heap_setCells_other g _ _ w gm (fun e => ho (.inr ⟨id, _, hm, by rw [e]; rfl⟩))).trans hgm, ho⟩⟩
  have hbk : BlkOK w0 (w.setCells g (i * sz + j) (a.eval v).cells.toList) μ id (.row rt sz ver (xs.set i (putL e j p.cells))) := by
    refine ⟨_, putAll vs (i * sz + j) (a.eval v).cells.toList, hm, ?_, ?_, ?_, ?_⟩
    · rw [List.length_set]
      exact own_put _ _ _ _ hown
    · rw [flatten_put hlen i e he _ j (by omega), putAll_eq]
      exact RepL.later hlater _ _ (RepL.puts q1 _ r)
    · intro e' he'
      rcases List.mem_or_eq_of_mem_set he' with h | rfl
      · exact hlen e' h
      · rw [putL_length]; exact hlen e (List.mem_of_getElem? he)
    · rw [putAll_eq]; exact putL_mem _ _ _ q2 h3
  unfold Oper.wp
  have he' : (execOp a.eval ⟨none, .store t x v, ty, pos, after, guard⟩).run P w = .ok .skip (w.setCells g (i * sz + j) (a.eval v).cells.toList) := by
    simp [execOp, e1, Instr.storeAt, Instr.sureAddr, hrun]
  rw [he']
  exact hK _ _ μ (s.write hm rfl hbk (fun _ => trivial))
theorem RepR.row {w : World} {μ : LMap} {A : Option Addr} {sz : Nat} {ys : List (List PV)} (r : RepR w μ A sz ys 0) : ∃ us, RepL w μ ys.flatten us ∧ (∀ u ∈ us, u.oneCell' = true) ∧ Row w A us ∧ us.length = ys.length * sz ∧ ∀ e ∈ ys, e.length = sz := by
  obtain ⟨h1, h2⟩ := r.flat
  obtain ⟨us, q1, q2, q3⟩ := h1.row
  refine ⟨us, q1, q2, fun j u hu => ?_, by rw [q1.length, h2], ?_⟩
  · obtain ⟨ad, e, hc⟩ := q3 j u hu
    exact ⟨ad, e, by simpa using hc⟩
  · intro e he
    obtain ⟨i, hi⟩ := List.getElem?_of_mem he
    exact (r.get i e hi).1
theorem SimM.regrow {X : XF} {w0 w w' : World} {a : Act} {μ : LMap} (s : SimM X w0 σ a w μ) {id ver sz : Nat} {rt : TypeId} {xs xs' : List (List PV)} {v v' : Value} {us : List Value} (hm : μ.m id = some (.row v ver)) (_hb : σ.blk id = some (.row rt sz ver xs)) (hg : w.grownBy w' v.ownBlock) (hat : v'.ownBlock = v.ownBlock ∨ v'.ownBlock = some w.heap.size)
    (hown : w'.ownsRow w0.heap.size rt sz v' xs'.length us) (hr : Later w μ w' (μ.set id (.row v' (ver + 1))) → RepL w' (μ.set id (.row v' (ver + 1))) xs'.flatten us) (hl : ∀ e ∈ xs', e.length = sz) (h1 : ∀ u ∈ us, u.oneCell' = true) :
    Later w μ w' (μ.set id (.row v' (ver + 1))) ∧ SimM X w0 (σ.setB id (.row rt sz (ver + 1) xs')) a w' (μ.set id (.row v' (ver + 1))) := by
  have hblk : ∀ k, k < w.heap.size → some k ≠ v.ownBlock → w'.heap[k]? = w.heap[k]? := fun k hk hne => hg.block k hk hne
  have hlater : Later w μ w' (μ.set id (.row v' (ver + 1))) := by
    refine ⟨fun ad u hc ho => ⟨?_, fun hw => ?_⟩, fun k g hk => ?_, fun k z n hk => ?_, fun gm es c hgm ho => ⟨?_, fun hw => ?_⟩⟩
    · rw [World.cell?_of_block (hblk ad.block (World.block_lt_of_cell? _ _ hc) (fun e => ho (.inr ⟨id, _, hm, e.symm⟩)))]
      exact hc
    · rcases LMap.set_owns hw with hw | hw
      · exact ho hw
      · have hw' : v'.ownBlock = some ad.block := hw
        rcases hat with h | h
        · exact ho (.inr ⟨id, _, hm, h.symm.trans hw'⟩)
        · rw [h] at hw'
          injection hw' with hw'
          have := World.block_lt_of_cell? _ _ hc
          omega
    · rw [LMap.set_ne _ _ (fun e => by subst e; rw [hm] at hk; cases hk)]; exact hk
    · by_cases e : k = id
      · subst e
        rw [hm] at hk
        injection hk with hk
        injection hk with e1 e2
        subst e1 e2
        exact ⟨v', ver + 1, LMap.set_eq _ _ _, by omega, fun h => by omega⟩
      · exact ⟨z, n, by rw [LMap.set_ne _ _ e]; exact hk, Nat.le_refl _, fun _ => rfl⟩
    · exact (hblk gm (Array.getElem?_eq_some_iff.1 hgm).1 (fun e => ho (.inr ⟨id, _, hm, e.symm⟩))).trans hgm
    · rcases LMap.set_owns hw with hw | hw
      · exact ho hw
      · have hw' : v'.ownBlock = some gm := hw
        rcases hat with h | h
        · exact ho (.inr ⟨id, _, hm, h.symm.trans hw'⟩)
        · rw [h] at hw'
          injection hw' with hw'
          have := (Array.getElem?_eq_some_iff.1 hgm).1
          omega
  have hbl : ∀ g, (LI.row v' (ver + 1)).block = some g → w0.heap.size ≤ g ∧ g < w'.heap.size := fun g hg' => hown.lt g hg'
  refine ⟨hlater, s.nt, s.defers, ?_, s.F, s.hF, s.hX, s.fr.later hlater, ?_, ?_, ?_, ?_, ?_⟩
  · refine ⟨hg.os.trans s.keep.os, hg.tape.trans s.keep.tape, hg.output.trans s.keep.output, Nat.le_trans s.keep.size hg.size, fun k hk hx => ?_⟩
    rw [hblk k (Nat.lt_of_lt_of_le hk s.keep.size) (fun e => by
      have := (s.fresh id _ k hm e.symm).2
      rcases this with h | h
      · omega
      · exact hx h)]
    exact s.keep.block k hk hx
  · intro t p hp
    obtain ⟨y, hy, r⟩ := s.env t p hp
    exact ⟨y, hy, Rep.later hlater p y r⟩
  · intro k bk hk
    rw [blk_setB] at hk
    by_cases e : k = id
    · subst e
      rw [if_pos rfl] at hk
      injection hk with hk
      subst hk
      exact ⟨v', us, LMap.set_eq _ _ _, hown, hr hlater, hl, h1⟩
    · rw [if_neg e] at hk
      exact (s.blk k bk hk).later hlater (fun l hl' => by rw [LMap.set_ne _ _ e]; exact hl') fun l g' hl' hg' => hblk g' (s.fresh k l g' hl' hg').1 (fun e' => e (s.apart k id _ _ g' hl' hm hg' e'.symm))
  · intro k l' hk
    rw [blk_setB]
    by_cases e : k = id
    · exact ⟨_, by rw [if_pos e]⟩
    · rw [LMap.set_ne _ _ e] at hk
      rw [if_neg e]
      exact s.dom k l' hk
  · have key : ∀ k l g, k ≠ id → μ.m k = some l → l.block = some g → v'.ownBlock = some g → False := by
      intro k l g hne hk hg1 hg2
      rcases hat with h | h
      · exact hne (s.apart k id _ _ g hk hm hg1 (h.symm.trans hg2))
      · rw [h] at hg2
        injection hg2 with hg2
        have := (s.fresh k l g hk hg1).1
        omega
    intro k k' l1 l2 g h1 h2 g1 g2
    by_cases e1 : k = id
    · by_cases e2 : k' = id
      · rw [e1, e2]
      · subst e1
        rw [LMap.set_eq] at h1
        injection h1 with h1
        subst h1
        rw [LMap.set_ne _ _ e2] at h2
        exact (key k' l2 g e2 h2 g2 g1).elim
    · rw [LMap.set_ne _ _ e1] at h1
      by_cases e2 : k' = id
      · subst e2
        rw [LMap.set_eq] at h2
        injection h2 with h2
        subst h2
        exact (key k l1 g e1 h1 g1 g2).elim
      · rw [LMap.set_ne _ _ e2] at h2
        exact s.apart k k' l1 l2 g h1 h2 g1 g2
  · intro k l' g hk hg'
    by_cases e : k = id
    · subst e
      rw [LMap.set_eq] at hk
      injection hk with hk
      subst hk
      obtain ⟨h3, h4⟩ := hbl g hg'
      exact ⟨h4, .inl h3⟩
    · rw [LMap.set_ne _ _ e] at hk
      obtain ⟨h3, h4⟩ := s.fresh k l' g hk hg'
      exact ⟨Nat.lt_of_lt_of_le h3 hg.size, h4⟩
theorem eff_append {d t e sz bytes id ver : Nat} {z : Value} {s x : Operand} {xs ys : List (List PV)} [h : SliceT P t e sz] [hz : ElemT P e z sz bytes] (hs : σ.ev s = some (.row id ver)) (hb : σ.blk id = some (.row e sz ver xs)) (hx : σ.ev x = some (.sl sz ys)) (hzs : Nat.beq z.cells.size sz = true) (hsz : sz ≠ 0)
    (h63 : xs.length + ys.length ≤ maxLen) (hby : (xs.length + ys.length) * bytes ≤ 140737488355328) (hd : inB σ (some d) = true) :
    OpEff P ⟨some d, .call { callee := .builtin .append, args := #[s, x], argTypes := #[t, t] }, ty, pos, after, guard⟩ σ ((σ.setB id (.row e sz (ver + 1) (xs ++ ys))).put (some d) (.row id (ver + 1))) := by
  refine ⟨fun X w0 a w μ K Q sm hK => ?_⟩
  obtain ⟨i, hu, hi, hsi⟩ := slice_parts h.h
  obtain ⟨i', hi', hz0, hz1, hz2⟩ := info_parts hz.h
  rw [hi] at hi'
  injection hi' with hi'
  subst hi'
  have h1 := eval_tmp sm hs
  have h2 := eval_tmp sm hx
  obtain ⟨vs, hm, hown, r, hl, h3⟩ := (row_parts sm hb (p := .row id ver) (y := a.eval s)).1 rfl h1
  simp only [Rep] at h2
  obtain ⟨A, c, e2, hyc, hcm, ry⟩ := h2
  obtain ⟨us, q1, q2, q3, q4, q5⟩ := ry.row
  refine wp_append_row (P := P) w s x t rfl w0.heap.size e i z sz bytes hu hi hz0 hz1 hz2 (Nat.eq_of_beq_eq_true hzs) (by omega) _ xs.length vs rfl hown A ys.length c us e2 q4 q3 q2 h63 hby sm.keep.size ?_
  intro v' w' hown' hgrow hat
  have hown'' : w'.ownsRow w0.heap.size e sz v' (xs ++ ys).length (vs ++ us) := by rw [List.length_append]; exact hown'
  obtain ⟨hlat, sm'⟩ := sm.regrow hm hb hgrow hat hown'' (fun hlat => by
    rw [List.flatten_append]
    exact (RepL.later hlat _ _ r).append (RepL.later hlat _ _ (RepL.opens _ _ q1))) (fun e' he' => by
      rcases List.mem_append.1 he' with h | h
      · exact hl e' h
      · exact q5 e' h) (fun u hu => by
      rcases List.mem_append.1 hu with h | h
      · exact h3 u h
      · exact q2 u h)
  refine hK _ _ _ (sm'.put (d := some d) hd ?_)
  simp only [Rep]
  refine ⟨v', ver + 1, LMap.set_eq _ _ _, Nat.le_refl _, ?_, fun _ => rfl⟩
  rcases hown'.2 with ⟨hv, _⟩ | ⟨_, _, _, hv, _⟩ <;> rw [hv] <;> rfl
end
end Go.Proofs.YtbjepdfnmbdplaaGreat
namespace Go.Proofs.YtbjepdfnmbdplaaGreat
set_option linter.unusedSimpArgs false
set_option linter.unusedVariables false
set_option linter.unusedSectionVars false
open Go.RowKit
mutual
inductive Sub : PV → PV → Prop
  | refl (p : PV) : Sub p p
  | nil (sz : Nat) : Sub (.v (.slice none 0 0)) (.sl sz [])
  | any (p : PV) : Sub p .any
  | agg {cs ds : List PV} : SubL cs ds → Sub (.agg cs) (.agg ds)
  | tup {cs ds : List PV} : SubL cs ds → Sub (.tup cs) (.tup ds)
inductive SubL : List PV → List PV → Prop
  | nil : SubL [] []
  | cons {c d : PV} {cs ds : List PV} : Sub c d → SubL cs ds → SubL (c :: cs) (d :: ds)
end
mutual
theorem Sub.rep {w : World} {μ : LMap} : ∀ {p q : PV} (_ : Sub p q) {y : Value}, Rep w μ p y → Rep w μ q y
  | _, _, .refl _, _, r => r
  | _, _, .nil sz, _, r => by
    simp only [Rep] at r ⊢
    subst r
    exact ⟨none, 0, rfl, Nat.le_refl _, Nat.zero_le _, by simp [RepR]⟩
  | _, _, .any _, _, _ => by simp only [Rep]
  | _, _, .agg h, _, r => by
    simp only [Rep] at r ⊢
    obtain ⟨vs, e, r, h1⟩ := r
    exact ⟨vs, e, SubL.rep h r, h1⟩
  | _, _, .tup h, _, r => by
    simp only [Rep] at r ⊢
    obtain ⟨vs, e, r⟩ := r
    exact ⟨vs, e, SubL.rep h r⟩
theorem SubL.rep {w : World} {μ : LMap} : ∀ {ps qs : List PV} (_ : SubL ps qs) {vs : List Value}, RepL w μ ps vs → RepL w μ qs vs
  | _, _, .nil, _, r => r
  | _, _, .cons h hs, _, r => by
    simp only [RepL] at r ⊢
    obtain ⟨u, us, e, r1, r2⟩ := r
    exact ⟨u, us, e, Sub.rep h r1, SubL.rep hs r2⟩
end
def RepRes (w w' : World) (F : Nat → Prop) : PV → Value → Prop
  | .own ty sz xs, y => ∃ vs, w'.ownsRow w.heap.size ty sz y xs.length vs ∧ RepL w' (LMap.none (fun g => F g ∨ y.ownBlock = some g)) xs.flatten vs ∧ (∀ e ∈ xs, e.length = sz) ∧ ∀ u ∈ vs, u.oneCell' = true
  | p, y => Rep w' (LMap.none F) p y
structure Spec (P : Program) (f : FuncId) (args : List PV) (r : PV) : Prop where
  enters : Enters P f
  run : ∀ (F : Nat → Prop) (w : World) (vs : List Value), (∀ g, F g → g < w.heap.size) → RepL w (LMap.none F) args vs → Calls P f vs.toArray w fun e w' => ∃ y, e = .returned y ∧ Below w.heap.size w w' ∧ RepRes w w' F r y
section
variable {P : Program} {X : XF} {w0 w : World} {σ : St} {a : Act} {μ : LMap}
theorem Later.fewer {w : World} {F G : Nat → Prop} (h : ∀ g, F g → G g) : Later w (LMap.none G) w (LMap.none F) :=
  ⟨fun a u hc ho => ⟨hc, fun hf => ho (.inl (h _ (LMap.none_owns hf)))⟩, fun _ _ h => (by cases h), fun _ _ _ h => (by cases h), fun g es c hg ho => ⟨hg, fun hf => ho (.inl (h _ (LMap.none_owns hf)))⟩⟩
theorem SimM.owned_lt (s : SimM X w0 σ a w μ) (g : Nat) (h : μ.owns g) : g < w.heap.size := by
  rcases h with h | ⟨id, l, hl, hb⟩
  · rw [s.F] at h
    exact Nat.lt_of_lt_of_le (s.hF g h) s.keep.size
  · exact (s.fresh id l g hl hb).1
def PV.noOwn : PV → Bool
  | .own _ _ _ => false
  | _ => true
theorem RepRes.plain {w w' : World} {F : Nat → Prop} {r : PV} {y : Value} (h : RepRes w w' F r y) (hr : r.noOwn = true) : Rep w' (LMap.none F) r y := by
  cases r <;> first | exact h | cases hr
end
section
variable {P : Program} {σ : St} {dst : Option Tmp} {ty : TypeId} {pos : String} {after : Array Edge} {guard : Option (Nat × Bool)} {ats : Array TypeId}
theorem run_call {X : XF} {w0 w : World} {σ' : St} {a : Act} {μ : LMap} (s : SimM X w0 σ' a w μ) {c : Operand} {g : FuncId} {first caps ps : List PV} {xs : List Operand} (hc : σ'.ev c = some (.fn (.func g) first caps)) (hx : xs.mapM σ'.ev = some ps) (hent : Enters P g) :
    ∃ vs : List Value, RepL w μ (first ++ ps ++ caps) vs ∧ (execOp a.eval ⟨dst, .call { callee := .value c, args := xs.toArray, argTypes := ats }, ty, pos, after, guard⟩).run P w = .ok (.enter g vs.toArray) w := by
  have h1 := eval_tmp s hc
  simp only [Rep] at h1
  obtain ⟨us, ks, e, r1, r2⟩ := h1
  have r3 := eval_list s hx
  refine ⟨us ++ xs.map a.eval ++ ks, (r1.append r3).append r2, ?_⟩
  simp only [execOp, resolve, Sem.run_bind, e, Deferred.ofValue, Sem.run_pure, Result.andThen_ok, invoke, hent]
  simp [hent (us ++ xs.map a.eval ++ ks).toArray w]
  have := hent (us ++ (xs.map a.eval ++ ks)).toArray w
  simpa using this
theorem call_upon {X : XF} {w0 w : World} {σ' : St} {a : Act} {μ : LMap} (s : SimM X w0 σ' a w μ) {g : FuncId} {ps : List PV} {r : PV} {vs : List Value} (hs : Spec P g ps r) (hcl : closedL ps = true) (hv : RepL w μ ps vs) {o : Oper} (hrun : (execOp a.eval o).run P w = .ok (.enter g vs.toArray) w) {K : Act → World → Prop} {Q : Exit → Act → World → Prop}
    (hK : ∀ y w', Below w.heap.size w w' → RepRes w w' μ.owns r y → K (a.put o.dst y) w') : o.wp P a w K Q := by
  unfold Oper.wp
  rw [hrun]
  have hc := hs.run μ.owns w vs (fun g hg => s.owned_lt g hg) (RepL.shuts ps vs hcl hv)
  refine hc.mono ?_
  rintro e w' ⟨y, rfl, hb, hr⟩
  exact hK y w' hb hr
theorem ok_call {c : Operand} {g : FuncId} {first caps ps : List PV} {xs : List Operand} {r : PV} (hc : σ.ev c = some (.fn (.func g) first caps)) (hx : xs.mapM σ.ev = some ps) (hs : Spec P g (first ++ ps ++ caps) r) (hcl : closedL (first ++ ps ++ caps) = true) (hr : r.noOwn = true) (hd : inB σ dst = true) :
    OpOK P ⟨dst, .call { callee := .value c, args := xs.toArray, argTypes := ats }, ty, pos, after, guard⟩ σ r [] := by
  refine ⟨fun σ' hag _ => ⟨fun X w0 a w μ K Q s hK => ?_⟩⟩
  have hc' : σ'.ev c = some (.fn (.func g) first caps) := hag.ev c (by simp [Op.operands, Call.operands]) _ hc
  have hx' : xs.mapM σ'.ev = some ps := ev_agree (fun x hxm q hq => hag.ev x (by simp [Op.operands, Call.operands, hxm]) q hq) hx
  obtain ⟨vs, hv, hrun⟩ := run_call (dst := dst) (ty := ty) (pos := pos) (after := after) (guard := guard) (ats := ats) s hc' hx' hs.enters
  refine call_upon s hs hcl hv hrun (fun y w' hb hrr => ?_)
  exact hK _ _ μ ((s.below hb).put (SimM.nt_inB hag hd) (Rep.opens (μ := μ) r y (hrr.plain hr)))
theorem ok_call_own {d : Nat} {c : Operand} {g : FuncId} {first caps ps : List PV} {xs : List Operand} {rt sz : Nat} {ys : List (List PV)} (hc : σ.ev c = some (.fn (.func g) first caps)) (hx : xs.mapM σ.ev = some ps) (hs : Spec P g (first ++ ps ++ caps) (.own rt sz ys)) (hcl : closedL (first ++ ps ++ caps) = true) (hd : inB σ (some d) = true) :
    OpOK P ⟨some d, .call { callee := .value c, args := xs.toArray, argTypes := ats }, ty, pos, after, guard⟩ σ (.row d 0) [(d, .row rt sz 0 ys)] := by
  refine ⟨fun σ' hag hn => ⟨fun X w0 a w μ K Q s hK => ?_⟩⟩
  have hc' : σ'.ev c = some (.fn (.func g) first caps) := hag.ev c (by simp [Op.operands, Call.operands]) _ hc
  have hx' : xs.mapM σ'.ev = some ps := ev_agree (fun x hxm q hq => hag.ev x (by simp [Op.operands, Call.operands, hxm]) q hq) hx
  obtain ⟨vs, hv, hrun⟩ := run_call (dst := some d) (ty := ty) (pos := pos) (after := after) (guard := guard) (ats := ats) s hc' hx' hs.enters
  refine call_upon s hs hcl hv hrun (fun y w' hb hrr => ?_)
  obtain ⟨us, hown, r, hl, h1⟩ := hrr
  have hfree : σ'.blk d = none := hn d _ (look_cons_eq d _ [])
  have hm : μ.m d = none := by
    cases e : μ.m d with
    | none => rfl
    | some l' => obtain ⟨b', hb'⟩ := s.dom d l' e; rw [hfree] at hb'; cases hb'
  have hlt : ∀ k, (LI.row y 0).block = some k → w.heap.size ≤ k ∧ k < w'.heap.size := fun k hk => hown.lt k hk
  have hr' : RepL w' (μ.set d (.row y 0)) ys.flatten us := by
    refine RepL.opens _ _ (RepL.later (Later.fewer (fun k hk => ?_)) _ _ r)
    rcases LMap.set_owns hk with hk | hk
    · exact .inl hk
    · exact .inr hk
  have hown' : w'.ownsRow w0.heap.size rt sz y ys.length us := by
    obtain ⟨g1, g2⟩ := hown
    refine ⟨g1, ?_⟩
    rcases g2 with g2 | ⟨k, cap, cur, hv, hbg, rest⟩
    · exact .inl g2
    · exact .inr ⟨k, cap, cur, hv, Nat.le_trans s.keep.size hbg, rest⟩
  refine hK _ _ _ ((s.new (bk := .row rt sz 0 ys) hb hfree hlt ⟨y, us, LMap.set_eq _ _ _, hown', hr', hl, h1⟩).put (d := some d) (SimM.nt_inB hag hd) ?_)
  simp only [Rep]
  refine ⟨y, 0, LMap.set_eq _ _ _, Nat.le_refl _, ?_, fun _ => rfl⟩
  rcases hown.2 with ⟨hv, _⟩ | ⟨_, _, _, hv, _⟩ <;> rw [hv] <;> rfl
def envOf : Nat → List PV → List (Nat × PV)
  | _, [] => []
  | i, p :: ps => (i, p) :: envOf (i + 1) ps
theorem look_envOf : ∀ (ps : List PV) (i t : Nat), look t (envOf i ps) = if i ≤ t then ps[t - i]? else none
  | [], i, t => by simp [envOf, look]
  | p :: ps, i, t => by
    rw [envOf]
    by_cases e : t = i
    · subst e; rw [look_cons_eq, if_pos (Nat.le_refl _), Nat.sub_self]; rfl
    · rw [look_cons_ne e, look_envOf ps (i + 1) t]
      by_cases h : i + 1 ≤ t
      · rw [if_pos h, if_pos (by omega), show t - i = (t - (i + 1)) + 1 from by omega]; rfl
      · rw [if_neg h, if_neg (by omega)]
inductive RV (P : Program) (σ : St) : ResultVar → PV → Prop
  | tmp {t : Nat} {p : PV} : σ.get t = some p → RV P σ (.tmp t) p
  | cell1 {t id ty : Nat} {p : PV} [TySz P ty false 1] : σ.get t = some (.lp id 0) → σ.blk id = some (.box [p]) → RV P σ (.cell t ty) p
  | cellN {t id ty n : Nat} {cells : List PV} [TySz P ty true n] : σ.get t = some (.lp id 0) → σ.blk id = some (.box cells) → Nat.beq cells.length n = true → RV P σ (.cell t ty) (.agg cells)
inductive RVs (P : Program) (σ : St) : List ResultVar → List PV → Prop
  | nil : RVs P σ [] []
  | cons {r : ResultVar} {p : PV} {rs : List ResultVar} {ps : List PV} : RV P σ r p → RVs P σ rs ps → RVs P σ (r :: rs) (p :: ps)
section
variable {X : XF} {w0 w : World} {a : Act} {μ : LMap}
theorem run_result (s : SimM X w0 σ a w μ) {r : ResultVar} {p : PV} (h : RV P σ r p) :
    ∃ y, (match r with | .tmp t => pure (a.tmps.getD t undef) | .cell at_ t => do loadVar t (← asAddr (a.tmps.getD at_ undef)) : Sem Value).run P w = .ok y w ∧ Rep w μ p y := by
  cases h with
  | @tmp t p hg =>
    obtain ⟨y, hy, r⟩ := s.env t p hg
    exact ⟨y, by simp [hy], r⟩
  | @cell1 t id ty p ht hg hb =>
    obtain ⟨y, hy, r⟩ := s.env t _ hg
    simp only [Rep] at r
    obtain ⟨g, hm, rfl⟩ := r
    obtain ⟨g', cs, bt, hm', hgc, rc, _⟩ := s.blk id _ hb
    rw [hm] at hm'
    injection hm' with hm'
    injection hm' with hm'
    subst hm'
    obtain ⟨u, hu, ru⟩ := rc.get 0 p rfl
    have hc : w.cell? ⟨g, 0, none⟩ = some u := by rw [cell_of_row w g 0 cs bt _ hgc]; simpa using hu
    exact ⟨u, by simp [hy, asAddr, run_loadVar1 ht.h hc], ru⟩
  | @cellN t id ty n cells ht hg hb hn =>
    obtain ⟨y, hy, r⟩ := s.env t _ hg
    simp only [Rep] at r
    obtain ⟨g, hm, rfl⟩ := r
    obtain ⟨g', cs, bt, hm', hgc, rc, h1⟩ := s.blk id _ hb
    rw [hm] at hm'
    injection hm' with hm'
    injection hm' with hm'
    subst hm'
    have hlen : cs.toList.length = n := by rw [rc.length]; exact Nat.eq_of_beq_eq_true hn
    have hld := run_loadVarN (P := P) ht.h hlen (w := w) (ad := ⟨g, 0, none⟩) (fun j u hu => by
      rw [add_lit, Nat.zero_add, cell_of_row w g j cs bt _ hgc]; simpa using hu)
    exact ⟨.agg cs.toList.toArray, by simp [hy, asAddr]; simpa using hld, cs.toList, rfl, rc, h1⟩
theorem run_resultList (s : SimM X w0 σ a w μ) : ∀ {rs : List ResultVar} {ps : List PV}, RVs P σ rs ps →
    ∃ ys, (rs.mapM fun r => (match r with | .tmp t => pure (a.tmps.getD t undef) | .cell at_ t => do loadVar t (← asAddr (a.tmps.getD at_ undef)) : Sem Value)).run P w = .ok ys w ∧ RepL w μ ps ys
  | _, _, .nil => ⟨[], rfl, rfl⟩
  | r :: rs, p :: ps, .cons h hs => by
    obtain ⟨y, hy, r1⟩ := run_result s h
    obtain ⟨ys, hys, r2⟩ := run_resultList s hs
    refine ⟨y :: ys, ?_, y, ys, rfl, r1, r2⟩
    rw [List.mapM_cons, Sem.run_bind, hy, Result.andThen_ok, Sem.run_bind, hys, Result.andThen_ok]
    rfl
def oneOr : List PV → PV
  | [p] => p
  | ps => .tup ps
theorem run_results (s : SimM X w0 σ a w μ) {fn : Func} {ps : List PV} (h : RVs P σ fn.results.toList ps) : ∃ y, (results fn a.tmps).run P w = .ok y w ∧ Rep w μ (oneOr ps) y := by
  obtain ⟨ys, hys, r⟩ := run_resultList s h
  have hm : (fn.results.mapM fun r => (match r with | .tmp t => pure (a.tmps.getD t undef) | .cell at_ t => do loadVar t (← asAddr (a.tmps.getD at_ undef)) : Sem Value)).run P w = .ok ys.toArray w := by
    rw [Array.mapM_eq_mapM_toList, Sem.run_map, hys]
    rfl
  have hr : (results fn a.tmps).run P w = .ok (if h : ys.toArray.size = 1 then ys.toArray[0] else .tuple ys.toArray) w := by
    unfold results
    rw [Sem.run_bind]
    erw [hm]
    rfl
  refine ⟨_, hr, ?_⟩
  match ps, ys, r with
  | [], ys, r => simp only [RepL] at r; subst r; exact ⟨[], rfl, rfl⟩
  | [p], ys, r =>
    simp only [RepL] at r
    obtain ⟨u, us, rfl, r1, rfl⟩ := r
    exact r1
  | p :: q :: ps, ys, r =>
    have hne : ¬ ys.toArray.size = 1 := by
      have hl := r.length
      simp only [List.size_toArray, hl]
      simp
    rw [dif_neg hne]
    exact ⟨ys, rfl, r⟩
end
mutual
inductive Fin' (σ : St) : PV → PV → Prop
  | sub {p q : PV} : p.closed = true → Sub p q → Fin' σ p q
  | row {id rt sz ver : Nat} {xs : List (List PV)} : σ.blk id = some (.row rt sz ver xs) → xs.all closedL = true → Fin' σ (.row id ver) (.sl sz xs)
  | rowF {id rt sz ver : Nat} {xs ys : List (List PV)} : σ.blk id = some (.row rt sz ver xs) → FinL σ xs.flatten ys.flatten → xs.length = ys.length → (∀ e ∈ ys, e.length = sz) → Fin' σ (.row id ver) (.sl sz ys)
  | rs {id rt sz ver off len : Nat} {xs : List (List PV)} : σ.blk id = some (.row rt sz ver xs) → xs.all closedL = true → off + len ≤ xs.length → xs ≠ [] → Fin' σ (.rs id ver sz off len) (.sl sz ((xs.drop off).take len))
  | agg {cs ds : List PV} : FinL σ cs ds → Fin' σ (.agg cs) (.agg ds)
  | tup {cs ds : List PV} : FinL σ cs ds → Fin' σ (.tup cs) (.tup ds)
inductive FinL (σ : St) : List PV → List PV → Prop
  | nil : FinL σ [] []
  | cons {c d : PV} {cs ds : List PV} : Fin' σ c d → FinL σ cs ds → FinL σ (c :: cs) (d :: ds)
end
theorem Fin'.vb {σ : St} {a b : Bool} (h : a = b) : Fin' σ (.v (.bool a)) (.v (.bool b)) := by subst h; exact .sub rfl (.refl _)
theorem Fin'.vi {σ : St} {k : IntKind} {a b : Int} (h : a = b) : Fin' σ (.v (.int k a)) (.v (.int k b)) := by subst h; exact .sub rfl (.refl _)
theorem closedL_append : ∀ {a b : List PV}, closedL a = true → closedL b = true → closedL (a ++ b) = true
  | [], _, _, h => h
  | c :: a, b, h1, h2 => by
    simp only [closedL, Bool.and_eq_true, List.cons_append] at h1 ⊢
    exact ⟨h1.1, closedL_append h1.2 h2⟩
theorem closedL_flatten : ∀ {xs : List (List PV)}, xs.all closedL = true → closedL xs.flatten = true
  | [], _ => rfl
  | e :: es, h => by
    rw [List.all_cons, Bool.and_eq_true] at h
    rw [List.flatten_cons]
    exact closedL_append h.1 (closedL_flatten h.2)
theorem all_map_closed {α : Type} {f : α → List PV} (h : ∀ x, closedL (f x) = true) (l : List α) : (l.map f).all closedL = true := by
  rw [List.all_eq_true]
  intro e he
  obtain ⟨x, _, rfl⟩ := List.mem_map.1 he
  exact h x
theorem drop_flatten {sz : Nat} : ∀ {xs : List (List PV)} (n : Nat), (∀ e ∈ xs, e.length = sz) → n ≤ xs.length → (xs.drop n).flatten = xs.flatten.drop (n * sz)
  | xs, 0, _, _ => by simp
  | [], n + 1, _, h => by simp at h
  | x :: xs, n + 1, h, hn => by
    rw [List.drop_succ_cons, List.flatten_cons, drop_flatten n (fun e he => h e (List.mem_cons_of_mem _ he)) (by simpa using hn), Nat.succ_mul, Nat.add_comm, ← List.drop_drop]
    congr 1
    rw [List.drop_append_of_le_length (by rw [h x (List.mem_cons_self ..)]; exact Nat.le_refl _), List.drop_of_length_le (by rw [h x (List.mem_cons_self ..)]; exact Nat.le_refl _)]
    rfl
theorem take_flatten {sz : Nat} : ∀ {xs : List (List PV)} (n : Nat), (∀ e ∈ xs, e.length = sz) → n ≤ xs.length → (xs.take n).flatten = xs.flatten.take (n * sz)
  | xs, 0, _, _ => by simp
  | [], n + 1, _, h => by simp at h
  | x :: xs, n + 1, h, hn => by
    have hx := h x (List.mem_cons_self ..)
    rw [List.take_succ_cons, List.flatten_cons, List.flatten_cons, take_flatten n (fun e he => h e (List.mem_cons_of_mem _ he)) (by simpa using hn), Nat.succ_mul, List.take_append, List.take_of_length_le (l := x) (by omega), show n * sz + sz - x.length = n * sz from by omega]
theorem take_drop_flatten {sz off len : Nat} {xs : List (List PV)} (h : ∀ e ∈ xs, e.length = sz) (hn : off + len ≤ xs.length) : ((xs.drop off).take len).flatten = (xs.flatten.drop (off * sz)).take (len * sz) := by
  rw [take_flatten len (fun e he => h e (List.mem_of_mem_drop he)) (by rw [List.length_drop]; omega), drop_flatten off h (by omega)]
section
variable {X : XF} {w0 w : World} {a : Act} {μ : LMap}
theorem owned_F (s : SimM X w0 σ a w μ) (g : Nat) (h : X.F g) : μ.owns g := .inl (by rw [s.F]; exact h)
mutual
theorem Fin'.rep (s : SimM X w0 σ a w μ) : ∀ {p q : PV} (_ : Fin' σ p q) {y : Value}, Rep w μ p y → Rep w (LMap.none X.F) q y
  | _, _, .sub hc hs, _, r => Sub.rep hs (Rep.later (Later.fewer (owned_F s)) _ _ (Rep.shuts _ _ hc r))
  | _, _, @Fin'.row _ id rt sz ver xs hb hc, y, r => by
    obtain ⟨vs, hm, hown, rr, hl, h1⟩ := (row_parts s hb (p := .row id ver) (y := y)).1 rfl r
    have rc := RepL.later (Later.fewer (owned_F s)) _ _ (RepL.shuts _ _ (closedL_flatten hc) rr)
    simp only [Rep]
    rcases hown.2 with ⟨hv, h0⟩ | ⟨g, cap, cur, hv, hbg, hh, hnc, hmx, _⟩
    · have : xs = [] := List.eq_nil_of_length_eq_zero h0
      subst this
      exact ⟨none, 0, hv, by simp, by simp [maxLen], by simp [RepR]⟩
    · refine ⟨some ⟨g, 0, none⟩, cap, hv, hnc, hmx, RepR.of_flat hl ?_⟩
      rw [LMap.shut_none]
      refine RepC.of_cells (fun hF => ?_) rc h1 (fun j u hu => ?_)
      · have := s.hF g (LMap.none_owns hF)
        omega
      · have := hown.cells (g := g) (by rw [hv]; rfl) j u hu
        rw [Nat.zero_add]
        exact this
  | _, _, @Fin'.rowF _ id rt sz ver xs ys hb hf hlen hsz, y, r => by
    obtain ⟨vs, hm, hown, rr, hl, h1⟩ := (row_parts s hb (p := .row id ver) (y := y)).1 rfl r
    have rc := FinL.rep s hf rr
    simp only [Rep]
    rcases hown.2 with ⟨hv, h0⟩ | ⟨g, cap, cur, hv, hbg, hh, hnc, hmx, _⟩
    · have : xs = [] := List.eq_nil_of_length_eq_zero h0
      subst this
      have : ys = [] := List.eq_nil_of_length_eq_zero hlen.symm
      subst this
      exact ⟨none, 0, hv, by simp, by simp [maxLen], by simp [RepR]⟩
    · refine ⟨some ⟨g, 0, none⟩, cap, by rw [← hlen]; exact hv, by rw [← hlen]; exact hnc, hmx, RepR.of_flat hsz ?_⟩
      rw [LMap.shut_none]
      refine RepC.of_cells (fun hF => ?_) rc h1 (fun j u hu => ?_)
      · have := s.hF g (LMap.none_owns hF)
        omega
      · have := hown.cells (g := g) (by rw [hv]; rfl) j u hu
        rw [Nat.zero_add]
        exact this
  | _, _, @Fin'.rs _ id rt sz ver off len xs hb hc hol hne, y, r => by
    obtain ⟨y', vs, hm, hown, rr, hl, h1⟩ := s.blk id _ hb
    have rc := RepL.later (Later.fewer (owned_F s)) _ _ (RepL.shuts _ _ (closedL_flatten hc) rr)
    simp only [Rep] at r ⊢
    obtain ⟨z, k, hz, hv, _, he⟩ := r
    rw [hm] at hz
    injection hz with hz
    injection hz with e1 e2
    subst e1 e2
    obtain ⟨g, n, c, c', ez, ey, hlc, hcm⟩ := he rfl
    have hlen : ((xs.drop off).take len).length = len := by rw [List.length_take, List.length_drop]; omega
    refine ⟨some ⟨g, off * sz, none⟩, c', by rw [hlen]; exact ey, by rw [hlen]; exact hlc, hcm, RepR.of_flat (fun e he => hl e (List.mem_of_mem_drop (List.mem_of_mem_take he))) ?_⟩
    rw [LMap.shut_none]
    rcases hown.2 with ⟨hv', h0⟩ | ⟨g', cap, cur, hv', hbg, hh, hnc, hmx, _⟩
    · exact absurd (List.eq_nil_of_length_eq_zero h0) hne
    · rw [ez] at hv'
      injection hv' with e3 _ _
      injection e3 with e3
      injection e3 with e3
      subst e3
      have hfl : ((xs.drop off).take len).flatten = (xs.flatten.drop (off * sz)).take (len * sz) := take_drop_flatten hl hol
      rw [hfl]
      refine RepC.of_cells (vs := (vs.drop (off * sz)).take (len * sz)) (fun hF => ?_) ((rc.drop _).take _) (fun u hu => h1 u (List.mem_of_mem_drop (List.mem_of_mem_take hu))) (fun j u hu => ?_)
      · have := s.hF g (LMap.none_owns hF)
        omega
      · rw [List.getElem?_take] at hu
        split at hu
        · rw [List.getElem?_drop] at hu
          have := hown.cells (g := g) (by rw [ez]; rfl) _ u hu
          rw [add_lit, Nat.zero_add] at this
          rw [add_lit, Nat.zero_add]
          exact this
        · cases hu
  | _, _, .agg h, _, r => by
    simp only [Rep] at r ⊢
    obtain ⟨vs, e, r, h1⟩ := r
    exact ⟨vs, e, FinL.rep s h r, h1⟩
  | _, _, .tup h, _, r => by
    simp only [Rep] at r ⊢
    obtain ⟨vs, e, r⟩ := r
    exact ⟨vs, e, FinL.rep s h r⟩
theorem FinL.rep (s : SimM X w0 σ a w μ) : ∀ {ps qs : List PV} (_ : FinL σ ps qs) {vs : List Value}, RepL w μ ps vs → RepL w (LMap.none X.F) qs vs
  | _, _, .nil, _, r => by simp only [RepL] at r ⊢; exact r
  | _, _, .cons h hs, _, r => by
    simp only [RepL] at r ⊢
    obtain ⟨u, us, e, r1, r2⟩ := r
    exact ⟨u, us, e, Fin'.rep s h r1, FinL.rep s hs r2⟩
end
end
def Ret (P : Program) (rs : List ResultVar) (σ : St) (r : PV) : Prop :=
  (∃ ps, RVs P σ rs ps ∧ Fin' σ (oneOr ps) r ∧ r.noOwn = true) ∨
  (∃ t id rt sz ver xs, rs = [.tmp t] ∧ σ.get t = some (.row id ver) ∧ σ.blk id = some (.row rt sz ver xs) ∧ closedL xs.flatten = true ∧ r = .own rt sz xs) ∨
  (∃ t rt sz, rs = [.tmp t] ∧ σ.get t = some (.v (.slice none 0 0)) ∧ r = .own rt sz [])
inductive RetK (P : Program) (rs : List ResultVar) (r : PV) : Exit → St → Prop
  | n {σ : St} : Ret P rs σ r → RetK P rs r .normal σ
  | r {σ : St} : Ret P rs σ r → RetK P rs r .ret σ
theorem Spec.of {f : FuncId} {fn : Func} {c : Code} {args : List PV} {r : PV} (hf : P.funcs[f]? = some fn) (hb : fn.body = some c) (hent : Enters P f) {nt : Nat} (hnt : fn.ntmps = nt) {rs : List ResultVar} (hrs : fn.results = rs.toArray) (hn : Nat.ble args.length nt = true)
    (h : ∀ (F : Nat → Prop) (w0 : World), PW P ⟨fun _ => False, F, [], []⟩ w0 c ⟨nt, envOf 0 args, []⟩ (RetK P rs r)) : Spec P f args r := by
  subst hnt
  refine ⟨hent, fun F w vs hF hv => ?_⟩
  rw [Nat.ble_eq] at hn
  have hvl := hv.length
  refine calls_of_wp hf hb ?_
  have s0 : SimM ⟨fun _ => False, F, [], []⟩ w ⟨fn.ntmps, envOf 0 args, []⟩ { tmps := vs.toArray ++ Array.replicate (fn.ntmps - vs.toArray.size) undef, defers := [] } w (LMap.none F) := by
    refine ⟨?_, rfl, Keep.refl _ _, rfl, hF, fun _ h => h.elim, (fun e he => by cases he), ?_, fun id b hb => (by cases hb), fun id l hl => (by cases hl), fun id id' l l' g h => (by cases h), fun id l g h => (by cases h)⟩
    · simp
      omega
    · intro t p hp
      have hp' : look t (envOf 0 args) = some p := hp
      rw [look_envOf, if_pos (Nat.zero_le _), Nat.sub_zero] at hp'
      obtain ⟨y, hy, r⟩ := hv.get t p hp'
      have ht : t < vs.length := (List.getElem?_eq_some_iff.1 hy).1
      refine ⟨y, ?_, r⟩
      rw [Array.getElem?_append_left (by simpa using ht)]
      simpa using hy
  refine wp_mono ((h F w).run _ w _ s0) ?_
  rintro ex a' w' ⟨σ', μ', hk, s'⟩
  have hkeep : Below w.heap.size w w' := Keep.to_below s'.keep
  have hFo : ∀ g, F g → μ'.owns g := fun g hg => .inl (by rw [s'.F]; exact hg)
  have hrl : fn.results.toList = rs := by rw [hrs]
  have fin : Ret P rs σ' r → a'.defers = [] ∧ ∃ v, (results fn a'.tmps).run P w' = .ok v w' ∧ ∃ y, Ending.returned v = .returned y ∧ Below w.heap.size w w' ∧ RepRes w w' F r y := by
    intro hret
    refine ⟨s'.defers, ?_⟩
    rcases hret with ⟨ps, hrv, hfin, hno⟩ | ⟨t, id, rt, sz, ver, xs, hres, hg, hbk, hcl, rfl⟩ | ⟨t, rt, sz, hres, hg, rfl⟩
    · obtain ⟨y, hy, rep⟩ := run_results s' (fn := fn) (hrl ▸ hrv)
      refine ⟨y, hy, y, rfl, hkeep, ?_⟩
      have hrep : Rep w' (LMap.none F) r y := Fin'.rep s' hfin rep
      cases r <;> first | exact hrep | cases hno
    · have hrv : RVs P σ' fn.results.toList [.row id ver] := by rw [hrl, hres]; exact .cons (.tmp hg) .nil
      obtain ⟨y, hy, rep⟩ := run_results s' hrv
      obtain ⟨vs', hm, hown, rr, hl, h1⟩ := (row_parts s' hbk (p := .row id ver) (y := y)).1 rfl rep
      refine ⟨y, hy, y, rfl, hkeep, vs', hown, ?_, hl, h1⟩
      refine RepL.later (Later.fewer (fun g hg => ?_)) _ _ (RepL.shuts _ _ hcl rr)
      rcases hg with hg | hg
      · exact hFo g hg
      · exact .inr ⟨id, _, hm, hg⟩
    · have hrv : RVs P σ' fn.results.toList [.v (.slice none 0 0)] := by rw [hrl, hres]; exact .cons (.tmp hg) .nil
      obtain ⟨y, hy, rep⟩ := run_results s' hrv
      have e : y = .slice none 0 0 := rep
      subst e
      exact ⟨_, hy, _, rfl, hkeep, [], World.ownsRow_nil _ _ _ _, rfl, by simp, by simp⟩
  cases hk with
  | n hk => exact fin hk
  | r hk => exact fin hk
end
end Go.Proofs.YtbjepdfnmbdplaaGreat
end
