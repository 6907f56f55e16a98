/- The state of a call as it reads, and the rules of code over it. -/
import Derived.Test.YtlicjlahnbebcaaE1
import Derived.Deep.LoopGhost
namespace Go.Proofs.Ytlicjlahnbebcaa
open Go.RowKit

/-- A variable of the call's own, or a slice of its own. -/
inductive LB where
  | box (cells : List PV)
  | row (ty sz ver : Nat) (xs : List (List PV))
structure St where
  nt : Nat
  env : List (Nat × PV)
  lh : List (Nat × LB)
def look {α : Type} (k : Nat) : List (Nat × α) → Option α
  | [] => none
  | (j, x) :: l => bif Nat.beq k j then some x else look k l
def St.get (σ : St) (t : Nat) : Option PV := look t σ.env
def St.blk (σ : St) (id : Nat) : Option LB := look id σ.lh
def St.ev (σ : St) : Operand → Option PV
  | .tmp t => σ.get t
  | .const x => some (.v x)
  | .func f => some (.fn (.func f) [] [])
  | .global _ => none
def St.put (σ : St) (d : Option Nat) (p : PV) : St := match d with
  | some d => { σ with env := (d, p) :: σ.env }
  | none => σ
def St.setB (σ : St) (id : Nat) (b : LB) : St := { σ with lh := (id, b) :: σ.lh }
def St.addB (σ : St) (nb : List (Nat × LB)) : St := { σ with lh := nb ++ σ.lh }
def inB (σ : St) : Option Nat → Bool
  | some d => Nat.blt d σ.nt
  | none => true

/-- box: variables of another's that may be written; F: blocks that are another's own; fr: what waits; df: calls put off. -/
structure XF where
  box : Nat → Prop
  F : Nat → Prop
  fr : List (List (Nat × PV) × Array Value)
  df : List Deferred
/-- What else goes on reading: the slots of calls that wait. -/
def FrOK (X : XF) (w : World) (μ : LMap) : Prop := ∀ e ∈ X.fr, ∀ t p, look t e.1 = some p → ∃ y, e.2[t]? = some y ∧ Rep w μ p y
theorem FrOK.later {X : XF} {w w' : World} {μ μ' : LMap} (h : FrOK X w μ) (l : Later w μ w' μ') : FrOK X w' μ' := fun e he t p hp => by
  obtain ⟨y, hy, r⟩ := h e he t p hp
  exact ⟨y, hy, Rep.later l p y r⟩
/-- Of what lay there when the call began nothing has turned, but the blocks of X. -/
structure Keep (X : Nat → Prop) (w w' : World) : Prop where
  os : w'.os = w.os
  tape : w'.tape = w.tape
  output : w'.output = w.output
  size : w.heap.size ≤ w'.heap.size
  block : ∀ k, k < w.heap.size → ¬ X k → w'.heap[k]? = w.heap[k]?
theorem Keep.refl (X : Nat → Prop) (w : World) : Keep X w w := ⟨rfl, rfl, rfl, Nat.le_refl _, fun _ _ _ => rfl⟩
theorem Keep.below {X : Nat → Prop} {w w1 w2 : World} (h : Keep X w w1) (b : Below w1.heap.size w1 w2) : Keep X w w2 :=
  ⟨b.os.trans h.os, b.tape.trans h.tape, b.output.trans h.output, Nat.le_trans h.size b.size, fun k hk hx => (b.block k (Nat.lt_of_lt_of_le hk h.size)).trans (h.block k hk hx)⟩
theorem Keep.to_below {w w' : World} (h : Keep (fun _ => False) w w') : Below w.heap.size w w' := ⟨h.os, h.tape, h.output, h.size, fun k hk => h.block k hk (fun x => x)⟩
theorem Keep.setCell {X : Nat → Prop} {w w1 : World} (h : Keep X w w1) {a : Addr} (ha : w.heap.size ≤ a.block ∨ X a.block) (v : Value) : Keep X w (w1.setCell a v) :=
  ⟨h.os, h.tape, h.output, Nat.le_trans h.size (by simp [World.setCell]), fun k hk hx => by
    rw [Below.heap_setCell _ _ _ _ (by
      rcases ha with ha | ha
      · omega
      · intro e; exact hx (e ▸ ha))]
    exact h.block k hk hx⟩

def BlkOK (w0 w : World) (μ : LMap) (id : Nat) : LB → Prop
  | .box cells => ∃ g cs ty, μ.m id = some (.box g) ∧ w.heap[g]? = some (.cells cs ty (0, 0)) ∧ RepL w μ cells cs.toList ∧ ∀ u ∈ cs.toList, u.oneCell' = true
  | .row ty sz ver xs => ∃ y vs, μ.m id = some (.row y ver) ∧ w.ownsRow w0.heap.size ty sz y xs.length vs ∧ RepL w μ xs.flatten vs ∧ (∀ e ∈ xs, e.length = sz) ∧ ∀ u ∈ vs, u.oneCell' = true
structure SimM (X : XF) (w0 : World) (σ : St) (a : Act) (w : World) (μ : LMap) : Prop where
  nt : a.tmps.size = σ.nt
  defers : a.defers = X.df
  keep : Keep X.box w0 w
  F : μ.F = X.F
  hF : ∀ g, X.F g → g < w0.heap.size
  hX : ∀ g, X.box g → ¬ X.F g
  fr : FrOK X w μ
  env : ∀ t p, σ.get t = some p → ∃ y, a.tmps[t]? = some y ∧ Rep w μ p y
  blk : ∀ id b, σ.blk id = some b → BlkOK w0 w μ id b
  dom : ∀ id l, μ.m id = some l → ∃ b, σ.blk id = some b
  apart : ∀ id id' l l' g, μ.m id = some l → μ.m id' = some l' → l.block = some g → l'.block = some g → id = id'
  fresh : ∀ id l g, μ.m id = some l → l.block = some g → g < w.heap.size ∧ (w0.heap.size ≤ g ∨ X.box g)

section
variable {X : XF} {w0 w w' : World} {σ σ' : St} {a : Act} {μ μ' : LMap}
theorem of_eq_true_blt {a b : Nat} (h : Nat.blt a b = true) : a < b := by rwa [Nat.blt_eq] at h
theorem look_cons_eq {α : Type} (k : Nat) (x : α) (l : List (Nat × α)) : look k ((k, x) :: l) = some x := by simp [look]
theorem look_cons_ne {α : Type} {k j : Nat} (h : k ≠ j) (x : α) (l : List (Nat × α)) : look k ((j, x) :: l) = look k l := by
  have : Nat.beq k j = false := by
    cases e : Nat.beq k j
    · rfl
    · exact absurd (Nat.eq_of_beq_eq_true e) h
  simp [look, this]
theorem look_append {α : Type} (k : Nat) : ∀ (l m : List (Nat × α)), look k (l ++ m) = match look k l with | some x => some x | none => look k m
  | [], m => rfl
  | (j, x) :: l, m => by
    by_cases h : k = j
    · subst h; rw [List.cons_append, look_cons_eq, look_cons_eq]
    · rw [List.cons_append, look_cons_ne h, look_cons_ne h, look_append k l m]
theorem St.get_put (σ : St) (d : Nat) (p : PV) (t : Nat) : (σ.put (some d) p).get t = if t = d then some p else σ.get t := by
  unfold St.put St.get
  by_cases h : t = d
  · subst h; rw [if_pos rfl, look_cons_eq]
  · rw [if_neg h, look_cons_ne h]
theorem St.blk_put (σ : St) (d : Option Nat) (p : PV) (id : Nat) : (σ.put d p).blk id = σ.blk id := by cases d <;> rfl
theorem St.nt_put (σ : St) (d : Option Nat) (p : PV) : (σ.put d p).nt = σ.nt := by cases d <;> rfl
theorem Act.size_put (a : Act) (d : Option Nat) (y : Value) : (a.put d y).tmps.size = a.tmps.size := by cases d <;> simp [Act.put]
theorem Act.defers_put (a : Act) (d : Option Nat) (y : Value) : (a.put d y).defers = a.defers := by cases d <;> rfl
theorem Act.get_put (a : Act) (d : Nat) (y : Value) (hd : d < a.tmps.size) (t : Nat) : (a.put (some d) y).tmps[t]? = if t = d then some y else a.tmps[t]? := by
  simp only [Act.put, Array.getElem?_setIfInBounds]
  by_cases h : t = d
  · subst h; simp [hd]
  · rw [if_neg (Ne.symm h), if_neg h]
theorem eval_tmp (h : SimM X w0 σ a w μ) {x : Operand} {p : PV} (hx : σ.ev x = some p) : Rep w μ p (a.eval x) := by
  cases x with
  | tmp t =>
    obtain ⟨y, hy, r⟩ := h.env t p hx
    have : a.eval (.tmp t) = y := by simp [Act.eval, hy]
    rw [this]; exact r
  | const v => injection hx with hx; subst hx; exact rfl
  | func f => injection hx with hx; subst hx; exact ⟨[], [], rfl, rfl, rfl⟩
  | global g => cases hx
theorem eval_v (h : SimM X w0 σ a w μ) {x : Operand} {v : Value} (hx : σ.ev x = some (.v v)) : a.eval x = v := eval_tmp h hx

/-- A value is put into a slot, the world as it is. -/
theorem SimM.put (h : SimM X w0 σ a w μ) {d : Option Nat} (hd : inB σ d = true) {p : PV} {y : Value} (r : Rep w μ p y) : SimM X w0 (σ.put d p) (a.put d y) w μ := by
  cases d with
  | none => exact h
  | some d =>
    have hd' : d < a.tmps.size := by rw [h.nt]; exact of_eq_true_blt hd
    refine ⟨by rw [Act.size_put]; exact h.nt, h.defers, h.keep, h.F, h.hF, h.hX, h.fr, ?_, h.blk, h.dom, h.apart, h.fresh⟩
    intro t q hq
    rw [St.get_put] at hq
    rw [Act.get_put a d y hd']
    by_cases ht : t = d
    · rw [if_pos ht] at hq ⊢
      injection hq with hq
      subst hq
      exact ⟨y, rfl, r⟩
    · rw [if_neg ht] at hq ⊢
      exact h.env t q hq
/-- The world has grown; nothing of what was there has turned. -/
theorem Later.below (hd : ∀ id l g, μ.m id = some l → l.block = some g → g < w.heap.size) (b : Below w.heap.size w w') : Later w μ w' μ :=
  ⟨fun a u hc ho => ⟨cell_later b hc, ho⟩, fun _ _ h => h, fun _ z k h => ⟨z, k, h, Nat.le_refl _, fun _ => rfl⟩⟩
theorem SimM.later (h : SimM X w0 σ a w μ) : Below w.heap.size w w' → Later w μ w' μ := fun b => Later.below (fun id l g h1 h2 => (h.fresh id l g h1 h2).1) b
theorem SimM.below (h : SimM X w0 σ a w μ) (b : Below w.heap.size w w') : SimM X w0 σ a w' μ := by
  have hl := h.later b
  refine ⟨h.nt, h.defers, h.keep.below b, h.F, h.hF, h.hX, h.fr.later hl, ?_, ?_, h.dom, h.apart, fun id l g h1 h2 => ?_⟩
  · intro t p hp
    obtain ⟨y, hy, r⟩ := h.env t p hp
    exact ⟨y, hy, Rep.later hl p y r⟩
  · intro id bk hb
    have hok := h.blk id bk hb
    cases bk with
    | box cells =>
      obtain ⟨g, cs, ty, hm, hg, r, h1⟩ := hok
      exact ⟨g, cs, ty, hm, (b.block g (h.fresh id _ g hm rfl).1).trans hg, RepL.later hl _ _ r, h1⟩
    | row ty sz ver xs =>
      obtain ⟨y, vs, hm, hown, r, h1, h2⟩ := hok
      exact ⟨y, vs, hm, own_later' hown b, RepL.later hl _ _ r, h1, h2⟩
  · obtain ⟨h3, h4⟩ := h.fresh id l g h1 h2
    exact ⟨Nat.lt_of_lt_of_le h3 b.size, h4⟩
/-- The state says less. -/
theorem SimM.less (h : SimM X w0 σ a w μ) (hn : σ'.nt = σ.nt) (he : ∀ t p, σ'.get t = some p → σ.get t = some p) (hb : ∀ id, σ'.blk id = σ.blk id) : SimM X w0 σ' a w μ :=
  ⟨h.nt.trans hn.symm, h.defers, h.keep, h.F, h.hF, h.hX, h.fr, fun t p hp => h.env t p (he t p hp), fun id b hb' => h.blk id b ((hb id).symm.trans hb'), fun id l hl => by rw [hb]; exact h.dom id l hl, h.apart, h.fresh⟩
end

/-- One state may stand for the other. -/
structure Weak (X : XF) (w0 : World) (σ σ' : St) : Prop where
  run : ∀ a w μ, SimM X w0 σ a w μ → ∃ μ', SimM X w0 σ' a w μ'
theorem Weak.refl (X : XF) (w0 : World) (σ : St) : Weak X w0 σ σ := ⟨fun _ _ μ h => ⟨μ, h⟩⟩
theorem Weak.trans {X : XF} {w0 : World} {σ σ' σ'' : St} (h : Weak X w0 σ σ') (k : Weak X w0 σ' σ'') : Weak X w0 σ σ'' := ⟨fun a w μ s => by
  obtain ⟨μ', s'⟩ := h.run a w μ s
  exact k.run a w μ' s'⟩
/-- All that the second state says the first one says. -/
def subEnv (σ : St) : List (Nat × PV) → Prop
  | [] => True
  | (t, p) :: l => σ.get t = some p ∧ subEnv σ l
theorem subEnv_get {σ : St} : ∀ {l : List (Nat × PV)}, subEnv σ l → ∀ t p, look t l = some p → σ.get t = some p
  | [], _, _, _, h => by cases h
  | (j, q) :: l, hs, t, p, h => by
    by_cases e : t = j
    · subst e; rw [look_cons_eq] at h; injection h with h; subst h; exact hs.1
    · rw [look_cons_ne e] at h; exact subEnv_get hs.2 t p h
theorem Weak.env {X : XF} {w0 : World} {σ : St} {env : List (Nat × PV)} (h : subEnv σ env) : Weak X w0 σ ⟨σ.nt, env, σ.lh⟩ :=
  ⟨fun _ _ μ s => ⟨μ, s.less rfl (fun t p hp => subEnv_get h t p hp) (fun _ => rfl)⟩⟩

section
variable (P : Program) (X : XF) (w0 : World)
/-- Code, run from the state, comes to an exit with a state of which K is true. -/
structure PW (c : Code) (σ : St) (K : Exit → St → Prop) : Prop where
  run : ∀ a w μ, SimM X w0 σ a w μ → c.wp P (fun ex a' w' => ∃ σ' μ', K ex σ' ∧ SimM X w0 σ' a' w' μ') a w
inductive ThenK (next : St → Prop) (K : Exit → St → Prop) : Exit → St → Prop
  | n {σ : St} : next σ → ThenK next K .normal σ
  | r {σ : St} : K .ret σ → ThenK next K .ret σ
  | x {σ : St} {id : Nat} : K (.exit id) σ → ThenK next K (.exit id) σ
  | g {σ : St} {l : Nat} : K (.goto l) σ → ThenK next K (.goto l) σ
inductive InBlockK (id : Nat) (K : Exit → St → Prop) : Exit → St → Prop
  | n {σ : St} : K .normal σ → InBlockK id K .normal σ
  | r {σ : St} : K .ret σ → InBlockK id K .ret σ
  | x {σ : St} : K .normal σ → InBlockK id K (.exit id) σ
  | y {σ : St} {j : Nat} : Nat.beq j id = false → K (.exit j) σ → InBlockK id K (.exit j) σ
  | g {σ : St} {l : Nat} : K (.goto l) σ → InBlockK id K (.goto l) σ
/-- The operations of a region, one behind the other. -/
structure RW (ops : Array Oper) (l : List Oper) (σ : St) (K : St → Prop) : Prop where
  run : ∀ (Q : Exit → Act → World → Prop), (∀ σ' a w μ, K σ' → SimM X w0 σ' a w μ → Q .normal a w) → ∀ a w μ, SimM X w0 σ a w μ → wpList P ops Q l a w
variable {P X w0}
theorem PW.weak {c : Code} {σ σ' : St} {K : Exit → St → Prop} (hw : Weak X w0 σ σ') (h : PW P X w0 c σ' K) : PW P X w0 c σ K := ⟨fun a w μ s => by
  obtain ⟨μ', s'⟩ := hw.run a w μ s
  exact h.run a w μ' s'⟩
theorem PW.mono {c : Code} {σ : St} {K K' : Exit → St → Prop} (h : PW P X w0 c σ K) (hk : ∀ e σ, K e σ → K' e σ) : PW P X w0 c σ K' := ⟨fun a w μ s =>
  wp_mono (h.run a w μ s) fun e a' w' ⟨σ', μ', k, s'⟩ => ⟨σ', μ', hk e σ' k, s'⟩⟩
theorem PW.seq {x y : Code} {σ : St} {K : Exit → St → Prop} (h : PW P X w0 x σ (ThenK (fun σ' => PW P X w0 y σ' K) K)) : PW P X w0 (.seq x y) σ K := ⟨fun a w μ s => by
  refine wp_seq (wp_mono (h.run a w μ s) ?_)
  rintro e a' w' ⟨σ', μ', k, s'⟩
  cases k with
  | n k => exact k.run a' w' μ' s'
  | x k => exact ⟨σ', μ', k, s'⟩
  | g k => exact ⟨σ', μ', k, s'⟩
  | r k => exact ⟨σ', μ', k, s'⟩⟩
theorem PW.cond {c : Operand} {x y : Code} {σ : St} {K : Exit → St → Prop} {b : Bool} (hc : σ.ev c = some (.v (.bool b))) (ht : b = true → PW P X w0 x σ K) (hf : b = false → PW P X w0 y σ K) : PW P X w0 (.cond c x y) σ K := ⟨fun a w μ s =>
  wp_cond_split (eval_v s hc) (fun e => (ht e).run a w μ s) (fun e => (hf e).run a w μ s)⟩
theorem PW.skip {σ : St} {K : Exit → St → Prop} (h : K .normal σ) : PW P X w0 .skip σ K := ⟨fun _ _ μ s => wp_skip ⟨σ, μ, h, s⟩⟩
theorem PW.label {l : Nat} {σ : St} {K : Exit → St → Prop} (h : K .normal σ) : PW P X w0 (.label l) σ K := ⟨fun _ _ μ s => wp_label ⟨σ, μ, h, s⟩⟩
theorem PW.ret {σ : St} {K : Exit → St → Prop} (h : K .ret σ) : PW P X w0 .ret σ K := ⟨fun _ _ μ s => wp_ret ⟨σ, μ, h, s⟩⟩
theorem PW.exit {id : Nat} {σ : St} {K : Exit → St → Prop} (h : K (.exit id) σ) : PW P X w0 (.exit id) σ K := ⟨fun _ _ μ s => wp_exit ⟨σ, μ, h, s⟩⟩
theorem PW.block {id : Nat} {c : Code} {σ : St} {K : Exit → St → Prop} (h : PW P X w0 c σ (InBlockK id K)) : PW P X w0 (.block id c) σ K := ⟨fun a w μ s => by
  refine wp_block (wp_mono (h.run a w μ s) ?_)
  rintro e a' w' ⟨σ', μ', k, s'⟩
  cases k with
  | n k => exact ⟨σ', μ', k, s'⟩
  | r k => exact ⟨σ', μ', k, s'⟩
  | x k => simp only [Exit.inBlock, if_true]; exact ⟨σ', μ', k, s'⟩
  | @y σ j hne k =>
    have hn : ¬ j = id := fun e => by subst e; simp at hne
    simp only [Exit.inBlock, if_neg hn]
    exact ⟨_, μ', k, s'⟩
  | g k => exact ⟨σ', μ', k, s'⟩⟩
theorem PW.loop {ι : Type} (I : ι → St) (ok : ι → Prop) (m : ι → Nat) (i0 : ι) {c : Code} {σ : St} {K : Exit → St → Prop} (h0 : ok i0) (hw : Weak X w0 σ (I i0))
    (round : ∀ i, ok i → PW P X w0 c (I i) (ThenK (fun σ' => ∃ i', ok i' ∧ m i' < m i ∧ Weak X w0 σ' (I i')) K)) : PW P X w0 (.loop c) σ K := ⟨fun a w μ s => by
  obtain ⟨μ0, s0⟩ := hw.run a w μ s
  refine wp_loop_ghost (fun n a w => ∃ i μ, ok i ∧ m i = n ∧ SimM X w0 (I i) a w μ) (m i0) ⟨i0, μ0, h0, rfl, s0⟩ ?_
  rintro n a w ⟨i, μ, hi, rfl, s⟩
  refine wp_mono ((round i hi).run a w μ s) ?_
  rintro e a' w' ⟨σ', μ', k, s'⟩
  cases k with
  | n k =>
    obtain ⟨i', hi', hm, hw'⟩ := k
    obtain ⟨μ'', s''⟩ := hw'.run a' w' μ' s'
    exact ⟨m i', hm, i', μ'', hi', rfl, s''⟩
  | x k => exact ⟨σ', μ', k, s'⟩
  | g k => exact ⟨σ', μ', k, s'⟩
  | r k => exact ⟨σ', μ', k, s'⟩⟩
theorem PW.region {id : Nat} {l : List Oper} {σ : St} {K : Exit → St → Prop} (h : RW P X w0 l.toArray l σ (K .normal)) : PW P X w0 (.region id l.toArray false) σ K := ⟨fun a w μ s =>
  wp_region_lit (h.run _ (fun σ' _ _ μ' k s' => ⟨σ', μ', k, s'⟩) a w μ s)⟩
theorem RW.nil {ops : Array Oper} {σ : St} {K : St → Prop} (h : K σ) : RW P X w0 ops [] σ K := ⟨fun _ hQ a w μ s => wpList_nil (hQ σ a w μ h s)⟩
theorem RW.weak {ops : Array Oper} {l : List Oper} {σ σ' : St} {K : St → Prop} (hw : Weak X w0 σ σ') (h : RW P X w0 ops l σ' K) : RW P X w0 ops l σ K := ⟨fun Q hQ a w μ s => by
  obtain ⟨μ', s'⟩ := hw.run a w μ s
  exact h.run Q hQ a w μ' s'⟩
end

/-- The operation leads from the one state to the other. -/
structure OpEff (P : Program) (o : Oper) (σ σ' : St) : Prop where
  run : ∀ (X : XF) (w0 : World) (a : Act) (w : World) (μ : LMap) (K : Act → World → Prop) (Q : Exit → Act → World → Prop), SimM X w0 σ a w μ → (∀ a' w' μ', SimM X w0 σ' a' w' μ' → K a' w') → o.wp P a w K Q
/-- The operation yields p, whatever else is there; these blocks are made. -/
def PV.id? : PV → Option Nat
  | .lp id _ | .row id _ | .rp id _ _ _ _ => some id
  | _ => none
structure Agree (o : Oper) (σ σ' : St) : Prop where
  nt : σ'.nt = σ.nt
  ev : ∀ x ∈ o.op.operands.toList, ∀ q, σ.ev x = some q → σ'.ev x = some q
  blk : ∀ x ∈ o.op.operands.toList, ∀ q id b, σ.ev x = some q → q.id? = some id → σ.blk id = some b → σ'.blk id = some b
def newB (σ : St) (nb : List (Nat × LB)) : Prop := ∀ id b, look id nb = some b → σ.blk id = none
structure OpOK (P : Program) (o : Oper) (σ : St) (p : PV) (nb : List (Nat × LB)) : Prop where
  run : ∀ σ', Agree o σ σ' → newB σ' nb → OpEff P o σ' ((σ'.addB nb).put o.dst p)
theorem Agree.refl (o : Oper) (σ : St) : Agree o σ σ := ⟨rfl, fun _ _ _ h => h, fun _ _ _ _ _ _ _ h => h⟩
section
variable {P : Program} {X : XF} {w0 : World}
theorem OpOK.eff {o : Oper} {σ : St} {p : PV} {nb : List (Nat × LB)} (h : OpOK P o σ p nb) (hn : newB σ nb) : OpEff P o σ ((σ.addB nb).put o.dst p) := h.run σ (Agree.refl o σ) hn
theorem RW.eff {ops : Array Oper} {o : Oper} {l : List Oper} {σ σ' : St} {K : St → Prop} (hg : o.guard = none) (h : OpEff P o σ σ') (k : RW P X w0 ops l σ' K) : RW P X w0 ops (o :: l) σ K := ⟨fun Q hQ a w μ s =>
  wpList_plain hg fun K' hK => h.run X w0 a w μ K' Q s fun a' w' μ' s' => hK a' w' (k.run Q hQ a' w' μ' s')⟩
theorem newB_nil (σ : St) : newB σ [] := fun _ _ h => by cases h
theorem RW.ok {ops : Array Oper} {o : Oper} {l : List Oper} {σ : St} {p : PV} {K : St → Prop} (hg : o.guard = none) (h : OpOK P o σ p []) (k : RW P X w0 ops l (σ.put o.dst p) K) : RW P X w0 ops (o :: l) σ K :=
  RW.eff hg (h.eff (newB_nil σ)) k
theorem newB_one {σ : St} {id : Nat} {b : LB} (h : σ.blk id = none) : newB σ [(id, b)] := by
  intro id' b' hl
  by_cases e : id' = id
  · subst e; exact h
  · rw [look_cons_ne e] at hl; cases hl
theorem RW.okB {ops : Array Oper} {o : Oper} {l : List Oper} {σ : St} {p : PV} {id : Nat} {b : LB} {K : St → Prop} (hg : o.guard = none) (h : OpOK P o σ p [(id, b)]) (hn : σ.blk id = none) (k : RW P X w0 ops l ((σ.setB id b).put o.dst p) K) : RW P X w0 ops (o :: l) σ K :=
  RW.eff hg (h.eff (newB_one hn)) k
/-- A guarded operation: it is wanted, or it is not. -/
theorem yielded_of {ops : Array Oper} {σ : St} {a : Act} {w : World} {μ : LMap} {j t : Nat} {oj : Oper} {b : Bool} (s : SimM X w0 σ a w μ) (hj : ops[j]? = some oj) (hd : oj.dst = some t) (hb : σ.get t = some (.v (.bool b))) : yielded ops a.tmps j = some b := by
  obtain ⟨y, hy, r⟩ := s.env t _ hb
  simp only [Rep] at r
  subst r
  unfold yielded
  simp [hj, hd, hy]
theorem RW.guard {ops : Array Oper} {o : Oper} {l : List Oper} {σ : St} {K : St → Prop} {j t : Nat} {want b : Bool} {oj : Oper} (hg : o.guard = some (j, want)) (hj : ops[j]? = some oj) (hd : oj.dst = some t) (hb : σ.get t = some (.v (.bool b)))
    (hdst : inB σ o.dst = true) (hy : b = want → RW P X w0 ops ({ o with guard := none } :: l) σ K) (hn : b = (!want) → RW P X w0 ops l (σ.put o.dst (.v undef)) K) : RW P X w0 ops (o :: l) σ K := ⟨fun Q hQ a w μ s => by
  have hyl := yielded_of s hj hd hb
  have hw : Region.wanted o (yielded ops a.tmps) = (b == want) := by
    unfold Region.wanted
    rw [hg]
    simp only [hyl]
    cases b <;> cases want <;> rfl
  by_cases e : b = want
  · have h1 := (hy e).run Q hQ a w μ s
    unfold wpList at h1 ⊢
    rw [hw, e]
    have : Region.wanted { o with guard := none } (yielded ops a.tmps) = true := rfl
    rw [if_pos this] at h1
    rw [if_pos (by simp)]
    exact h1
  · have e' : b = (!want) := by cases b <;> cases want <;> simp_all
    have h1 := (hn e').run Q hQ _ w μ (s.put hdst (p := .v undef) (y := undef) rfl)
    unfold wpList
    rw [hw, if_neg (by simp [e])]
    exact h1⟩
end
end Go.Proofs.Ytlicjlahnbebcaa
