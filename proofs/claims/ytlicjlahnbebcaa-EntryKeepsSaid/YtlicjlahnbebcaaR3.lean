/- The walk that reckons: over operations, regions, code, calls walked in place, and results. What is reckoned is data. -/
import Derived.Test.YtlicjlahnbebcaaR2
import Derived.LoopN
namespace Go.Proofs.Ytlicjlahnbebcaa
open Go.RowKit

/-- What is still to be done behind. -/
inductive Fr where
  | seq (c : Code)
  | blk (k : Nat)
  | lp (n : Nat) (c : Code)
inductive Md where
  | code (c : Code)
  | ops (a : Array Oper) (l : List Oper)
  | dops (a : Array Oper) (l : List Oper) (tl : List (List Nat × List Nat))
  | ex (e : Exit)
structure Mc where
  md : Md
  nt : Nat
  env : List (Nat × PV)
  lh : List (Nat × LB)
  fs : List Fr
/-- What comes next: a state, the end, or something to be decided. -/
inductive StepR where
  | next (M : Mc)
  | fin (e : Exit) (σ : St)
  | br (b : Bool) (r1 r2 : StepR)
  | need (q : Prop) (r : StepR)
  | wrap (k : IntKind) (z : Int) (C : Int → StepR)
  | div (r : Bool) (k : IntKind) (a b : Int) (C : Int → StepR)
  | ix (xs : List (List PV)) (i : Int) (C : List PV → StepR)
  | ar (cs : List PV) (n : Nat) (i : Int) (C : PV → StepR)
  | ld (cs : List PV) (k : Nat) (C : PV → StepR)
  | eqs (t : Nat) (neg : Bool) (cs ds : List PV) (C : Bool → StepR)
  | len (xs : List (List PV)) (C : Int → StepR)
  | cut (xs : List (List PV)) (l h : Option Int) (C : List (List PV) → StepR)
  | call (g : Nat) (args : List PV) (d : Nat) (A : PV → Option LB → StepR) (M0 : Mc)
  | stop (M0 : Mc)
def forceL : List PV → (List PV → StepR) → StepR
  | [], k => k []
  | a :: l, k => forceL l fun l' => k (a :: l')
theorem forceL_eq : ∀ (l : List PV) (k : List PV → StepR), forceL l k = k l
  | [], _ => rfl
  | a :: l, k => forceL_eq l fun l' => k (a :: l')
/-- Elements, cell by cell. -/
def forceT : Nat → List PV → (List PV → List PV → StepR) → StepR
  | 0, cs, k => k [] cs
  | _ + 1, [], k => k [] []
  | s + 1, c :: cs, k => forceT s cs fun e r => k (c :: e) r
theorem forceT_eq : ∀ (s : Nat) (cs : List PV) (k : List PV → List PV → StepR), forceT s cs k = k (cs.take s) (cs.drop s)
  | 0, _, _ => rfl
  | s + 1, [], k => by simp [forceT]
  | s + 1, c :: cs, k => by simp only [forceT, forceT_eq s cs, List.take_succ_cons, List.drop_succ_cons]
def forceN (sz : Nat) : Nat → List PV → (List (List PV) → StepR) → StepR
  | 0, _, k => k []
  | n + 1, cs, k => forceT sz cs fun e r => forceN sz n r fun es => k (e :: es)
theorem chunks_succ {α : Type} (sz n : Nat) (cs : List α) : chunks sz (n + 1) cs = cs.take sz :: chunks sz n (cs.drop sz) := by
  unfold chunks
  rw [List.range_succ_eq_map, List.map_cons, List.map_map]
  simp only [Nat.zero_mul, List.drop_zero]
  congr 1
  apply List.map_congr_left
  intro i _
  simp only [Function.comp, List.drop_drop]
  rw [Nat.succ_mul, Nat.add_comm]
theorem forceN_eq (sz : Nat) : ∀ (n : Nat) (cs : List PV) (k : List (List PV) → StepR), forceN sz n cs k = k (chunks sz n cs)
  | 0, _, _ => rfl
  | n + 1, cs, k => by
    rw [forceN, forceT_eq, forceN_eq sz n, chunks_succ]
def opK (r : OpR) (d : Nat) (A : PV → Option LB → StepR) (M0 : Mc) : StepR := match r with
  | .ok p => A p none
  | .agg cs => forceL cs fun cs => A (.agg cs) none
  | .sls sz n cs => forceN sz n cs fun xs => A (.sl sz xs) none
  | .mk b => A (.lp d 0) (some b)
  | .need q p => .need q (A p none)
  | .wrap k z => .wrap k z fun z => A (.v (.int k z)) none
  | .div r k a b => .div r k a b fun z => A (.v (.int k z)) none
  | .ix xs i => .ix xs i fun c => A (.ptr c) none
  | .ar cs n i => .ar cs n i fun p => A p none
  | .ld cs k => .ld cs k fun p => A p none
  | .mkr e sz => A (.row d 0) (some (.row e sz 0 []))
  | .eqs t neg cs ds => .eqs t neg cs ds fun b => A (.v (.bool b)) none
  | .len xs => .len xs fun n => A (.v (.int .i64 n)) none
  | .br b p q => .br b (A p none) (A q none)
  | .cut sz xs l h => .cut xs l h fun ys => A (.sl sz ys) none
  | .call g args => forceL args fun args => .call g args d A M0
  | .no => .stop M0
/-- The state behind an operation. -/
def putA (a : Array Oper) (l : List Oper) (nt : Nat) (env : List (Nat × PV)) (lh : List (Nat × LB)) (fs : List Fr) (d : Nat) (M0 : Mc) : PV → Option LB → StepR
  | p, none => .next ⟨.ops a l, nt, (d, p) :: env, lh, fs⟩
  | p, some b => match look d lh with
    | none => .next ⟨.ops a l, nt, (d, p) :: env, (d, b) :: lh, fs⟩
    | some _ => .stop M0
def forceI : List Nat → (List Nat → StepR) → StepR
  | [], k => k []
  | a :: l, k => forceI l fun l' => k (a :: l')
theorem forceI_eq : ∀ (l : List Nat) (k : List Nat → StepR), forceI l k = k l
  | [], _ => rfl
  | a :: l, k => forceI_eq l fun l' => k (a :: l')
def putD (a : Array Oper) (o : Oper) (l : List Oper) (tl : List (List Nat × List Nat)) (nt : Nat) (env : List (Nat × PV)) (lh : List (Nat × LB)) (fs : List Fr) (d : Nat) (M0 : Mc) : PV → Option LB → StepR
  | p, none => forceI ((⟨nt, env, lh⟩ : St).ids o) fun ids => .next ⟨.dops a l (([], ids) :: tl), nt, (d, p) :: env, lh, fs⟩
  | p, some b => match look d lh with
    | none => forceI ((⟨nt, env, lh⟩ : St).ids o) fun ids => .next ⟨.dops a l (([d], ids) :: tl), nt, (d, p) :: env, (d, b) :: lh, fs⟩
    | some _ => .stop M0
def gT (ops : Array Oper) (j : Nat) (env : List (Nat × PV)) : Option (Nat × Option Bool) := match ops[j]? with
  | some oj => match oj.dst with
    | some t => match look t env with
      | some (.v (.bool b)) => some (t, some b)
      | some (.v (.tuple ⟨[]⟩)) => some (t, none)
      | _ => none
    | none => none
  | none => none
theorem gT_spec {ops : Array Oper} {j : Nat} {env : List (Nat × PV)} {t : Nat} {b : Bool} (h : gT ops j env = some (t, some b)) : ∃ oj, ops[j]? = some oj ∧ oj.dst = some t ∧ look t env = some (.v (.bool b)) := by
  unfold gT at h
  split at h
  · split at h
    · split at h
      · injection h with h
        injection h with h1 h2
        injection h2 with h2
        subst h1 h2
        exact ⟨_, ‹_›, ‹_›, ‹_›⟩
      · injection h with h
        injection h with h1 h2
        cases h2
      · cases h
    · cases h
  · cases h
theorem gT_undef {ops : Array Oper} {j : Nat} {env : List (Nat × PV)} {t : Nat} (h : gT ops j env = some (t, none)) : ∃ oj, ops[j]? = some oj ∧ oj.dst = some t ∧ look t env = some (.v undef) := by
  unfold gT at h
  split at h
  · split at h
    · split at h
      · injection h with h
        injection h with h1 h2
        cases h2
      · injection h with h
        injection h with h1 h2
        subst h1
        exact ⟨_, ‹_›, ‹_›, ‹_›⟩
      · cases h
    · cases h
  · cases h
def aggC : PV → List PV
  | .agg cs => cs
  | p => p.cells
theorem aggC_eq (p : PV) : aggC p = p.cells := by cases p <;> rfl
def fullC (p : PV) (cells : List PV) (k : Nat) : Bool := Nat.beq k 0 && Nat.beq p.cells.length cells.length
def newC (p : PV) (cells : List PV) (k : Nat) : List PV := bif fullC p cells k then aggC p else putL cells k p.cells
theorem newC_eq (p : PV) (cells : List PV) (k : Nat) : newC p cells k = putL cells k p.cells := by
  unfold newC
  cases h : fullC p cells k with
  | false => rfl
  | true =>
    unfold fullC at h
    rw [Bool.and_eq_true] at h
    have e1 := Nat.eq_of_beq_eq_true h.1
    have e2 := Nat.eq_of_beq_eq_true h.2
    subst e1
    have := putL_full p.cells cells [] e2.symm
    rw [cond_true, aggC_eq]
    simpa using this.symm
def stC (id k : Nat) (cells : List PV) (chk : Bool) (p : PV) : Option (Nat × List PV × Bool × Bool) := match fullC p cells k with
  | true => (match p with | .agg cs => some (id, cs, chk, true) | p => some (id, p.cells, chk, true))
  | false => some (id, putL cells k p.cells, chk, false)
theorem stC_eq {id k : Nat} {cells : List PV} {chk : Bool} {p : PV} {id' : Nat} {cs' : List PV} {c' f : Bool} (h : stC id k cells chk p = some (id', cs', c', f)) : id = id' ∧ putL cells k p.cells = cs' ∧ chk = c' := by
  have e := newC_eq p cells k
  unfold newC at e
  unfold stC at h
  cases hf : fullC p cells k with
  | false =>
    rw [hf] at h
    injection h with h
    injection h with h1 h2
    injection h2 with h2 h3
    injection h3 with h3 _
    exact ⟨h1, h2, h3⟩
  | true =>
    rw [hf] at h e
    rw [cond_true, aggC_eq] at e
    rw [← e]
    cases p <;>
    · injection h with h
      injection h with h1 h2
      injection h2 with h2 h3
      injection h3 with h3 _
      exact ⟨h1, h2, h3⟩
/-- A store into a variable of one's own: its new cells. -/
def storeS (T : TT) (t : Nat) (env : List (Nat × PV)) (lh : List (Nat × LB)) (x v : Operand) : Option (Nat × List PV × Bool × Bool) := match evE env x, evE env v with
  | some (.lp id k), some p => match look id lh, T.get t with
    | some (.box cells), some ⟨_, n, _, _, _⟩ => stC id k cells (p.lies && (Nat.beq p.cells.length n && Nat.ble (k + n) cells.length)) p
    | _, _ => none
  | _, _ => none
def exS (e : Exit) (nt : Nat) (env : List (Nat × PV)) (lh : List (Nat × LB)) : List Fr → StepR
  | [] => .fin e ⟨nt, env, lh⟩
  | .seq c :: fs => (match e with
    | .normal => .next ⟨.code c, nt, env, lh, fs⟩
    | .ret => .next ⟨.ex .ret, nt, env, lh, fs⟩
    | .exit j => .next ⟨.ex (.exit j), nt, env, lh, fs⟩
    | .goto l => .next ⟨.ex (.goto l), nt, env, lh, fs⟩
    | e => .stop ⟨.ex e, nt, env, lh, .seq c :: fs⟩)
  | .blk k :: fs => (match e with
    | .normal => .next ⟨.ex .normal, nt, env, lh, fs⟩
    | .ret => .next ⟨.ex .ret, nt, env, lh, fs⟩
    | .exit j => bif Nat.beq j k then .next ⟨.ex .normal, nt, env, lh, fs⟩ else .next ⟨.ex (.exit j), nt, env, lh, fs⟩
    | .goto l => .next ⟨.ex (.goto l), nt, env, lh, fs⟩
    | e => .stop ⟨.ex e, nt, env, lh, .blk k :: fs⟩)
  | .lp n c :: fs => (match e with
    | .normal => (match n with
      | n + 1 => .next ⟨.code c, nt, env, lh, .lp n c :: fs⟩
      | 0 => .stop ⟨.ex .normal, nt, env, lh, .lp 0 c :: fs⟩)
    | .ret => .next ⟨.ex .ret, nt, env, lh, fs⟩
    | .exit j => .next ⟨.ex (.exit j), nt, env, lh, fs⟩
    | .goto l => .next ⟨.ex (.goto l), nt, env, lh, fs⟩
    | e => .stop ⟨.ex e, nt, env, lh, .lp n c :: fs⟩)
section
variable (T : TT)
noncomputable def opsS (a : Array Oper) (nt : Nat) (env : List (Nat × PV)) (lh : List (Nat × LB)) (fs : List Fr) : List Oper → StepR
  | [] => .next ⟨.ex .normal, nt, env, lh, fs⟩
  | ⟨some d, op, ty, pos, after, none⟩ :: l => bif Nat.blt d nt then
      opK (opS T nt env lh op) d (putA a l nt env lh fs d ⟨.ops a (⟨some d, op, ty, pos, after, none⟩ :: l), nt, env, lh, fs⟩) ⟨.ops a (⟨some d, op, ty, pos, after, none⟩ :: l), nt, env, lh, fs⟩
    else .stop ⟨.ops a (⟨some d, op, ty, pos, after, none⟩ :: l), nt, env, lh, fs⟩
  | ⟨some d, op, ty, pos, after, some (j, want)⟩ :: l => bif Nat.blt d nt then
      (match gT a j env with
      | some (_, none) => .next ⟨.ops a l, nt, (d, .v undef) :: env, lh, fs⟩
      | some (t, some b) =>
        match want with
        | true => .br b (.next ⟨.ops a (⟨some d, op, ty, pos, after, none⟩ :: l), nt, (t, .v (.bool true)) :: env, lh, fs⟩) (.next ⟨.ops a l, nt, (d, .v undef) :: (t, .v (.bool false)) :: env, lh, fs⟩)
        | false => .br b (.next ⟨.ops a l, nt, (d, .v undef) :: (t, .v (.bool true)) :: env, lh, fs⟩) (.next ⟨.ops a (⟨some d, op, ty, pos, after, none⟩ :: l), nt, (t, .v (.bool false)) :: env, lh, fs⟩)
      | none => .stop ⟨.ops a (⟨some d, op, ty, pos, after, some (j, want)⟩ :: l), nt, env, lh, fs⟩)
    else .stop ⟨.ops a (⟨some d, op, ty, pos, after, some (j, want)⟩ :: l), nt, env, lh, fs⟩
  | ⟨none, op, ty, pos, after, none⟩ :: l => (match op with
    | .store t x v => (match storeS T t env lh x v with
      | some (k, cells, b, true) => .br b (.next ⟨.ops a l, nt, env, (k, .box cells) :: lh, fs⟩) (.stop ⟨.ops a (⟨none, .store t x v, ty, pos, after, none⟩ :: l), nt, env, lh, fs⟩)
      | some (k, cells, b, false) => forceL cells fun cells => .br b (.next ⟨.ops a l, nt, env, (k, .box cells) :: lh, fs⟩) (.stop ⟨.ops a (⟨none, .store t x v, ty, pos, after, none⟩ :: l), nt, env, lh, fs⟩)
      | none => .stop ⟨.ops a (⟨none, .store t x v, ty, pos, after, none⟩ :: l), nt, env, lh, fs⟩)
    | op => .stop ⟨.ops a (⟨none, op, ty, pos, after, none⟩ :: l), nt, env, lh, fs⟩)
  | o :: l => .stop ⟨.ops a (o :: l), nt, env, lh, fs⟩
noncomputable def dopsS (a : Array Oper) (tl : List (List Nat × List Nat)) (nt : Nat) (env : List (Nat × PV)) (lh : List (Nat × LB)) (fs : List Fr) : List Oper → StepR
  | [] => .need (confOK a.toList tl.reverse = true) (.next ⟨.ex .normal, nt, env, lh, fs⟩)
  | ⟨some d, op, ty, pos, after, none⟩ :: l => bif Nat.blt d nt then
      opK (opS T nt env lh op) d (putD a ⟨some d, op, ty, pos, after, none⟩ l tl nt env lh fs d ⟨.dops a (⟨some d, op, ty, pos, after, none⟩ :: l) tl, nt, env, lh, fs⟩) ⟨.dops a (⟨some d, op, ty, pos, after, none⟩ :: l) tl, nt, env, lh, fs⟩
    else .stop ⟨.dops a (⟨some d, op, ty, pos, after, none⟩ :: l) tl, nt, env, lh, fs⟩
  | ⟨some d, op, ty, pos, after, some (j, want)⟩ :: l => bif Nat.blt d nt then
      (match gT a j env with
      | some (_, none) => .next ⟨.dops a l (([], []) :: tl), nt, (d, .v undef) :: env, lh, fs⟩
      | some (_, some b) =>
        match want with
        | true => .br b (opK (opS T nt env lh op) d (putD a ⟨some d, op, ty, pos, after, some (j, want)⟩ l tl nt env lh fs d ⟨.dops a (⟨some d, op, ty, pos, after, some (j, want)⟩ :: l) tl, nt, env, lh, fs⟩) ⟨.dops a (⟨some d, op, ty, pos, after, some (j, want)⟩ :: l) tl, nt, env, lh, fs⟩) (.next ⟨.dops a l (([], []) :: tl), nt, (d, .v undef) :: env, lh, fs⟩)
        | false => .br b (.next ⟨.dops a l (([], []) :: tl), nt, (d, .v undef) :: env, lh, fs⟩) (opK (opS T nt env lh op) d (putD a ⟨some d, op, ty, pos, after, some (j, want)⟩ l tl nt env lh fs d ⟨.dops a (⟨some d, op, ty, pos, after, some (j, want)⟩ :: l) tl, nt, env, lh, fs⟩) ⟨.dops a (⟨some d, op, ty, pos, after, some (j, want)⟩ :: l) tl, nt, env, lh, fs⟩)
      | none => .stop ⟨.dops a (⟨some d, op, ty, pos, after, some (j, want)⟩ :: l) tl, nt, env, lh, fs⟩)
    else .stop ⟨.dops a (⟨some d, op, ty, pos, after, some (j, want)⟩ :: l) tl, nt, env, lh, fs⟩
  | ⟨none, op, ty, pos, after, none⟩ :: l => (match op with
    | .store t x v => (match storeS T t env lh x v with
      | some (k, cells, b, _) => forceL cells fun cells => .br b (forceI ((⟨nt, env, lh⟩ : St).ids ⟨none, .store t x v, ty, pos, after, none⟩) fun ids => .next ⟨.dops a l (([k], ids) :: tl), nt, env, (k, .box cells) :: lh, fs⟩) (.stop ⟨.dops a (⟨none, .store t x v, ty, pos, after, none⟩ :: l) tl, nt, env, lh, fs⟩)
      | none => .stop ⟨.dops a (⟨none, .store t x v, ty, pos, after, none⟩ :: l) tl, nt, env, lh, fs⟩)
    | op => .stop ⟨.dops a (⟨none, op, ty, pos, after, none⟩ :: l) tl, nt, env, lh, fs⟩)
  | o :: l => .stop ⟨.dops a (o :: l) tl, nt, env, lh, fs⟩
def codeS (nt : Nat) (env : List (Nat × PV)) (lh : List (Nat × LB)) (fs : List Fr) : Code → StepR
  | .skip => .next ⟨.ex .normal, nt, env, lh, fs⟩
  | .label _ => .next ⟨.ex .normal, nt, env, lh, fs⟩
  | .ret => .next ⟨.ex .ret, nt, env, lh, fs⟩
  | .exit k => .next ⟨.ex (.exit k), nt, env, lh, fs⟩
  | .seq a b => .next ⟨.code a, nt, env, lh, .seq b :: fs⟩
  | .block k c => .next ⟨.code c, nt, env, lh, .blk k :: fs⟩
  | .cond c a b => (match c with
    | .tmp t => (match look t env with
      | some (.v (.bool v)) => .br v (.next ⟨.code a, nt, (t, .v (.bool true)) :: env, lh, fs⟩) (.next ⟨.code b, nt, (t, .v (.bool false)) :: env, lh, fs⟩)
      | _ => .stop ⟨.code (.cond c a b), nt, env, lh, fs⟩)
    | .const (.bool true) => .next ⟨.code a, nt, env, lh, fs⟩
    | .const (.bool false) => .next ⟨.code b, nt, env, lh, fs⟩
    | _ => .stop ⟨.code (.cond c a b), nt, env, lh, fs⟩)
  | .region _ ops draw => (match draw with
    | true => .need (regOK ops.toList = true) (.next ⟨.dops ops ops.toList [], nt, env, lh, fs⟩)
    | false => .next ⟨.ops ops ops.toList, nt, env, lh, fs⟩)
  | c => .stop ⟨.code c, nt, env, lh, fs⟩
noncomputable def step (M : Mc) : StepR := match M with
  | ⟨.code c, nt, env, lh, fs⟩ => codeS nt env lh fs c
  | ⟨.ops a l, nt, env, lh, fs⟩ => opsS T a nt env lh fs l
  | ⟨.dops a l tl, nt, env, lh, fs⟩ => dopsS T a tl nt env lh fs l
  | ⟨.ex e, nt, env, lh, fs⟩ => exS e nt env lh fs
noncomputable def run : Nat → StepR → StepR
  | n + 1, .next M => run n (step T M)
  | _, r => r
end

/-! ### What it means -/
section
variable (P : Program) (X : XF) (w0 : World)
/-- At most n rounds of a loop. -/
structure PWL (n : Nat) (c : Code) (σ : St) (K : Exit → St → Prop) : Prop where
  run : ∀ a w μ, SimM X w0 σ a w μ → Code.rounds P c (fun ex a' w' => ∃ σ' μ', K ex σ' ∧ SimM X w0 σ' a' w' μ') n a w
def frK : List Fr → (Exit → St → Prop) → Exit → St → Prop
  | [], K => K
  | .seq c :: fs, K => ThenK (fun σ => PW P X w0 c σ (frK fs K)) (frK fs K)
  | .blk k :: fs, K => InBlockK k (frK fs K)
  | .lp n c :: fs, K => ThenK (fun σ => PWL P X w0 n c σ (frK fs K)) (frK fs K)
/-- The operations that are left of a region that draws its order. -/
structure UW (a : Array Oper) (l : List Oper) (tl : List (List Nat × List Nat)) (σ : St) (K : St → Prop) : Prop where
  ex : ∃ σe tl', URun P a l σ σe tl' ∧ confOK a.toList (tl.reverse ++ tl') = true ∧ K σe
def Sem (M : Mc) (K : Exit → St → Prop) : Prop := match M with
  | ⟨.code c, nt, env, lh, fs⟩ => PW P X w0 c ⟨nt, env, lh⟩ (frK P X w0 fs K)
  | ⟨.ops a l, nt, env, lh, fs⟩ => RW P X w0 a l ⟨nt, env, lh⟩ (frK P X w0 fs K .normal)
  | ⟨.dops a l tl, nt, env, lh, fs⟩ => UW P a l tl ⟨nt, env, lh⟩ (frK P X w0 fs K .normal)
  | ⟨.ex e, nt, env, lh, fs⟩ => frK P X w0 fs K e ⟨nt, env, lh⟩
def SemR (K : Exit → St → Prop) : StepR → Prop
  | .next M => Sem P X w0 M K
  | .fin e σ => K e σ
  | .br b r1 r2 => (b = true → SemR K r1) ∧ (b = false → SemR K r2)
  | .need q r => q ∧ SemR K r
  | .wrap k z C => SemR K (C (k.wrap z))
  | .div r k a b C => b ≠ 0 ∧ SemR K (C (bif r then a.tmod b else k.wrap (a.tdiv b)))
  | .ix xs i C => ∃ c, 0 ≤ i ∧ xs[i.toNat]? = some c ∧ SemR K (C c)
  | .ar cs n i C => ∃ p, 0 ≤ i ∧ i < n ∧ cs[i.toNat]? = some p ∧ SemR K (C p)
  | .ld cs k C => ∃ p, cs[k]? = some p ∧ SemR K (C p)
  | .eqs t neg cs ds C => ∃ (n : Nat) (za bs : List Int), EqT P t n ∧ cs = za.map pvI ∧ ds = bs.map pvI ∧ za.length = n ∧ bs.length = n ∧ SemR K (C (bif neg then !tst (za = bs) else tst (za = bs)))
  | .len xs C => SemR K (C (xs.length : Int))
  | .cut xs l h C => ∃ l' h', bndOK l 0 l' ∧ bndOK h xs.length h' ∧ l' ≤ h' ∧ h' ≤ xs.length ∧ SemR K (C ((xs.take h').drop l'))
  | .call g args d A M0 => (∃ r, Spec P g args r ∧ closedL args = true ∧ r.noOwn = true ∧ SemR K (A r none)) ∨ (∃ rt sz ys, Spec P g args (.own rt sz ys) ∧ closedL args = true ∧ SemR K (A (.row d 0) (some (.row rt sz 0 ys)))) ∨ Sem P X w0 M0 K
  | .stop M0 => Sem P X w0 M0 K
/-- It stops here. -/
structure Stk (T : TT) (r : StepR) (K : Exit → St → Prop) : Prop where
  h : SemR P X w0 K r
def stk (T : TT) (r : StepR) (K : Exit → St → Prop) : Prop := match r with
  | .fin e σ => K e σ
  | .next M => Stk P X w0 T (.next M) K
  | .br b r1 r2 => Stk P X w0 T (.br b r1 r2) K
  | .need q r => Stk P X w0 T (.need q r) K
  | .wrap k z C => Stk P X w0 T (.wrap k z C) K
  | .div r k a b C => Stk P X w0 T (.div r k a b C) K
  | .ix xs i C => Stk P X w0 T (.ix xs i C) K
  | .ar cs n i C => Stk P X w0 T (.ar cs n i C) K
  | .ld cs k C => Stk P X w0 T (.ld cs k C) K
  | .eqs t neg cs ds C => Stk P X w0 T (.eqs t neg cs ds C) K
  | .len xs C => Stk P X w0 T (.len xs C) K
  | .cut xs l h C => Stk P X w0 T (.cut xs l h C) K
  | .call g args d A M0 => Stk P X w0 T (.call g args d A M0) K
  | .stop M0 => Stk P X w0 T (.stop M0) K
def GoR (T : TT) (r : StepR) (K : Exit → St → Prop) : Prop := stk P X w0 T (run T 100000 r) K
end
section
variable {P : Program} {X : XF} {w0 : World} {T : TT}
theorem storeS_eff (hT : T.Ok P id) {t : Nat} {nt : Nat} {env : List (Nat × PV)} {lh : List (Nat × LB)} {x v : Operand} {k : Nat} {cells : List PV} {b fl : Bool} {ty : TypeId} {pos : String} {after : Array Edge} (h : storeS T t env lh x v = some (k, cells, b, fl)) (hb : b = true) : OpEff P ⟨none, .store t x v, ty, pos, after, none⟩ ⟨nt, env, lh⟩ (St.setB ⟨nt, env, lh⟩ k (.box cells)) := by
  unfold storeS at h
  split at h
  · rename_i id' o p hx hv
    split at h
    · rename_i cs ag n _ _ _ hbl h0
      have ht : TySz P t ag n := ⟨(TT.at hT h0).ty⟩
      obtain ⟨h1, h2, h3⟩ := stC_eq h
      subst h1 h2
      rw [← h3, Bool.and_eq_true] at hb
      exact eff_store_lp (by rw [evE_eq]; exact hx) hbl (by rw [evE_eq]; exact hv) hb.1 hb.2
    · cases h
  · cases h
def nbOf (d : Nat) : Option LB → List (Nat × LB)
  | none => []
  | some b => [(d, b)]
theorem opK_sound {K : Exit → St → Prop} {d : Nat} {op : Op} {ty : TypeId} {pos : String} {after : Array Edge} {guard : Option (Nat × Bool)} {σ : St} {r : OpR} {A : PV → Option LB → StepR} {M0 : Mc} (hg : r.Good P (some d) op ty pos after guard σ) (h : SemR P X w0 K (opK r d A M0)) :
    Sem P X w0 M0 K ∨ ∃ p ob, OpOK P ⟨some d, op, ty, pos, after, guard⟩ σ p (nbOf d ob) ∧ SemR P X w0 K (A p ob) := by
  cases r with
  | ok p => exact .inr ⟨p, none, hg, h⟩
  | agg cs =>
    have h : SemR P X w0 K (forceL cs fun cs => A (.agg cs) none) := h
    rw [forceL_eq] at h
    exact .inr ⟨_, none, hg, h⟩
  | sls sz n cs =>
    have h : SemR P X w0 K (forceN sz n cs fun xs => A (.sl sz xs) none) := h
    rw [forceN_eq] at h
    exact .inr ⟨_, none, hg, h⟩
  | mk b => exact .inr ⟨_, some b, hg d rfl, h⟩
  | mkr e sz => exact .inr ⟨_, some _, hg d rfl, h⟩
  | eqs t neg cs ds =>
    obtain ⟨n, za, bs, h1, h2, h3, h4, h5, h6⟩ := h
    exact .inr ⟨_, none, hg n za bs h1 h2 h3 h4 h5, h6⟩
  | need q p => exact .inr ⟨p, none, hg h.1, h.2⟩
  | wrap k z => exact .inr ⟨_, none, hg, h⟩
  | div r k a b => exact .inr ⟨_, none, hg h.1, h.2⟩
  | ix xs i =>
    obtain ⟨c, h0, h1, h2⟩ := h
    exact .inr ⟨_, none, hg c h0 h1, h2⟩
  | ar cs n i =>
    obtain ⟨p, h0, h1, h2, h3⟩ := h
    exact .inr ⟨_, none, hg h0 h1 p h2, h3⟩
  | ld cs k =>
    obtain ⟨p, h2, h3⟩ := h
    exact .inr ⟨_, none, hg p h2, h3⟩
  | len xs => exact .inr ⟨_, none, hg, h⟩
  | br b p q =>
    cases b with
    | true => exact .inr ⟨p, none, hg.1 rfl, h.1 rfl⟩
    | false => exact .inr ⟨q, none, hg.2 rfl, h.2 rfl⟩
  | cut sz xs l hh =>
    obtain ⟨l', h', h1, h2, h3, h4, h5⟩ := h
    exact .inr ⟨_, none, hg l' h' h1 h2 h3 h4, h5⟩
  | call g args =>
    have h : SemR P X w0 K (forceL args fun args => .call g args d A M0) := h
    rw [forceL_eq] at h
    rcases h with ⟨r, hs, hc, hn, hk⟩ | ⟨rt, sz, ys, hs, hc, hk⟩ | h
    · exact .inr ⟨_, none, (hg _ hs hc).1 hn, hk⟩
    · exact .inr ⟨_, some _, (hg _ hs hc).2 d _ _ _ rfl rfl, hk⟩
    · exact .inl h
  | no => exact .inl h
theorem inB_some {d nt : Nat} {env : List (Nat × PV)} {lh : List (Nat × LB)} (h : Nat.blt d nt = true) : inB ⟨nt, env, lh⟩ (some d) = true := h
theorem opsS_sound (hT : T.Ok P id) {K : Exit → St → Prop} {a : Array Oper} {nt : Nat} {env : List (Nat × PV)} {lh : List (Nat × LB)} {fs : List Fr} (l : List Oper) (h : SemR P X w0 K (opsS T a nt env lh fs l)) : Sem P X w0 ⟨.ops a l, nt, env, lh, fs⟩ K := by
  cases l with
  | nil => exact RW.nil h
  | cons o l =>
    obtain ⟨dst, op, ty, pos, after, guard⟩ := o
    cases dst with
    | some d =>
      cases guard with
      | none =>
        simp only [opsS] at h
        cases hd : Nat.blt d nt with
        | false => rw [hd] at h; exact h
        | true =>
          rw [hd, cond_true] at h
          rcases opK_sound (opS_good hT (inB_some hd) op) h with h | ⟨p, ob, hok, hk⟩
          · exact h
          · cases ob with
            | none => exact RW.st hok hk
            | some b =>
              simp only [putA] at hk
              split at hk
              · exact RW.stB hok ‹_› hk
              · exact hk
      | some jw =>
        obtain ⟨j, want⟩ := jw
        simp only [opsS] at h
        cases hd : Nat.blt d nt with
        | false => rw [hd] at h; exact h
        | true =>
          rw [hd, cond_true] at h
          split at h
          · rename_i t hg
            obtain ⟨oj, h1, h2, h3⟩ := gT_undef hg
            exact RW.guardU rfl h1 h2 h3 (inB_some hd) h
          · rename_i t b hg
            obtain ⟨oj, h1, h2, h3⟩ := gT_spec hg
            cases want with
            | true => exact RW.gdS h1 h2 h3 hd (fun e => h.1 e) (fun e => h.2 e)
            | false => exact RW.gdS h1 h2 h3 hd (fun e => h.2 e) (fun e => h.1 e)
          · exact h
    | none =>
      cases guard with
      | some g => cases op <;> exact h
      | none =>
        cases op with
        | store t x v =>
          simp only [opsS] at h
          split at h
          · rename_i k cells b hs
            cases b with
            | true => exact RW.stS rfl (storeS_eff hT hs rfl) (h.1 rfl)
            | false => exact h.2 rfl
          · rename_i k cells b hs
            rw [forceL_eq] at h
            cases b with
            | true => exact RW.stS rfl (storeS_eff hT hs rfl) (h.1 rfl)
            | false => exact h.2 rfl
          · exact h
        | _ => exact h
theorem nbOf_ok (op : Op) (ty : TypeId) (pos : String) (after : Array Edge) (g : Option (Nat × Bool)) (d : Nat) (ob : Option LB) : nbOK ⟨some d, op, ty, pos, after, g⟩ (nbOf d ob) := by
  cases ob with
  | none => exact .inl rfl
  | some b => exact .inr ⟨d, b, rfl, rfl⟩
theorem UW.cons {a : Array Oper} {o : Oper} {l : List Oper} {tl : List (List Nat × List Nat)} {σ σ' : St} {K : St → Prop} {x : List Nat × List Nat} (hr : ∀ {σe tl'}, URun P a l σ' σe tl' → URun P a (o :: l) σ σe (x :: tl')) (h : UW P a l (x :: tl) σ' K) : UW P a (o :: l) tl σ K := by
  obtain ⟨σe, tl', h1, h2, h3⟩ := h.ex
  refine ⟨σe, x :: tl', hr h1, ?_, h3⟩
  rw [List.reverse_cons, List.append_assoc] at h2
  exact h2
theorem nbOf_map (d : Nat) (b : LB) : (nbOf d (some b)).map Prod.fst = [d] := rfl
theorem putD_sound {K : Exit → St → Prop} {a : Array Oper} {o : Oper} {l : List Oper} {tl : List (List Nat × List Nat)} {nt : Nat} {env : List (Nat × PV)} {lh : List (Nat × LB)} {fs : List Fr} {d : Nat} {M0 : Mc} {p : PV} {ob : Option LB} (hd : o.dst = some d) (hw : wantsU a ⟨nt, env, lh⟩ o true) (hok : OpOK P o ⟨nt, env, lh⟩ p (nbOf d ob)) (hnb : nbOK o (nbOf d ob)) (h : SemR P X w0 K (putD a o l tl nt env lh fs d M0 p ob)) :
    Sem P X w0 M0 K ∨ UW P a (o :: l) tl ⟨nt, env, lh⟩ (frK P X w0 fs K .normal) := by
  cases ob with
  | none =>
    simp only [putD, forceI_eq] at h
    exact .inr (UW.cons (x := ([], (⟨nt, env, lh⟩ : St).ids o)) (fun hr => .ok hw (.new hok hnb (newB_nil _)) (by rw [hd]; exact hr)) h)
  | some b =>
    simp only [putD] at h
    split at h
    · rw [forceI_eq] at h
      exact .inr (UW.cons (x := ([d], (⟨nt, env, lh⟩ : St).ids o)) (fun hr => .ok hw (.new hok hnb (newB_one ‹_›)) (by rw [hd]; exact hr)) h)
    · exact .inl h
theorem storeS_up (hT : T.Ok P id) {t : Nat} {nt : Nat} {env : List (Nat × PV)} {lh : List (Nat × LB)} {x v : Operand} {k : Nat} {cells : List PV} {b fl : Bool} {ty : TypeId} {pos : String} {after : Array Edge} (h : storeS T t env lh x v = some (k, cells, b, fl)) (hb : b = true) : OpUP P ⟨none, .store t x v, ty, pos, after, none⟩ ⟨nt, env, lh⟩ .any k (.box cells) := by
  unfold storeS at h
  split at h
  · rename_i id' o p hx hv
    split at h
    · rename_i cs ag n _ _ _ hbl h0
      have ht : TySz P t ag n := ⟨(TT.at hT h0).ty⟩
      obtain ⟨h1, h2, h3⟩ := stC_eq h
      subst h1 h2
      rw [← h3, Bool.and_eq_true] at hb
      refine ⟨fun σ' hag => ?_⟩
      have hx' : (⟨nt, env, lh⟩ : St).ev x = some (.lp id' o) := by rw [evE_eq]; exact hx
      exact eff_store_lp (hag.ev x (by simp [Op.operands]) _ hx') (hag.blk x (by simp [Op.operands]) _ id' _ hx' rfl hbl) (hag.ev v (by simp [Op.operands]) _ (by rw [evE_eq]; exact hv)) hb.1 hb.2
    · cases h
  · cases h
theorem dopsS_sound (hT : T.Ok P id) {K : Exit → St → Prop} {a : Array Oper} {tl : List (List Nat × List Nat)} {nt : Nat} {env : List (Nat × PV)} {lh : List (Nat × LB)} {fs : List Fr} (l : List Oper) (h : SemR P X w0 K (dopsS T a tl nt env lh fs l)) : Sem P X w0 ⟨.dops a l tl, nt, env, lh, fs⟩ K := by
  cases l with
  | nil => exact ⟨_, [], .nil, by rw [List.append_nil]; exact h.1, h.2⟩
  | cons o l =>
    obtain ⟨dst, op, ty, pos, after, guard⟩ := o
    cases dst with
    | none =>
      cases guard with
      | some g => cases op <;> exact h
      | none =>
        cases op with
        | store t x v =>
          simp only [dopsS] at h
          split at h
          · rename_i k cells b fl hs
            rw [forceL_eq] at h
            cases b with
            | true =>
              have h1 := h.1 rfl
              rw [forceI_eq] at h1
              exact UW.cons (o := ⟨none, .store t x v, ty, pos, after, none⟩) (σ := ⟨nt, env, lh⟩) (σ' := ⟨nt, env, (k, .box cells) :: lh⟩) (x := ([k], _)) (fun hr => .ok (p := .any) (nb := [(k, .box cells)]) (.inl rfl) (.upd (storeS_up hT hs rfl)) hr) h1
            | false => exact h.2 rfl
          · exact h
        | _ => exact h
    | some d =>
      cases guard with
      | none =>
        simp only [dopsS] at h
        cases hd : Nat.blt d nt with
        | false => rw [hd] at h; exact h
        | true =>
          rw [hd, cond_true] at h
          rcases opK_sound (opS_good hT (inB_some hd) op) h with h | ⟨p, ob, hok, hk⟩
          · exact h
          · rcases putD_sound (o := ⟨some d, op, ty, pos, after, none⟩) rfl (.inl rfl) hok (nbOf_ok ..) hk with h | h
            · exact h
            · exact h
      | some jw =>
        obtain ⟨j, want⟩ := jw
        simp only [dopsS] at h
        cases hd : Nat.blt d nt with
        | false => rw [hd] at h; exact h
        | true =>
          rw [hd, cond_true] at h
          split at h
          · rename_i t hg
            obtain ⟨oj, g1, g2, g3⟩ := gT_undef hg
            exact UW.cons (x := ([], [])) (fun hr => .skip (.inr ⟨rfl, j, want, oj, t, rfl, g1, g2, g3⟩) hd hr) h
          · rename_i t b hg
            obtain ⟨oj, g1, g2, g3⟩ := gT_spec hg
            have yes : ∀ (_ : b = want) (h : SemR P X w0 K (opK (opS T nt env lh op) d (putD a ⟨some d, op, ty, pos, after, some (j, want)⟩ l tl nt env lh fs d ⟨.dops a (⟨some d, op, ty, pos, after, some (j, want)⟩ :: l) tl, nt, env, lh, fs⟩) ⟨.dops a (⟨some d, op, ty, pos, after, some (j, want)⟩ :: l) tl, nt, env, lh, fs⟩)), Sem P X w0 ⟨.dops a (⟨some d, op, ty, pos, after, some (j, want)⟩ :: l) tl, nt, env, lh, fs⟩ K := by
              intro e h
              rcases opK_sound (opS_good (guard := none) hT (inB_some hd) op) h with h | ⟨p, ob, hok, hk⟩
              · exact h
              · rcases putD_sound (o := ⟨some d, op, ty, pos, after, some (j, want)⟩) rfl (.inl ⟨oj, t, b, g1, g2, g3, by rw [e]; simp⟩) hok.unguard (nbOf_ok ..) hk with h | h
                · exact h
                · exact h
            have no : ∀ (_ : b = !want) (h : UW P a l (([], []) :: tl) ⟨nt, (d, .v undef) :: env, lh⟩ (frK P X w0 fs K .normal)), Sem P X w0 ⟨.dops a (⟨some d, op, ty, pos, after, some (j, want)⟩ :: l) tl, nt, env, lh, fs⟩ K := fun e h =>
              UW.cons (x := ([], [])) (fun hr => .skip (.inl ⟨oj, t, b, g1, g2, g3, by rw [e]; cases want <;> rfl⟩) hd hr) h
            cases want with
            | true =>
              cases b with
              | true => exact yes rfl (h.1 rfl)
              | false => exact no rfl (h.2 rfl)
            | false =>
              cases b with
              | true => exact no rfl (h.1 rfl)
              | false => exact yes rfl (h.2 rfl)
          · exact h
theorem PW.const {v : Bool} {a b : Code} {σ : St} {K : Exit → St → Prop} (h : PW P X w0 (bif v then a else b) σ K) : PW P X w0 (.cond (.const (.bool v)) a b) σ K := by
  cases v with
  | true => exact PW.cond_t rfl h
  | false => exact PW.cond_f rfl h
theorem codeS_sound (hm : P.follows .mixedOrders = true) {K : Exit → St → Prop} {nt : Nat} {env : List (Nat × PV)} {lh : List (Nat × LB)} {fs : List Fr} (c : Code) (h : SemR P X w0 K (codeS nt env lh fs c)) : Sem P X w0 ⟨.code c, nt, env, lh, fs⟩ K := by
  cases c with
  | skip => exact PW.skip h
  | label _ => exact PW.label h
  | ret => exact PW.ret h
  | exit _ => exact PW.exit h
  | seq a b => exact PW.seq h
  | block k c => exact PW.block h
  | cond c a b =>
    simp only [codeS] at h
    split at h
    · split at h
      · rename_i t _ v hl
        exact PW.cond (b := v) hl (fun e => PW.weak (Weak.bool hl e) (h.1 e)) (fun e => PW.weak (Weak.bool hl e) (h.2 e))
      · exact h
    · exact PW.const (v := true) h
    · exact PW.const (v := false) h
    · exact h
  | region k ops draw =>
    cases draw with
    | true =>
      obtain ⟨h1, h2⟩ := h
      obtain ⟨σe, tl', h3, h4, h5⟩ := UW.ex h2
      have := PW.drawU (X := X) (w0 := w0) (id := k) (l := ops.toList) (K := frK P X w0 fs K) hm h1 h4 (by rw [Array.toArray_toList]; exact h3) h5
      rw [Array.toArray_toList] at this
      exact this
    | false =>
      have := PW.region (X := X) (w0 := w0) (id := k) (l := ops.toList) (K := frK P X w0 fs K) (by rw [Array.toArray_toList]; exact h)
      rw [Array.toArray_toList] at this
      exact this
  | loop c => exact h
  | rangeFunc _ _ _ _ => exact h
  | scope _ => exact h
  | goto _ => exact h
  | refuse _ => exact h
theorem PWL.round {n : Nat} {c : Code} {σ : St} {K : Exit → St → Prop} (h : PW P X w0 c σ (ThenK (fun σ => PWL P X w0 n c σ K) K)) : PWL P X w0 (n + 1) c σ K := ⟨fun a w μ s => by
  rw [rounds_succ]
  refine wp_mono (h.run a w μ s) ?_
  rintro e a' w' ⟨σ', μ', k, s'⟩
  cases k with
  | n k => exact k.run a' w' μ' s'
  | x k => exact ⟨σ', μ', k, s'⟩
  | g k => exact ⟨σ', μ', k, s'⟩
  | r k => exact ⟨σ', μ', k, s'⟩⟩
theorem PWL.loop {n : Nat} {c : Code} {σ : St} {K : Exit → St → Prop} (h : PWL P X w0 n c σ K) : PW P X w0 (.loop c) σ K := ⟨fun a w μ s => wp_loop_rounds n (h.run a w μ s)⟩
theorem exS_sound {K : Exit → St → Prop} {e : Exit} {nt : Nat} {env : List (Nat × PV)} {lh : List (Nat × LB)} (fs : List Fr) (h : SemR P X w0 K (exS e nt env lh fs)) : Sem P X w0 ⟨.ex e, nt, env, lh, fs⟩ K := by
  cases fs with
  | nil => exact h
  | cons f fs =>
    cases f with
    | seq c =>
      cases e with
      | normal => exact .n h
      | ret => exact .r h
      | exit j => exact .x h
      | goto l => exact .g h
      | panic v => exact h
      | outgrown => exact h
    | blk k =>
      cases e with
      | normal => exact .n h
      | ret => exact .r h
      | goto l => exact .g h
      | panic v => exact h
      | outgrown => exact h
      | exit j =>
        simp only [exS] at h
        cases hj : Nat.beq j k with
        | true =>
          have := Nat.eq_of_beq_eq_true hj
          subst this
          rw [hj] at h
          exact .x h
        | false => rw [hj] at h; exact .y hj h
    | lp n c =>
      cases e with
      | normal =>
        cases n with
        | zero => exact h
        | succ n => exact .n (PWL.round h)
      | ret => exact .r h
      | exit j => exact .x h
      | goto l => exact .g h
      | panic v => exact h
      | outgrown => exact h
theorem step_sound (hT : T.Ok P id) (hm : P.follows .mixedOrders = true) {K : Exit → St → Prop} {M : Mc} (h : SemR P X w0 K (step T M)) : Sem P X w0 M K := by
  obtain ⟨md, nt, env, lh, fs⟩ := M
  cases md with
  | code c => exact codeS_sound hm c h
  | ops a l => exact opsS_sound hT l h
  | dops a l tl => exact dopsS_sound hT l h
  | ex e => exact exS_sound fs h
theorem run_sound (hT : T.Ok P id) (hm : P.follows .mixedOrders = true) {K : Exit → St → Prop} : ∀ (n : Nat) {r : StepR}, SemR P X w0 K (run T n r) → SemR P X w0 K r
  | 0, _, h => h
  | n + 1, .next M, h => step_sound hT hm (run_sound hT hm n (r := step T M) h)
  | n + 1, .fin _ _, h => h
  | n + 1, .br _ _ _, h => h
  | n + 1, .need _ _, h => h
  | n + 1, .wrap _ _ _, h => h
  | n + 1, .div _ _ _ _ _, h => h
  | n + 1, .ix _ _ _, h => h
  | n + 1, .ar _ _ _ _, h => h
  | n + 1, .len _ _, h => h
  | n + 1, .ld _ _ _, h => h
  | n + 1, .eqs _ _ _ _ _, h => h
  | n + 1, .cut _ _ _ _, h => h
  | n + 1, .call _ _ _ _ _, h => h
  | n + 1, .stop _, h => h
/-- **The walk that reckons is right.** -/
theorem GoR.sem (hT : T.Ok P id) (hm : P.follows .mixedOrders = true) {K : Exit → St → Prop} {r : StepR} (h : GoR P X w0 T r K) : SemR P X w0 K r := by
  refine run_sound hT hm 100000 ?_
  have h : stk P X w0 T (run T 100000 r) K := h
  unfold stk at h
  split at h
  · rename_i e σ hr
    rw [hr]
    exact h
  all_goals
    rename_i hr
    rw [hr]
    exact h.h
end

/-! ### Results -/
def rvE (T : TT) (env : List (Nat × PV)) (lh : List (Nat × LB)) : ResultVar → Option PV
  | .tmp t => look t env
  | .cell t ty => match look t env with
    | some (.lp k 0) => match look k lh, T.get ty with
      | some (.box cells), some ⟨true, n, _, _, _⟩ => bif Nat.beq cells.length n then some (.agg cells) else none
      | some (.box [p]), some ⟨false, n, _, _, _⟩ => bif Nat.beq n 1 then some p else none
      | _, _ => none
    | _ => none
def rvL (T : TT) (env : List (Nat × PV)) (lh : List (Nat × LB)) : List ResultVar → Option (List PV)
  | [] => some []
  | r :: rs => match rvE T env lh r with
    | some p => match rvL T env lh rs with
      | some ps => some (p :: ps)
      | none => none
    | none => none
section
variable {P : Program} {X : XF} {w0 : World} {T : TT} {nt : Nat} {env : List (Nat × PV)} {lh : List (Nat × LB)}
theorem rvE_spec (hT : T.Ok P id) {r : ResultVar} {p : PV} (h : rvE T env lh r = some p) : RV P ⟨nt, env, lh⟩ r p := by
  cases r with
  | tmp t => exact .tmp h
  | cell t ty =>
    simp only [rvE] at h
    split at h
    · rename_i k hl
      split at h
      · rename_i cells n _ _ _ hb h0
        cases hc : Nat.beq cells.length n with
        | false => rw [hc] at h; cases h
        | true =>
          rw [hc] at h
          injection h with h
          subst h
          have : TySz P ty true n := ⟨(TT.at hT h0).ty⟩
          exact .cellN hl hb hc
      · rename_i q n _ _ _ hb h0
        cases hc : Nat.beq n 1 with
        | false => rw [hc] at h; cases h
        | true =>
          rw [hc] at h
          injection h with h
          subst h
          have e := Nat.eq_of_beq_eq_true hc
          subst e
          have : TySz P ty false 1 := ⟨(TT.at hT h0).ty⟩
          exact .cell1 hl hb
      · cases h
    · cases h
theorem rvL_spec (hT : T.Ok P id) : ∀ {rs : List ResultVar} {ps : List PV}, rvL T env lh rs = some ps → RVs P ⟨nt, env, lh⟩ rs ps
  | [], ps, h => by injection h with h; subst h; exact .nil
  | r :: rs, ps, h => by
    unfold rvL at h
    split at h
    · rename_i p hp
      split at h
      · rename_i qs hq
        injection h with h
        subst h
        exact .cons (rvE_spec hT hp) (rvL_spec hT hq)
      · cases h
    · cases h
end
/-- What is handed back: ps is what the results read as. -/
structure FinK (P : Program) (σ : St) (rs : List ResultVar) (ps : List PV) (r : PV) : Prop where
  h : Ret P rs σ r
def retK (P : Program) (T : TT) (rs : List ResultVar) (r : PV) : Exit → St → Prop
  | .ret, ⟨nt, env, lh⟩ => (match rvL T env lh rs with | some ps => FinK P ⟨nt, env, lh⟩ rs ps r | none => False)
  | .normal, ⟨nt, env, lh⟩ => (match rvL T env lh rs with | some ps => FinK P ⟨nt, env, lh⟩ rs ps r | none => False)
  | _, _ => False
theorem retK_ret {P : Program} {T : TT} {rs : List ResultVar} {r : PV} : ∀ {e : Exit} {σ : St}, retK P T rs r e σ → RetK P rs r e σ := by
  have key : ∀ {nt : Nat} {env : List (Nat × PV)} {lh : List (Nat × LB)}, (match rvL T env lh rs with | some ps => FinK P ⟨nt, env, lh⟩ rs ps r | none => False) → Ret P rs ⟨nt, env, lh⟩ r := by
    intro nt env lh h
    split at h
    · exact h.h
    · exact h.elim
  intro e σ h
  obtain ⟨nt, env, lh⟩ := σ
  cases e with
  | ret => exact .r (key h)
  | normal => exact .n (key h)
  | exit _ => exact h.elim
  | goto _ => exact h.elim
  | panic _ => exact h.elim
  | outgrown => exact h.elim
def inlF (k : PV → List (Nat × LB) → Prop) (lh : List (Nat × LB)) : Option (List PV) → Prop
  | some [p] => k p lh
  | some ps => k (.tup ps) lh
  | none => False
def inlK (T : TT) (rs : List ResultVar) (k : PV → List (Nat × LB) → Prop) : Exit → St → Prop
  | .ret, ⟨_, env, lh⟩ => inlF k lh (rvL T env lh rs)
  | .normal, ⟨_, env, lh⟩ => inlF k lh (rvL T env lh rs)
  | _, _ => False
theorem inlF_spec {k : PV → List (Nat × LB) → Prop} {lh : List (Nat × LB)} : ∀ {o : Option (List PV)}, inlF k lh o → ∃ ps, o = some ps ∧ k (oneOr ps) lh
  | some [], h => ⟨[], rfl, h⟩
  | some [p], h => ⟨[p], rfl, h⟩
  | some (p :: q :: ps), h => ⟨p :: q :: ps, rfl, h⟩
  | none, h => h.elim
theorem inlK_inl {P : Program} {T : TT} (hT : T.Ok P id) {rs : List ResultVar} {k : PV → List (Nat × LB) → Prop} : ∀ {e : Exit} {σ : St}, inlK T rs k e σ → InlK P rs k e σ := by
  have key : ∀ {nt : Nat} {env : List (Nat × PV)} {lh : List (Nat × LB)}, inlF k lh (rvL T env lh rs) → ∃ ps, RVs P ⟨nt, env, lh⟩ rs ps ∧ k (oneOr ps) lh := by
    intro nt env lh h
    obtain ⟨ps, h1, h2⟩ := inlF_spec h
    exact ⟨_, rvL_spec hT h1, h2⟩
  intro e σ h
  obtain ⟨nt, env, lh⟩ := σ
  cases e with
  | ret =>
    obtain ⟨ps, h1, h2⟩ := key h
    exact .r h1 h2
  | normal =>
    obtain ⟨ps, h1, h2⟩ := key h
    exact .n h1 h2
  | exit _ => exact h.elim
  | goto _ => exact h.elim
  | panic _ => exact h.elim
  | outgrown => exact h.elim
theorem InlK.mono {P : Program} {rs : List ResultVar} {k k' : PV → List (Nat × LB) → Prop} {e : Exit} {σ : St} (h : InlK P rs k e σ) (hk : ∀ r lh, k r lh → k' r lh) : InlK P rs k' e σ := by
  cases h with
  | n h1 h2 => exact .n h1 (hk _ _ h2)
  | r h1 h2 => exact .r h1 (hk _ _ h2)
/-- A function of the program. -/
class FnT (P : Program) (g : FuncId) (fn : outParam Func) : Prop where
  hf : P.funcs[g]? = some fn
  ent : Enters P g
/-- The tables of a program are right. -/
class TabT (P : Program) (T : outParam TT) : Prop where
  ok : T.Ok P id
  mixed : P.follows .mixedOrders = true
section
variable {P : Program} {X : XF} {w0 : World} {T : TT} {nt : Nat} {env : List (Nat × PV)} {lh : List (Nat × LB)}
theorem PW.ofG [tb : TabT P T] {c : Code} {K : Exit → St → Prop} (h : GoR P X w0 T (.next ⟨.code c, nt, env, lh, []⟩) K) : PW P X w0 c ⟨nt, env, lh⟩ K := GoR.sem tb.ok tb.mixed h
/-- **The entry.** -/
theorem Spec.ofR [tb : TabT P T] {f : FuncId} {fn : Func} [hf : FnT P f fn] {c : Code} {args : List PV} {r : PV} {m : Nat} {rs : List ResultVar} (hb : fn.body = some c := by rfl) (hnt : fn.ntmps = m := by rfl) (hrs : fn.results = rs.toArray := by rfl) (hn : Nat.ble args.length m = true := by rfl)
    (h : ∀ (F : Nat → Prop) (w0 : World), GoR P ⟨fun _ => False, F, [], []⟩ w0 T (.next ⟨.code c, m, envOf 0 args, [], []⟩) (retK P T rs r)) : Spec P f args r :=
  Spec.of hf.hf hb hf.ent hnt hrs hn fun F w0 => (PW.ofG (h F w0)).mono fun _ _ => retK_ret
/-- **A call walked in place.** -/
theorem RW.inlR [tb : TabT P T] {dst : Option Tmp} {ty : TypeId} {pos : String} {after : Array Edge} {ats : Array TypeId} {ops : Array Oper} {l : List Oper} {fs : List Fr} {K : Exit → St → Prop} {c : Operand} {g : FuncId} {first caps ps args : List PV} {xs : Array Operand} {fn : Func} {code : Code} {m : Nat} {rs : List ResultVar}
    (hc : evE env c = some (.fn (.func g) first caps)) (hx : evL env xs.toList = some ps) [hf : FnT P g fn] (hb : fn.body = some code) (hnt : fn.ntmps = m) (hrs : fn.results = rs.toArray) (ha : capp first ps caps = args) (hn : Nat.ble args.length m = true)
    (hd : inB ⟨nt, env, lh⟩ dst = true)
    (h : ∀ tm : Array Value, GoR P ⟨X.box, X.F, (env, tm) :: X.fr, []⟩ w0 T (.next ⟨.code code, m, envOf 0 args, lh, []⟩) (inlK T rs fun r lh' => GoR P X w0 T (.next ⟨.ops ops l, nt, (match dst with | some d => (d, r) :: env | none => env), lh', fs⟩) K)) :
    RW P X w0 ops (⟨dst, .call { callee := .value c, args := xs, argTypes := ats }, ty, pos, after, none⟩ :: l) ⟨nt, env, lh⟩ (frK P X w0 fs K .normal) := by
  subst ha
  rw [capp_eq] at hn
  have := RW.inl_ (ats := ats) (X := X) (w0 := w0) (ops := ops) (l := l) (K := frK P X w0 fs K .normal) (nt := nt) (env := env) (lh := lh) (dst := dst) (ty := ty) (pos := pos) (after := after) (by rw [evE_eq]; exact hc) (evL_eq (nt := nt) (lh := lh) hx) hf.hf hb hf.ent hnt hrs hn hd (fun tm => (PW.ofG (by
    have := h tm
    rw [capp_eq] at this
    exact this)).mono fun e σ k => ?_)
  · rwa [Array.toArray_toList] at this
  · refine (inlK_inl (P := P) tb.ok k).mono ?_
    intro r lh' hk
    have := GoR.sem tb.ok tb.mixed hk
    cases dst with
    | none => exact this
    | some d => exact this
end
end Go.Proofs.Ytlicjlahnbebcaa
