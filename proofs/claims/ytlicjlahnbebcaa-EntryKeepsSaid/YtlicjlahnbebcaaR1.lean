/- A walk that reckons: what each operation yields is computed; the walk stops where something is to be decided. -/
import Derived.Test.YtlicjlahnbebcaaE16
namespace Go.Proofs.Ytlicjlahnbebcaa
open Go.RowKit

/-! ### Types, in a table -/
inductive TK where
  | struct (fs : List (Nat × Nat × Bool)) (pl : List (Nat × Nat))
  | slice (e sz : Nat)
  | arr (n e sz : Nat)
  | str
  | int (k : IntKind)
  | bool
  | other
structure TI where
  ag : Bool
  sz : Nat
  kind : TK
  zero : Option (List Value)
  ez : Option (Value × Nat)
def fldsB (P : Program) (t : TypeId) : Option (List (Nat × Nat × Bool)) := match P.underlying t with
  | some (.struct fs) => fs.toList.mapM fun fl => (tyB P fl.type).map fun x => (fl.offset, x.2, x.1)
  | _ => none
def KindOK (P : Program) (t : TypeId) : TK → Prop
  | .struct fs pl => fldsB P t = some fs ∧ structB P t = some pl
  | .slice e sz => sliceB P t = some (e, sz)
  | .arr n e sz => arrB P t = some (n, e, sz)
  | .str => P.underlying t = some .string
  | .int k => P.underlying t = some (.int k)
  | .bool => P.underlying t = some .bool
  | .other => True
def ZeroOK (P : Program) (t : TypeId) : Option (List Value) → Prop
  | some z => zeroB P t = some z
  | none => True
def ezB (P : Program) (t : TypeId) : Option (Option Value × Nat × Nat) := (P.info? t).map fun i => (i.zero, i.size, i.bytes)
def EzOK (P : Program) (t : TypeId) (sz : Nat) : Option (Value × Nat) → Prop
  | some (z, b) => ezB P t = some (some z, sz, b)
  | none => True
structure TIok (P : Program) (t : TypeId) (i : TI) : Prop where
  ty : tyB P t = some (i.ag, i.sz)
  kind : KindOK P t i.kind
  zero : ZeroOK P t i.zero
  ez : EzOK P t i.sz i.ez
inductive TT where
  | e
  | n (v : Option TI) (l r : TT)
def TT.get : TT → Nat → Option TI
  | .e, _ => none
  | .n v l r, k => bif Nat.beq k 0 then v else bif Nat.beq (k % 2) 1 then l.get (k / 2) else r.get (k / 2 - 1)
def TT.Ok (P : Program) : TT → (Nat → Nat) → Prop
  | .e, _ => True
  | .n v l r, f => (∀ i, v = some i → TIok P (f 0) i) ∧ l.Ok P (fun k => f (2 * k + 1)) ∧ r.Ok P (fun k => f (2 * k + 2))
theorem TT.get_ok {P : Program} : ∀ {T : TT} {f : Nat → Nat}, T.Ok P f → ∀ {k : Nat} {i : TI}, T.get k = some i → TIok P (f k) i
  | .e, _, _, _, _, h => by cases h
  | .n v l r, f, h, k, i, hg => by
    unfold TT.get at hg
    cases h0 : Nat.beq k 0 with
    | true =>
      have := Nat.eq_of_beq_eq_true h0
      subst this
      rw [h0] at hg
      exact h.1 i hg
    | false =>
      have hk : k ≠ 0 := fun e => by subst e; cases h0
      rw [h0, cond_false] at hg
      cases h1 : Nat.beq (k % 2) 1 with
      | true =>
        have := Nat.eq_of_beq_eq_true h1
        rw [h1, cond_true] at hg
        have g := TT.get_ok h.2.1 hg
        rwa [show 2 * (k / 2) + 1 = k from by omega] at g
      | false =>
        have : k % 2 ≠ 1 := fun e => by rw [e] at h1; cases h1
        rw [h1, cond_false] at hg
        have g := TT.get_ok h.2.2 hg
        rwa [show 2 * (k / 2 - 1) + 2 = k from by omega] at g
theorem ezT_none {P : Program} {i : TI} {Q : Prop} (h : (none : Option TI) = some i) : Q := by cases h

/-! ### Operands -/
def evE (env : List (Nat × PV)) : Operand → Option PV
  | .tmp t => look t env
  | .const x => some (.v x)
  | .func f => some (.fn (.func f) [] [])
  | .global _ => none
theorem evE_eq {nt : Nat} {env : List (Nat × PV)} {lh : List (Nat × LB)} (x : Operand) : (⟨nt, env, lh⟩ : St).ev x = evE env x := by cases x <;> rfl
def evL (env : List (Nat × PV)) : List Operand → Option (List PV)
  | [] => some []
  | x :: xs => match evE env x with
    | some p => match evL env xs with
      | some ps => some (p :: ps)
      | none => none
    | none => none
theorem evL_eq {nt : Nat} {env : List (Nat × PV)} {lh : List (Nat × LB)} : ∀ {xs : List Operand} {ps : List PV}, evL env xs = some ps → xs.mapM (⟨nt, env, lh⟩ : St).ev = some ps
  | [], ps, h => by injection h with h; subst h; rfl
  | x :: xs, ps, h => by
    unfold evL at h
    split at h
    · rename_i p hp
      split at h
      · rename_i qs hq
        injection h with h
        subst h
        rw [List.mapM_cons, evE_eq, hp, evL_eq hq]
        rfl
      · cases h
    · cases h
def evPl (env : List (Nat × PV)) : List (Nat × Operand) → Option (List (Nat × PV))
  | [] => some []
  | (i, x) :: l => match evE env x with
    | some p => match evPl env l with
      | some ps => some ((i, p) :: ps)
      | none => none
    | none => none
theorem evPl_eq {nt : Nat} {env : List (Nat × PV)} {lh : List (Nat × LB)} : ∀ {l : List (Nat × Operand)} {ps : List (Nat × PV)}, evPl env l = some ps → (⟨nt, env, lh⟩ : St).evP l = some ps
  | [], ps, h => by injection h with h; subst h; rfl
  | (i, x) :: l, ps, h => by
    unfold evPl at h
    split at h
    · rename_i p hp
      split at h
      · rename_i qs hq
        injection h with h
        subst h
        simp only [St.evP, evE_eq, hp, evPl_eq hq]
      · cases h
    · cases h
def evO (env : List (Nat × PV)) : Option Operand → Option (Option Int)
  | none => some none
  | some x => match evE env x with
    | some (.v (.int _ i)) => some (some i)
    | _ => none

/-! ### What an operation yields -/
inductive OpR where
  | ok (p : PV)
  | agg (cs : List PV)
  | sls (sz n : Nat) (cs : List PV)
  | mkr (ty sz : Nat)
  | eqs (t : Nat) (neg : Bool) (cs ds : List PV)
  | mk (b : LB)
  | need (q : Prop) (p : PV)
  | wrap (k : IntKind) (z : Int)
  | div (rem : Bool) (k : IntKind) (a b : Int)
  | ix (xs : List (List PV)) (i : Int)
  | ar (rem : List PV) (n : Nat) (i : Int)
  | ld (cs : List PV) (k : Nat)
  | len (xs : List (List PV))
  | br (b : Bool) (p q : PV)
  | cut (sz : Nat) (xs : List (List PV)) (l h : Option Int)
  | call (g : Nat) (args : List PV)
  | no
def bndOK : Option Int → Nat → Nat → Prop
  | some i, _, m => 0 ≤ i ∧ m = i.toNat
  | none, d, m => m = d
section
variable (P : Program) (dst : Option Tmp) (op : Op) (ty : TypeId) (pos : String) (after : Array Edge) (guard : Option (Nat × Bool)) (σ : St)
/-- The operation yields p. -/
def YieldsP (p : PV) : Prop := OpOK P ⟨dst, op, ty, pos, after, guard⟩ σ p []
def OpR.Good : OpR → Prop
  | .ok p => OpOK P ⟨dst, op, ty, pos, after, guard⟩ σ p []
  | .agg cs => OpOK P ⟨dst, op, ty, pos, after, guard⟩ σ (.agg cs) []
  | .sls sz n cs => OpOK P ⟨dst, op, ty, pos, after, guard⟩ σ (.sl sz (chunks sz n cs)) []
  | .mkr e sz => ∀ d, dst = some d → OpOK P ⟨dst, op, ty, pos, after, guard⟩ σ (.row d 0) [(d, .row e sz 0 [])]
  | .eqs t neg cs ds => ∀ (n : Nat) (za bs : List Int), EqT P t n → cs = za.map pvI → ds = bs.map pvI → za.length = n → bs.length = n → OpOK P ⟨dst, op, ty, pos, after, guard⟩ σ (.v (.bool (bif neg then !tst (za = bs) else tst (za = bs)))) []
  | .mk b => ∀ d, dst = some d → OpOK P ⟨dst, op, ty, pos, after, guard⟩ σ (.lp d 0) [(d, b)]
  | .need q p => q → OpOK P ⟨dst, op, ty, pos, after, guard⟩ σ p []
  | .wrap k z => OpOK P ⟨dst, op, ty, pos, after, guard⟩ σ (.v (.int k (k.wrap z))) []
  | .div r k a b => b ≠ 0 → OpOK P ⟨dst, op, ty, pos, after, guard⟩ σ (.v (.int k (bif r then a.tmod b else k.wrap (a.tdiv b)))) []
  | .ix xs i => ∀ c, 0 ≤ i → xs[i.toNat]? = some c → OpOK P ⟨dst, op, ty, pos, after, guard⟩ σ (.ptr c) []
  | .ar cs n i => 0 ≤ i → i < n → ∀ p, cs[i.toNat]? = some p → OpOK P ⟨dst, op, ty, pos, after, guard⟩ σ p []
  | .ld cs k => ∀ p, cs[k]? = some p → OpOK P ⟨dst, op, ty, pos, after, guard⟩ σ p []
  | .len xs => OpOK P ⟨dst, op, ty, pos, after, guard⟩ σ (.v (.int .i64 (xs.length : Int))) []
  | .br b p q => (b = true → OpOK P ⟨dst, op, ty, pos, after, guard⟩ σ p []) ∧ (b = false → OpOK P ⟨dst, op, ty, pos, after, guard⟩ σ q [])
  | .cut sz xs l h => ∀ l' h', bndOK l 0 l' → bndOK h xs.length h' → l' ≤ h' → h' ≤ xs.length → OpOK P ⟨dst, op, ty, pos, after, guard⟩ σ (.sl sz ((xs.take h').drop l')) []
  | .call g args => ∀ r, Spec P g args r → closedL args = true → (r.noOwn = true → OpOK P ⟨dst, op, ty, pos, after, guard⟩ σ r []) ∧ (∀ d rt sz ys, dst = some d → r = .own rt sz ys → OpOK P ⟨dst, op, ty, pos, after, guard⟩ σ (.row d 0) [(d, .row rt sz 0 ys)])
  | .no => True
end
def kEq (k k' : IntKind) : Bool := decide (k = k')
noncomputable def binI (op : BinOp) (k : IntKind) (a b : Int) : OpR := match op with
  | .add => .wrap k (a + b)
  | .sub => .wrap k (a - b)
  | .mul => .wrap k (a * b)
  | .quo => .div false k a b
  | .rem => .div true k a b
  | .lss => .ok (.v (.bool (tst (a < b))))
  | .leq => .ok (.v (.bool (tst (a ≤ b))))
  | .gtr => .ok (.v (.bool (tst (b < a))))
  | .geq => .ok (.v (.bool (tst (b ≤ a))))
  | .eql => .ok (.v (.bool (tst (a = b))))
  | .neq => .ok (.v (.bool (!tst (a = b))))
  | .and => .ok (.v (.int k (bitI .and k a b)))
  | .or => .ok (.v (.int k (bitI .or k a b)))
  | _ => .no
noncomputable def binS (T : TT) (op : BinOp) (t : Nat) : PV → PV → OpR
  | .v (.int k a), .v (.int k' b) => match op with
    | .shl => .need (0 ≤ b) (.v (.int k (k.wrap (a * 2 ^ (min b.toNat k.bits)))))
    | .shr => .need (0 ≤ b) (.v (.int k (a.fdiv (2 ^ (min b.toNat k.bits)))))
    | op => bif kEq k k' then binI op k a b else .no
  | .v (.string a), .v (.string b) => match op with
    | .eql => .ok (.v (.bool (tst (a = b))))
    | .neq => .ok (.v (.bool (!tst (a = b))))
    | _ => .no
  | .v (.bool a), .v (.bool b) => match T.get t with
    | some ⟨_, _, .bool, _, _⟩ => match op with
      | .eql => .ok (.v (.bool (a == b)))
      | .neq => .ok (.v (.bool (!(a == b))))
      | _ => .no
    | _ => .no
  | .agg cs, .agg ds => match op with
    | .eql => .eqs t false cs ds
    | .neq => .eqs t true cs ds
    | _ => .no
  | _, _ => .no
def fieldS (T : TT) (s f : Nat) (cs : List PV) : OpR := match T.get s with
  | some ⟨_, _, .struct fs _, _, _⟩ => match fs[f]? with
    | some (off, n, true) => .agg ((cs.drop off).take n)
    | some (off, n, false) => bif Nat.beq n 1 then (match cs[off]? with | some p => .ok p | none => .no) else .no
    | none => .no
  | _ => .no
def fieldAS (T : TT) (s f : Nat) (lh : List (Nat × LB)) : PV → OpR := fun p => match T.get s with
  | some ⟨_, _, .struct fs _, _, _⟩ => match fs[f]? with
    | some (off, n, _) => bif Nat.beq n 0 then .no else match p with
      | .lp id k => .ok (.lp id (k + off))
      | .ptr cs => .ok (.ptr (cs.drop off))
      | .rp id ver sz i j => match look id lh with
        | some (.row _ sz' ver' _) => bif Nat.beq sz sz' && Nat.beq ver ver' then .ok (.rp id ver sz i (j + off)) else .no
        | _ => .no
      | _ => .no
    | none => .no
  | _ => .no
def loadS (T : TT) (t : Nat) (lh : List (Nat × LB)) : PV → OpR := fun p => match T.get t with
  | some ⟨ag, n, _, _, _⟩ => match p with
    | .lp id k => match look id lh with
      | some (.box cells) => bif ag then (bif Nat.beq k 0 && Nat.beq cells.length n then .ok (.agg cells) else bif Nat.ble (k + n) cells.length then .agg ((cells.drop k).take n) else .no)
        else bif Nat.beq n 1 then .ld cells k else .no
      | _ => .no
    | .ptr cs => bif ag then (bif Nat.beq cs.length n then .ok (.agg cs) else bif Nat.ble n cs.length then .agg (cs.take n) else .no)
        else bif Nat.beq n 1 then (match cs with | p :: _ => .ok p | [] => .no) else .no
    | _ => .no
  | none => .no
def indexAS (T : TT) (t : Nat) : PV → PV → OpR
  | .sl sz xs, .v (.int _ i) => match T.get t with
    | some ⟨_, _, .slice _ sz', _, _⟩ => bif Nat.beq sz sz' && !Nat.beq sz 0 then .ix xs i else .no
    | _ => .no
  | .lp id o, .v (.int _ i) => match T.get t with
    | some ⟨_, _, .arr n _ sz, _, _⟩ => .need (0 ≤ i ∧ i < n) (.lp id (o + i.toNat * sz))
    | _ => .no
  | .ptr cs, .v (.int _ i) => match T.get t with
    | some ⟨_, _, .arr n _ sz, _, _⟩ => .need (0 ≤ i ∧ i < n) (.ptr (cs.drop (i.toNat * sz)))
    | _ => .no
  | _, _ => .no
def indexS (T : TT) (t : Nat) : PV → PV → OpR
  | .agg cs, .v (.int _ i) => match T.get t with
    | some ⟨_, _, .arr n e sz, _, _⟩ => match T.get e with
      | some ⟨false, n1, _, _, _⟩ => bif Nat.beq sz 1 && Nat.beq n1 1 then .ar cs n i else .no
      | _ => .no
    | _ => .no
  | _, _ => .no
def buildS (T : TT) (t : Nat) (env : List (Nat × PV)) (parts : List (Nat × Operand)) : OpR := match T.get t with
  | some ⟨_, _, .struct _ pl, some zs, _⟩ => match evPl env parts with
    | some ps => match fillP (fun i => pl[i]?) (zs.map PV.v) ps with
      | some cs => bif zs.all Value.oneCell' then .agg cs else .no
      | none => .no
    | none => .no
  | _ => .no
def bslS (T : TT) (t : Nat) (n : Nat) (env : List (Nat × PV)) (parts : List (Nat × Operand)) : OpR := match T.get t with
  | some ⟨_, _, .slice e sz, _, _⟩ => match T.get e with
    | some ⟨_, sz', _, _, some (z, _)⟩ => bif Nat.beq n 0 then (match parts with | [] => (bif Nat.beq sz sz' && (Nat.beq z.cells.size sz && !Nat.beq sz 0 && z.cells.toList.all Value.oneCell') then .mkr e sz else .no) | _ => .no) else match evPl env parts with
      | some ps => match fillP (fun i => some (i * sz, sz)) (zeroPV n z.cells.toList) ps with
        | some cs => bif Nat.beq sz sz' && closedL cs && (Nat.ble (n * sz) 16777216 && Nat.beq z.cells.size sz && !Nat.beq sz 0 && z.cells.toList.all Value.oneCell') then .sls sz n cs else .no
        | none => .no
      | none => .no
    | _ => .no
  | _ => .no
def lenS (T : TT) (t : Nat) (lh : List (Nat × LB)) : PV → OpR
  | .sl _ xs => match T.get t with
    | some ⟨_, _, .slice _ _, _, _⟩ => .len xs
    | _ => .no
  | .v (.slice _ n _) => match T.get t with
    | some ⟨_, _, .slice _ _, _, _⟩ => .ok (.v (.int .i64 (n : Int)))
    | _ => .no
  | .v (.string s) => match T.get t with
    | some ⟨_, _, .str, _, _⟩ => .ok (.v (.int .i64 (s.size : Int)))
    | _ => .no
  | .row id ver => match T.get t, look id lh with
    | some ⟨_, _, .slice _ _, _, _⟩, some (.row _ _ ver' xs) => bif Nat.beq ver ver' then .len xs else .no
    | _, _ => .no
  | _ => .no
def boxS : PV → OpR
  | .agg cs => bif (PV.agg cs).lies then .mk (.box cs) else .no
  | p => bif p.lies then .mk (.box p.cells) else .no
def capp (first ps caps : List PV) : List PV := match first, caps with
  | [], [] => ps
  | _, _ => first ++ ps ++ caps
theorem capp_eq (first ps caps : List PV) : capp first ps caps = first ++ ps ++ caps := by
  unfold capp
  split
  · simp
  · rfl
def callS (T : TT) (c : Call) (env : List (Nat × PV)) (lh : List (Nat × LB)) : OpR := match c.callee with
  | .builtin b => match b, c.args.toList, c.argTypes.toList with
    | .len, [x], [t] => (match evE env x with | some p => lenS T t lh p | none => .no)
    | .max, [x, y], _ => (match evE env x, evE env y with | some (.v (.int .i64 i)), some (.v (.int .i64 j)) => .ok (.v (.int .i64 (max i j))) | _, _ => .no)
    | .min, [x, y], _ => (match evE env x, evE env y with | some (.v (.int .i64 i)), some (.v (.int .i64 j)) => .ok (.v (.int .i64 (min i j))) | _, _ => .no)
    | _, _, _ => .no
  | .value f => match evE env f with
    | some (.fn (.func g) first caps) => match evL env c.args.toList with
      | some ps => .call g (capp first ps caps)
      | none => .no
    | _ => .no
  | _ => .no
noncomputable def opS (T : TT) (nt : Nat) (env : List (Nat × PV)) (lh : List (Nat × LB)) : Op → OpR
  | .move x => (match evE env x with | some p => .ok p | none => .no)
  | .assign x => (match evE env x with | some p => .ok p | none => .no)
  | .pick c x y => (match evE env c with
    | some (.v (.bool b)) => match evE env x, evE env y with
      | some p, some q => .br b p q
      | _, _ => .no
    | _ => .no)
  | .extract x i => (match evE env x with
    | some (.tup cs) => match cs[i]? with
      | some p => .ok p
      | none => .no
    | _ => .no)
  | .nilCheck x => (match evE env x with
    | some (.lp id k) => .ok (.lp id k)
    | some (.ptr cs) => .ok (.ptr cs)
    | some (.fn (.func f) l r) => .ok (.fn (.func f) l r)
    | _ => .no)
  | .field s x f => (match evE env x with | some (.agg cs) => fieldS T s f cs | _ => .no)
  | .fieldAddr s x f => (match evE env x with | some p => fieldAS T s f lh p | none => .no)
  | .load t x => (match evE env x with | some p => loadS T t lh p | none => .no)
  | .indexAddr t x i => (match evE env x, evE env i with | some p, some q => indexAS T t p q | _, _ => .no)
  | .index t x i => (match evE env x, evE env i with | some p, some q => indexS T t p q | _, _ => .no)
  | .box _ x => (match evE env x with | some p => boxS p | none => .no)
  | .alloc e => (match T.get e with
    | some ⟨_, _, _, some zs, _⟩ => bif zs.all Value.oneCell' then .mk (.box (zs.map PV.v)) else .no
    | _ => .no)
  | .build t parts => buildS T t env parts.toList
  | .buildSlice t n parts => bslS T t n env parts.toList
  | .makeFunc fn first caps => (match evL env first.toList with
    | some ps => match evL env caps.toList with
      | some qs => .ok (.fn fn ps qs)
      | none => .no
    | none => .no)
  | .binOp op t x y _ => (match evE env x, evE env y with | some p, some q => binS T op t p q | _, _ => .no)
  | .unOp .not _ x => (match evE env x with | some (.v (.bool a)) => .ok (.v (.bool (!a))) | _ => .no)
  | .convert s t x => (match evE env x with
    | some (.v (.int k a)) => match T.get s with
      | some ⟨_, _, .int k1, _, _⟩ => match T.get t with
        | some ⟨_, _, .int k2, _, _⟩ => bif kEq k k1 then .wrap k2 a else .no
        | _ => .no
      | _ => .no
    | _ => .no)
  | .slice t x lo hi none => (match evE env x with
    | some (.sl sz xs) => match T.get t with
      | some ⟨_, _, .slice _ sz', _, _⟩ => match evO env lo with
        | some l => match evO env hi with
          | some h => bif Nat.beq sz sz' && !Nat.beq sz 0 then .cut sz xs l h else .no
          | none => .no
        | none => .no
      | _ => .no
    | _ => .no)
  | .call c => callS T c env lh
  | _ => .no
end Go.Proofs.Ytlicjlahnbebcaa
