/- Rules for the places where the walk that reckons stops. -/
import Derived.Test.YtlicjlahnbebcaaR3
namespace Go.Proofs.Ytlicjlahnbebcaa
open Go.RowKit
section
variable {P : Program} {X : XF} {w0 : World} {T : TT} {K : Exit → St → Prop} [tb : TabT P T]
theorem Stk.yes {r1 r2 : StepR} (h : GoR P X w0 T r1 K) : Stk P X w0 T (.br true r1 r2) K := ⟨⟨fun _ => h.sem tb.ok tb.mixed, (fun e => by cases e)⟩⟩
theorem Stk.no {r1 r2 : StepR} (h : GoR P X w0 T r2 K) : Stk P X w0 T (.br false r1 r2) K := ⟨⟨(fun e => by cases e), fun _ => h.sem tb.ok tb.mixed⟩⟩
theorem Stk.both {b : Bool} {r1 r2 : StepR} (t : b = true → GoR P X w0 T r1 K) (f : b = false → GoR P X w0 T r2 K) : Stk P X w0 T (.br b r1 r2) K := ⟨⟨fun e => (t e).sem tb.ok tb.mixed, fun e => (f e).sem tb.ok tb.mixed⟩⟩
theorem Stk.is {b : Bool} {r1 r2 : StepR} (e : b = true) (h : GoR P X w0 T r1 K) : Stk P X w0 T (.br b r1 r2) K := by subst e; exact Stk.yes h
theorem Stk.isnt {b : Bool} {r1 r2 : StepR} (e : b = false) (h : GoR P X w0 T r2 K) : Stk P X w0 T (.br b r1 r2) K := by subst e; exact Stk.no h
theorem Stk.need {q : Prop} {r : StepR} (hq : q) (h : GoR P X w0 T r K) : Stk P X w0 T (.need q r) K := ⟨⟨hq, h.sem tb.ok tb.mixed⟩⟩
theorem Stk.wrap {z : Int} {C : Int → StepR} (h1 : -9223372036854775808 ≤ z) (h2 : z ≤ 9223372036854775807) (h : GoR P X w0 T (C z) K) : Stk P X w0 T (.wrap .i64 z C) K := ⟨by
  show SemR P X w0 K (C (IntKind.i64.wrap z))
  rw [i64_wrap h1 h2]
  exact h.sem tb.ok tb.mixed⟩
theorem Stk.wrapA {k : IntKind} {z : Int} {C : Int → StepR} (h : GoR P X w0 T (C (k.wrap z)) K) : Stk P X w0 T (.wrap k z C) K := ⟨h.sem tb.ok tb.mixed⟩
theorem Stk.wrapE {k : IntKind} {z z' : Int} {C : Int → StepR} (e : k.wrap z = z') (h : GoR P X w0 T (C z') K) : Stk P X w0 T (.wrap k z C) K := by subst e; exact Stk.wrapA h
theorem u64_wrap {a : Int} (h1 : 0 ≤ a) (h2 : a ≤ 18446744073709551615) : IntKind.u64.wrap a = a := by
  show a.emod 18446744073709551616 = a
  exact Int.emod_eq_of_lt h1 (by omega)
theorem Stk.wrapU {z : Int} {C : Int → StepR} (h1 : 0 ≤ z) (h2 : z ≤ 18446744073709551615) (h : GoR P X w0 T (C z) K) : Stk P X w0 T (.wrap .u64 z C) K := ⟨by
  show SemR P X w0 K (C (IntKind.u64.wrap z))
  rw [u64_wrap h1 h2]
  exact h.sem tb.ok tb.mixed⟩
theorem Stk.quo {a b : Int} {C : Int → StepR} (h0 : 0 ≤ a) (hb : 0 < b) (h2 : a ≤ 9223372036854775807) (h : GoR P X w0 T (C (a / b)) K) : Stk P X w0 T (.div false .i64 a b C) K := ⟨⟨by omega, by
  have h3 : a / b ≤ a := Int.ediv_le_self _ h0
  have h4 : 0 ≤ a / b := Int.ediv_nonneg h0 (by omega)
  rw [cond_false, Int.tdiv_eq_ediv_of_nonneg h0, i64_wrap (by omega) (by omega)]
  exact h.sem tb.ok tb.mixed⟩⟩
theorem Stk.rem {k : IntKind} {a b : Int} {C : Int → StepR} (h0 : 0 ≤ a) (hb : 0 < b) (h : GoR P X w0 T (C (a % b)) K) : Stk P X w0 T (.div true k a b C) K := ⟨⟨by omega, by
  rw [cond_true, Int.tmod_eq_emod_of_nonneg h0]
  exact h.sem tb.ok tb.mixed⟩⟩
theorem Stk.divA {r : Bool} {k : IntKind} {a b : Int} {C : Int → StepR} (hb : b ≠ 0) (h : GoR P X w0 T (C (bif r then a.tmod b else k.wrap (a.tdiv b))) K) : Stk P X w0 T (.div r k a b C) K := ⟨⟨hb, h.sem tb.ok tb.mixed⟩⟩
theorem Stk.len {α : Type} {f : α → List PV} {l : List α} {C : Int → StepR} (h : GoR P X w0 T (C (l.length : Int)) K) : Stk P X w0 T (.len (l.map f) C) K := ⟨by
  show SemR P X w0 K (C ((l.map f).length : Int))
  rw [List.length_map]
  exact h.sem tb.ok tb.mixed⟩
theorem Stk.lenA {xs : List (List PV)} {C : Int → StepR} (h : GoR P X w0 T (C (xs.length : Int)) K) : Stk P X w0 T (.len xs C) K := ⟨h.sem tb.ok tb.mixed⟩
theorem Stk.lenE {xs : List (List PV)} {C : Int → StepR} {n : Nat} (e : xs.length = n) (h : GoR P X w0 T (C (n : Int)) K) : Stk P X w0 T (.len xs C) K := by subst e; exact Stk.lenA h
theorem Stk.ixN {α : Type} {f : α → List PV} {l : List α} {n : Nat} {C : List PV → StepR} (hn : n < l.length) (h : GoR P X w0 T (C (f (l[n]'hn))) K) : Stk P X w0 T (.ix (l.map f) (n : Int) C) K := ⟨⟨_, Int.natCast_nonneg _, by simp [hn], h.sem tb.ok tb.mixed⟩⟩
theorem Stk.ixI {α : Type} {f : α → List PV} {l : List α} {i : Int} {C : List PV → StepR} (h0 : 0 ≤ i) (hn : i.toNat < l.length) (h : GoR P X w0 T (C (f (l[i.toNat]'hn))) K) : Stk P X w0 T (.ix (l.map f) i C) K := ⟨⟨_, h0, by simp [hn], h.sem tb.ok tb.mixed⟩⟩
theorem Stk.ix {xs : List (List PV)} {i : Int} {C : List PV → StepR} (c : List PV) (h0 : 0 ≤ i) (hc : xs[i.toNat]? = some c) (h : GoR P X w0 T (C c) K) : Stk P X w0 T (.ix xs i C) K := ⟨⟨c, h0, hc, h.sem tb.ok tb.mixed⟩⟩
theorem Stk.ld {cs : List PV} {k : Nat} {p : PV} {C : PV → StepR} (hp : cs[k]? = some p) (h : GoR P X w0 T (C p) K) : Stk P X w0 T (.ld cs k C) K := ⟨⟨p, hp, h.sem tb.ok tb.mixed⟩⟩
theorem Stk.ar {cs : List PV} {n : Nat} {i : Int} {C : PV → StepR} (p : PV) (h0 : 0 ≤ i) (h1 : i < n) (hc : cs[i.toNat]? = some p) (h : GoR P X w0 T (C p) K) : Stk P X w0 T (.ar cs n i C) K := ⟨⟨p, h0, h1, hc, h.sem tb.ok tb.mixed⟩⟩
theorem Stk.cut {xs : List (List PV)} {l h : Option Int} {C : List (List PV) → StepR} (l' h' : Nat) (h1 : bndOK l 0 l') (h2 : bndOK h xs.length h') (h3 : l' ≤ h') (h4 : h' ≤ xs.length) (k : GoR P X w0 T (C ((xs.take h').drop l')) K) : Stk P X w0 T (.cut xs l h C) K := ⟨⟨l', h', h1, h2, h3, h4, k.sem tb.ok tb.mixed⟩⟩
/-- Two structs of ints. -/
theorem Stk.eqs {t n : Nat} {neg : Bool} {cs ds : List PV} {C : Bool → StepR} [hE : EqT P t n] (za bs : List Int) (h1 : cs = za.map pvI) (h2 : ds = bs.map pvI) (h3 : za.length = n) (h4 : bs.length = n) (h : GoR P X w0 T (C (bif neg then !tst (za = bs) else tst (za = bs))) K) : Stk P X w0 T (.eqs t neg cs ds C) K := ⟨⟨n, za, bs, hE, h1, h2, h3, h4, h.sem tb.ok tb.mixed⟩⟩
theorem Stk.eqsE {t n : Nat} {cs ds : List PV} {C : Bool → StepR} [hE : EqT P t n] (za zb : List Int) (h1 : cs = za.map pvI) (h2 : ds = zb.map pvI) (h3 : za.length = n) (h4 : zb.length = n) (h : GoR P X w0 T (C (tst (za = zb))) K) : Stk P X w0 T (.eqs t false cs ds C) K := Stk.eqs za zb h1 h2 h3 h4 h
theorem Stk.eqsN {t n : Nat} {cs ds : List PV} {C : Bool → StepR} [hE : EqT P t n] (za zb : List Int) (h1 : cs = za.map pvI) (h2 : ds = zb.map pvI) (h3 : za.length = n) (h4 : zb.length = n) (h : GoR P X w0 T (C (!tst (za = zb))) K) : Stk P X w0 T (.eqs t true cs ds C) K := Stk.eqs za zb h1 h2 h3 h4 h
theorem Stk.cutT {α : Type} {f : α → List PV} {l : List α} {n : Nat} {C : List (List PV) → StepR} (hn : n ≤ l.length) (k : GoR P X w0 T (C ((l.take n).map f)) K) : Stk P X w0 T (.cut (l.map f) none (some (n : Int)) C) K := ⟨⟨0, n, rfl, ⟨Int.natCast_nonneg _, rfl⟩, Nat.zero_le _, by simpa using hn, by
  rw [List.drop_zero, ← List.map_take]
  exact k.sem tb.ok tb.mixed⟩⟩
theorem Stk.cutD {α : Type} {f : α → List PV} {l : List α} {n : Nat} {C : List (List PV) → StepR} (hn : n ≤ l.length) (k : GoR P X w0 T (C ((l.drop n).map f)) K) : Stk P X w0 T (.cut (l.map f) (some (n : Int)) none C) K := ⟨⟨n, l.length, ⟨Int.natCast_nonneg _, rfl⟩, by simp [bndOK], hn, by simp, by
  rw [List.take_of_length_le (by simp), ← List.map_drop]
  exact k.sem tb.ok tb.mixed⟩⟩
/-- A slice held against nil. -/
theorem Stk.nilcmp {neg : Bool} {nt d : Nat} {env : List (Nat × PV)} {lh : List (Nat × LB)} {fs : List Fr} {ty : TypeId} {pos : String} {after : Array Edge} {ops : Array Oper} {l : List Oper} {t e yt sz sz' : Nat} {x : Operand} {xs : List (List PV)} [ht : SliceT P t e sz] (hx : evE env x = some (.sl sz' xs)) (hz : sz' ≠ 0) (hd : Nat.blt d nt = true)
    (h : ∀ b : Bool, (b = true → xs = []) → GoR P X w0 T (.next ⟨.ops ops l, nt, (d, .v (.bool (bif neg then !b else b))) :: env, lh, fs⟩) K) : Stk P X w0 T (.stop ⟨.ops ops (⟨some d, .binOp (bif neg then .neq else .eql) t x (.const (.slice none 0 0)) yt, ty, pos, after, none⟩ :: l), nt, env, lh, fs⟩) K :=
  ⟨RW.nilcmp ht.h hz (by rw [evE_eq]; exact hx) hd fun b hb => (h b hb).sem tb.ok tb.mixed⟩
section
variable {d g : Nat} {A : PV → Option LB → StepR} {M0 : Mc}
theorem Stk.call {args : List PV} {r : PV} [hs : HasSpec P g args r] (hc : closedL args = true := by rfl) (hn : r.noOwn = true := by rfl) (h : GoR P X w0 T (A r none) K) : Stk P X w0 T (.call g args d A M0) K := ⟨.inl ⟨r, hs.h, hc, hn, h.sem tb.ok tb.mixed⟩⟩
theorem Stk.callO {args : List PV} {rt sz : Nat} {ys : List (List PV)} [hs : HasSpecO P g args rt sz ys] (hc : closedL args = true := by rfl) (h : GoR P X w0 T (A (.row d 0) (some (.row rt sz 0 ys))) K) : Stk P X w0 T (.call g args d A M0) K := ⟨.inr (.inl ⟨rt, sz, ys, hs.h, hc, h.sem tb.ok tb.mixed⟩)⟩
/-- By a contract that is named. -/
theorem Stk.by {args args' : List PV} {r : PV} (hs : HasSpec P g args' r) (e : args = args' := by rfl) (hc : closedL args' = true := by rfl) (hn : r.noOwn = true := by rfl) (h : GoR P X w0 T (A r none) K) : Stk P X w0 T (.call g args d A M0) K := by
  subst e
  exact ⟨.inl ⟨r, hs.h, hc, hn, h.sem tb.ok tb.mixed⟩⟩
theorem Stk.byO {args args' : List PV} {rt sz : Nat} {ys : List (List PV)} (hs : HasSpecO P g args' rt sz ys) (e : args = args' := by rfl) (hc : closedL args' = true := by rfl) (h : GoR P X w0 T (A (.row d 0) (some (.row rt sz 0 ys))) K) : Stk P X w0 T (.call g args d A M0) K := by
  subst e
  exact ⟨.inr (.inl ⟨rt, sz, ys, hs.h, hc, h.sem tb.ok tb.mixed⟩)⟩
end
/-- A call walked in place. -/
theorem Stk.inl {g d : Nat} {A : PV → Option LB → StepR} {nt : Nat} {env : List (Nat × PV)} {lh : List (Nat × LB)} {fs : List Fr} {ty : TypeId} {pos : String} {after : Array Edge} {ats : Array TypeId} {ops : Array Oper} {l : List Oper} {c : Operand} {first caps ps args args' : List PV} {xs : Array Operand} {fn : Func} {code : Code} {m : Nat} {rs : List ResultVar}
    [hf : FnT P g fn] (hc : evE env c = some (.fn (.func g) first caps) := by rfl) (hx : evL env xs.toList = some ps := by rfl) (hb : fn.body = some code := by rfl) (hnt : fn.ntmps = m := by rfl) (hrs : fn.results = rs.toArray := by rfl) (ha : capp first ps caps = args := by rfl) (hn : Nat.ble args.length m = true := by rfl)
    (hd : Nat.blt d nt = true := by rfl)
    (h : ∀ tm : Array Value, GoR P ⟨X.box, X.F, (env, tm) :: X.fr, []⟩ w0 T (.next ⟨.code code, m, envOf 0 args, lh, []⟩) (inlK T rs fun r lh' => GoR P X w0 T (.next ⟨.ops ops l, nt, (d, r) :: env, lh', fs⟩) K)) :
    Stk P X w0 T (.call g args' d A ⟨.ops ops (⟨some d, .call { callee := .value c, args := xs, argTypes := ats }, ty, pos, after, none⟩ :: l), nt, env, lh, fs⟩) K :=
  ⟨.inr (.inr (RW.inlR (dst := some d) hc hx hb hnt hrs ha hn (inB_some hd) h))⟩
/-- A call without a result, walked in place. -/
theorem Stk.inl0 {g : Nat} {nt : Nat} {env : List (Nat × PV)} {lh : List (Nat × LB)} {fs : List Fr} {ty : TypeId} {pos : String} {after : Array Edge} {ats : Array TypeId} {ops : Array Oper} {l : List Oper} {c : Operand} {first caps ps args : List PV} {xs : Array Operand} {fn : Func} {code : Code} {m : Nat} {rs : List ResultVar}
    (hc : evE env c = some (.fn (.func g) first caps) := by rfl) (hx : evL env xs.toList = some ps := by rfl) [hf : FnT P g fn] (hb : fn.body = some code := by rfl) (hnt : fn.ntmps = m := by rfl) (hrs : fn.results = rs.toArray := by rfl) (ha : capp first ps caps = args := by rfl) (hn : Nat.ble args.length m = true := by rfl)
    (h : ∀ tm : Array Value, GoR P ⟨X.box, X.F, (env, tm) :: X.fr, []⟩ w0 T (.next ⟨.code code, m, envOf 0 args, lh, []⟩) (inlK T rs fun _ lh' => GoR P X w0 T (.next ⟨.ops ops l, nt, env, lh', fs⟩) K)) :
    Stk P X w0 T (.stop ⟨.ops ops (⟨none, .call { callee := .value c, args := xs, argTypes := ats }, ty, pos, after, none⟩ :: l), nt, env, lh, fs⟩) K :=
  ⟨RW.inlR (dst := none) hc hx hb hnt hrs ha hn rfl h⟩
/-- An operation by a rule of its own. -/
theorem Stk.op {nt d : Nat} {env : List (Nat × PV)} {lh : List (Nat × LB)} {fs : List Fr} {op : Op} {ty : TypeId} {pos : String} {after : Array Edge} {ops : Array Oper} {l : List Oper} {p : PV} (h : OpOK P ⟨some d, op, ty, pos, after, none⟩ ⟨nt, env, lh⟩ p []) (k : GoR P X w0 T (.next ⟨.ops ops l, nt, (d, p) :: env, lh, fs⟩) K) :
    Stk P X w0 T (.stop ⟨.ops ops (⟨some d, op, ty, pos, after, none⟩ :: l), nt, env, lh, fs⟩) K := ⟨RW.st h (k.sem tb.ok tb.mixed)⟩
theorem Stk.opB {nt d : Nat} {env : List (Nat × PV)} {lh : List (Nat × LB)} {fs : List Fr} {op : Op} {ty : TypeId} {pos : String} {after : Array Edge} {ops : Array Oper} {l : List Oper} {p : PV} {b : LB} (h : OpOK P ⟨some d, op, ty, pos, after, none⟩ ⟨nt, env, lh⟩ p [(d, b)]) (hn : look d lh = none) (k : GoR P X w0 T (.next ⟨.ops ops l, nt, (d, p) :: env, (d, b) :: lh, fs⟩) K) :
    Stk P X w0 T (.stop ⟨.ops ops (⟨some d, op, ty, pos, after, none⟩ :: l), nt, env, lh, fs⟩) K := ⟨RW.stB h hn (k.sem tb.ok tb.mixed)⟩
theorem Stk.eff {nt : Nat} {env : List (Nat × PV)} {lh lh' : List (Nat × LB)} {env' : List (Nat × PV)} {fs : List Fr} {o : Oper} {ops : Array Oper} {l : List Oper} (hg : o.guard = none := by rfl) (h : OpEff P o ⟨nt, env, lh⟩ ⟨nt, env', lh'⟩) (k : GoR P X w0 T (.next ⟨.ops ops l, nt, env', lh', fs⟩) K) :
    Stk P X w0 T (.stop ⟨.ops ops (o :: l), nt, env, lh, fs⟩) K := ⟨RW.stE hg h (k.sem tb.ok tb.mixed)⟩
/-- A slice of one's own grows. -/
theorem Stk.app {nt d id : Nat} {b : LB} {p : PV} {env : List (Nat × PV)} {lh : List (Nat × LB)} {fs : List Fr} {o : Oper} {ops : Array Oper} {l : List Oper} (hg : o.guard = none) (h : OpEff P o ⟨nt, env, lh⟩ ((St.setB ⟨nt, env, lh⟩ id b).put (some d) p)) (k : GoR P X w0 T (.next ⟨.ops ops l, nt, (d, p) :: env, (id, b) :: lh, fs⟩) K) :
    Stk P X w0 T (.stop ⟨.ops ops (o :: l), nt, env, lh, fs⟩) K := ⟨RW.stA hg h (k.sem tb.ok tb.mixed)⟩
/-- A slice of one's own grows in a region that draws its order. -/
theorem Stk.appD {nt d id : Nat} {b : LB} {p : PV} {env : List (Nat × PV)} {lh : List (Nat × LB)} {fs : List Fr} {op : Op} {ty : TypeId} {pos : String} {after : Array Edge} {a : Array Oper} {l : List Oper} {tl : List (List Nat × List Nat)} (h : OpUP P ⟨some d, op, ty, pos, after, none⟩ ⟨nt, env, lh⟩ p id b) {ids : List Nat} (hi : (⟨nt, env, lh⟩ : St).ids ⟨some d, op, ty, pos, after, none⟩ = ids) (k : GoR P X w0 T (.next ⟨.dops a l (([id], ids) :: tl), nt, (d, p) :: env, (id, b) :: lh, fs⟩) K) :
    Stk P X w0 T (.stop ⟨.dops a (⟨some d, op, ty, pos, after, none⟩ :: l) tl, nt, env, lh, fs⟩) K := by
  subst hi
  exact ⟨UW.cons (o := ⟨some d, op, ty, pos, after, none⟩) (σ := ⟨nt, env, lh⟩) (σ' := ⟨nt, (d, p) :: env, (id, b) :: lh⟩) (x := ([id], _)) (fun hr => .ok (p := p) (nb := [(id, b)]) (.inl rfl) (.upd h) hr) (k.sem tb.ok tb.mixed)⟩
theorem up_append {σ : St} {ty : TypeId} {pos : String} {after : Array Edge} {guard : Option (Nat × Bool)} {d t e sz bytes id ver : Nat} {z : Value} {s x : Operand} {xs ys : List (List PV)} [h : SliceT P t e sz] [hz : ElemT P e z sz bytes] (hs : σ.ev s = some (.row id ver)) (hb : σ.blk id = some (.row e sz ver xs)) (hx : σ.ev x = some (.sl sz ys)) (hzs : Nat.beq z.cells.size sz = true) (hsz : sz ≠ 0) (h1 : xs.length + ys.length ≤ maxLen) (h2 : (xs.length + ys.length) * bytes ≤ 140737488355328) (hd : inB σ (some d) = true) :
    OpUP P ⟨some d, .call { callee := .builtin .append, args := #[s, x], argTypes := #[t, t] }, ty, pos, after, guard⟩ σ (.row id (ver + 1)) id (.row e sz (ver + 1) (xs ++ ys)) :=
  ⟨fun σ' hag => eff_append (hag.ev s (by simp [Op.operands, Call.operands]) _ hs) (hag.blk s (by simp [Op.operands, Call.operands]) _ id _ hs rfl hb) (hag.ev x (by simp [Op.operands, Call.operands]) _ hx) hzs hsz h1 h2 (SimM.nt_inB hag hd)⟩
/-- Another state stands for this one. -/
theorem Stk.weak {md : Md} {nt : Nat} {env env' : List (Nat × PV)} {lh lh' : List (Nat × LB)} {fs : List Fr} (hw : Weak X w0 ⟨nt, env, lh⟩ ⟨nt, env', lh'⟩) (k : GoR P X w0 T (.next ⟨md, nt, env', lh', fs⟩) K) (hmd : match md with | .code _ => True | .ops _ _ => True | _ => False) : Stk P X w0 T (.stop ⟨md, nt, env, lh, fs⟩) K := ⟨by
  have k := k.sem tb.ok tb.mixed
  cases md with
  | code c => exact PW.weak hw k
  | ops a l => exact RW.weak hw k
  | dops _ _ _ => exact hmd.elim
  | ex _ => exact hmd.elim⟩
/-- A loop of few rounds, one behind the other. -/
theorem Stk.unroll (n : Nat) {c : Code} {nt : Nat} {env : List (Nat × PV)} {lh : List (Nat × LB)} {fs : List Fr} (h : GoR P X w0 T (.next ⟨.code c, nt, env, lh, .lp n c :: fs⟩) K) : Stk P X w0 T (.stop ⟨.code (.loop c), nt, env, lh, fs⟩) K :=
  ⟨PWL.loop (n := n + 1) (PWL.round (GoR.sem tb.ok tb.mixed h))⟩
/-- Another state stands for this one, ahead of a call. -/
theorem Stk.weakC {g d : Nat} {args : List PV} {A : PV → Option LB → StepR} {a : Array Oper} {l : List Oper} {nt : Nat} {env env' : List (Nat × PV)} {lh lh' : List (Nat × LB)} {fs : List Fr} (hw : Weak X w0 ⟨nt, env, lh⟩ ⟨nt, env', lh'⟩) (k : GoR P X w0 T (.next ⟨.ops a l, nt, env', lh', fs⟩) K) : Stk P X w0 T (.call g args d A ⟨.ops a l, nt, env, lh, fs⟩) K :=
  ⟨.inr (.inr (RW.weak hw (GoR.sem tb.ok tb.mixed k)))⟩
/-- What a round of a loop comes to. -/
def loopK (P : Program) (X : XF) (w0 : World) (T : TT) (N : Nat → List (Nat × PV) → List (Nat × LB) → Prop) (fs : List Fr) (K : Exit → St → Prop) : Exit → St → Prop
  | .normal, ⟨nt, env, lh⟩ => N nt env lh
  | .ret, ⟨nt, env, lh⟩ => GoR P X w0 T (.next ⟨.ex .ret, nt, env, lh, fs⟩) K
  | .exit j, ⟨nt, env, lh⟩ => GoR P X w0 T (.next ⟨.ex (.exit j), nt, env, lh, fs⟩) K
  | _, _ => False
/-- A loop. -/
theorem Stk.loop {ι : Type} (E : ι → List (Nat × PV)) (L : ι → List (Nat × LB)) (ok : ι → Prop) (m : ι → Nat) (i0 : ι) {c : Code} {nt : Nat} {env : List (Nat × PV)} {lh : List (Nat × LB)} {fs : List Fr} (h0 : ok i0) (hw : Weak X w0 ⟨nt, env, lh⟩ ⟨nt, E i0, L i0⟩)
    (round : ∀ i, ok i → GoR P X w0 T (.next ⟨.code c, nt, E i, L i, []⟩) (loopK P X w0 T (fun nt' env' lh' => ∃ i', ok i' ∧ m i' < m i ∧ Weak X w0 ⟨nt', env', lh'⟩ ⟨nt, E i', L i'⟩) fs K)) : Stk P X w0 T (.stop ⟨.code (.loop c), nt, env, lh, fs⟩) K :=
  ⟨PW.loop (fun i => ⟨nt, E i, L i⟩) ok m i0 h0 hw fun i hi => (PW.ofG (round i hi)).mono fun e σ k => by
    obtain ⟨nt', env', lh'⟩ := σ
    cases e with
    | normal => exact .n k
    | ret => exact .r (GoR.sem tb.ok tb.mixed k)
    | exit j => exact .x (GoR.sem tb.ok tb.mixed k)
    | goto l => exact k.elim
    | panic _ => exact k.elim
    | outgrown => exact k.elim⟩
end
/-- Every slice has a length. -/
theorem rep_len {w : World} {μ : LMap} {sz : Nat} {xs : List (List PV)} {y : Value} (h : Rep w μ (.sl sz xs) y) : xs.length ≤ 9223372036854775807 := by
  simp only [Rep] at h
  obtain ⟨A, c', _, h2, h3, _⟩ := h
  have : maxLen = 9223372036854775807 := by decide
  omega
theorem Spec.bound {P : Program} {f : FuncId} {fn : Func} [hf : FnT P f fn] {args : List PV} {r : PV} (i : Nat) {sz : Nat} {xs : List (List PV)} (h : args[i]? = some (.sl sz xs)) (k : xs.length ≤ 9223372036854775807 → Spec P f args r) : Spec P f args r :=
  ⟨hf.ent, fun F w vs hF hv => by
    obtain ⟨y, _, hy⟩ := hv.get i _ h
    exact (k (rep_len hy)).run F w vs hF hv⟩
theorem Spec.boundA {P : Program} {f : FuncId} {fn : Func} [hf : FnT P f fn] {args : List PV} {r : PV} (i j : Nat) {cs : List PV} {sz : Nat} {xs : List (List PV)} (h : args[i]? = some (.agg cs)) (h2 : cs[j]? = some (.sl sz xs)) (k : xs.length ≤ 9223372036854775807 → Spec P f args r) : Spec P f args r :=
  ⟨hf.ent, fun F w vs hF hv => by
    obtain ⟨y, _, hy⟩ := hv.get i _ h
    simp only [Rep] at hy
    obtain ⟨us, _, hu, _⟩ := hy
    obtain ⟨z, _, hz⟩ := hu.get j _ h2
    exact (k (rep_len hz)).run F w vs hF hv⟩
/-! ### What is no longer needed is let go -/
mutual
def PV.onlyB (s : List Nat) : PV → Bool
  | .lp i _ | .row i _ | .rp i _ _ _ _ => s.any (Nat.beq i)
  | .agg cs | .tup cs => onlyL s cs
  | .fn _ a b => onlyL s a && onlyL s b
  | .ifc _ x => x.onlyB s
  | _ => true
def onlyL (s : List Nat) : List PV → Bool
  | [] => true
  | c :: cs => c.onlyB s && onlyL s cs
end
def LMap.keep (μ : LMap) (s : List Nat) : LMap := ⟨μ.F, fun k => if s.any (Nat.beq k) then μ.m k else Option.none⟩
theorem LMap.keep_in (μ : LMap) {s : List Nat} {k : Nat} (h : s.any (Nat.beq k) = true) : (μ.keep s).m k = μ.m k := if_pos h
theorem LMap.keep_some {μ : LMap} {s : List Nat} {k : Nat} {l : LI} (h : (μ.keep s).m k = some l) : s.any (Nat.beq k) = true ∧ μ.m k = some l := by
  unfold LMap.keep at h
  simp only at h
  split at h
  · exact ⟨‹_›, h⟩
  · cases h
theorem LMap.keep_owns {μ : LMap} {s : List Nat} {g : Nat} (h : (μ.keep s).owns g) : μ.owns g := by
  rcases h with h | ⟨k, l, hl, hb⟩
  · exact .inl h
  · exact .inr ⟨k, l, (LMap.keep_some hl).2, hb⟩
theorem Later.keep {w : World} {μ : LMap} {s : List Nat} : Later w μ.shut w (μ.keep s).shut :=
  ⟨fun a u hc ho => ⟨hc, fun h => ho (by rw [LMap.shut_owns] at h ⊢; exact LMap.keep_owns h)⟩, fun _ _ h => (by cases h), fun _ _ _ h => (by cases h)⟩
mutual
theorem Rep.keep {w : World} {μ : LMap} {s : List Nat} : ∀ (p : PV) (y : Value), p.onlyB s = true → Rep w μ p y → Rep w (μ.keep s) p y
  | .v _, _, _, r => r
  | .any, _, _, _ => trivial
  | .agg cs, _, h, ⟨vs, e, r, h1⟩ => ⟨vs, e, RepL.keep cs vs (by simpa [PV.onlyB] using h) r, h1⟩
  | .tup cs, _, h, ⟨vs, e, r⟩ => ⟨vs, e, RepL.keep cs vs (by simpa [PV.onlyB] using h) r⟩
  | .sl sz xs, _, _, ⟨A, c, e, h1, h2, r⟩ => ⟨A, c, e, h1, h2, RepR.later Later.keep A sz xs 0 r⟩
  | .ptr cs, _, _, ⟨a, e, r⟩ => ⟨a, e, RepC.later Later.keep (some a) cs 0 r⟩
  | .lp i o, _, h, ⟨g, hg, e⟩ => ⟨g, by rw [LMap.keep_in _ h]; exact hg, e⟩
  | .row i ver, _, h, ⟨z, k, hz, hv⟩ => ⟨z, k, by rw [LMap.keep_in _ h]; exact hz, hv⟩
  | .rp i ver sz j o, _, h, ⟨z, k, hz, hv⟩ => ⟨z, k, by rw [LMap.keep_in _ h]; exact hz, hv⟩
  | .own _ _ _, _, _, r => r
  | .fn _ first caps, _, h, ⟨vs, us, e, r1, r2⟩ => by
    simp only [PV.onlyB, Bool.and_eq_true] at h
    exact ⟨vs, us, e, RepL.keep first vs h.1 r1, RepL.keep caps us h.2 r2⟩
  | .ifc _ x, _, h, ⟨z, e, r⟩ => ⟨z, e, Rep.keep x z (by simpa [PV.onlyB] using h) r⟩
theorem RepL.keep {w : World} {μ : LMap} {s : List Nat} : ∀ (cs : List PV) (vs : List Value), onlyL s cs = true → RepL w μ cs vs → RepL w (μ.keep s) cs vs
  | [], _, _, r => r
  | c :: cs, _, h, ⟨u, us, e, r1, r2⟩ => by
    simp only [onlyL, Bool.and_eq_true] at h
    exact ⟨u, us, e, Rep.keep c u h.1 r1, RepL.keep cs us h.2 r2⟩
end
def LB.onlyB (s : List Nat) : LB → Bool
  | .box cells => onlyL s cells
  | .row _ _ _ xs => xs.all (onlyL s)
theorem onlyL_append {s : List Nat} : ∀ {a b : List PV}, onlyL s a = true → onlyL s b = true → onlyL s (a ++ b) = true
  | [], _, _, h => h
  | c :: a, b, h1, h2 => by
    simp only [onlyL, Bool.and_eq_true, List.cons_append] at h1 ⊢
    exact ⟨h1.1, onlyL_append h1.2 h2⟩
theorem onlyL_flatten {s : List Nat} : ∀ {xs : List (List PV)}, xs.all (onlyL s) = true → onlyL s xs.flatten = true
  | [], _ => rfl
  | e :: es, h => by
    rw [List.all_cons, Bool.and_eq_true] at h
    rw [List.flatten_cons]
    exact onlyL_append h.1 (onlyL_flatten h.2)
def onlyE (s : List Nat) (env : List (Nat × PV)) : Bool := env.all fun x => x.2.onlyB s
def onlyH (s : List Nat) (lh : List (Nat × LB)) : Bool := lh.all fun x => x.2.onlyB s
def onlyF (s : List Nat) (fr : List (List (Nat × PV) × Array Value)) : Bool := fr.all fun e => onlyE s e.1
theorem onlyH_row {α : Type} {f : α → List PV} {s : List Nat} {l : List α} {k t sz ver : Nat} {lh : List (Nat × LB)} (h : ∀ x, onlyL s (f x) = true) (h2 : onlyH s lh = true) : onlyH s ((k, .row t sz ver (l.map f)) :: lh) = true := by
  unfold onlyH at h2 ⊢
  rw [List.all_cons, h2, Bool.and_true]
  show (l.map f).all (onlyL s) = true
  rw [List.all_eq_true]
  intro e he
  obtain ⟨x, _, rfl⟩ := List.mem_map.1 he
  exact h x
/-- **The second state says what the first one says, or less; variables of one's own may be gone.** -/
theorem Weak.gc {X : XF} {w0 : World} {nt : Nat} {env env' : List (Nat × PV)} {lh lh' : List (Nat × LB)} (he : subEnv ⟨nt, env, lh⟩ env') (hb : subB ⟨nt, env, lh⟩ lh') (h1 : onlyE (lh'.map Prod.fst) env' = true) (h2 : onlyH (lh'.map Prod.fst) lh' = true) (h3 : onlyF (lh'.map Prod.fst) X.fr = true) : Weak X w0 ⟨nt, env, lh⟩ ⟨nt, env', lh'⟩ := by
  refine ⟨fun a w μ s => ⟨μ.keep (lh'.map Prod.fst), ?_⟩⟩
  have dom : ∀ k, (lh'.map Prod.fst).any (Nat.beq k) = true → ∃ b, look k lh' = some b := by
    intro k hk
    clear he hb h1 h2 h3
    induction lh' with
    | nil => cases hk
    | cons x l ih =>
      obtain ⟨j, b⟩ := x
      by_cases e : k = j
      · subst e; exact ⟨b, look_cons_eq _ _ _⟩
      · rw [look_cons_ne e]
        refine ih ?_
        simp only [List.map_cons, List.any_cons, Bool.or_eq_true] at hk
        rcases hk with hk | hk
        · exact absurd (Nat.eq_of_beq_eq_true hk) e
        · exact hk
  have mem : ∀ k b, look k lh' = some b → (lh'.map Prod.fst).any (Nat.beq k) = true := by
    intro k b hk
    rw [List.any_eq_true]
    exact ⟨k, List.mem_map.2 ⟨(k, b), look_mem hk, rfl⟩, Nat.beq_refl k⟩
  refine ⟨s.nt, s.defers, s.keep, s.F, s.hF, s.hX, ?_, ?_, ?_, ?_, ?_, ?_⟩
  · intro e he' t p hp
    obtain ⟨y, hy, r⟩ := s.fr e he' t p hp
    have g := List.all_eq_true.1 (List.all_eq_true.1 h3 e he') (t, p) (look_mem hp)
    exact ⟨y, hy, Rep.keep p y g r⟩
  · intro t p hp
    obtain ⟨y, hy, r⟩ := s.env t p (subEnv_get he t p hp)
    have g := List.all_eq_true.1 h1 (t, p) (look_mem hp)
    exact ⟨y, hy, Rep.keep p y g r⟩
  · intro k b hk
    have hok := s.blk k b (subB_get hb k b hk)
    have hin := mem k b hk
    have g := List.all_eq_true.1 h2 (k, b) (look_mem hk)
    cases b with
    | box cells =>
      obtain ⟨g', cs, ty, hm, hg, r, h5⟩ := hok
      exact ⟨g', cs, ty, by rw [LMap.keep_in _ hin]; exact hm, hg, RepL.keep _ _ g r, h5⟩
    | row ty sz ver xs =>
      obtain ⟨y, vs, hm, hown, r, h5, h6⟩ := hok
      exact ⟨y, vs, by rw [LMap.keep_in _ hin]; exact hm, hown, RepL.keep _ _ (onlyL_flatten g) r, h5, h6⟩
  · intro k l hk
    exact dom k (LMap.keep_some hk).1
  · intro k k' l l' g g1 g2 g3 g4
    exact s.apart k k' l l' g (LMap.keep_some g1).2 (LMap.keep_some g2).2 g3 g4
  · intro k l g g1 g2
    exact s.fresh k l g (LMap.keep_some g1).2 g2
theorem FinK.of {P : Program} {σ : St} {rs : List ResultVar} {ps : List PV} {r : PV} {T : TT} [tb : TabT P T] (hv : rvL T σ.env σ.lh rs = some ps := by rfl) (hr : r.noOwn = true := by rfl) (h : Fin' σ (oneOr ps) r) : FinK P σ rs ps r := ⟨.inl ⟨ps, rvL_spec (nt := σ.nt) tb.ok hv, h, hr⟩⟩
/-- No slice was made: nil. -/
theorem FinK.nil {P : Program} {t rt sz : Nat} {ps : List PV} {σ : St} (hg : σ.get t = some (.v (.slice none 0 0)) := by rfl) : FinK P σ [.tmp t] ps (.own rt sz []) := ⟨.inr (.inr ⟨t, rt, sz, rfl, hg, rfl⟩)⟩
theorem FinK.own {P : Program} {t id rt sz ver : Nat} {xs : List (List PV)} {ps : List PV} {σ : St} (hg : σ.get t = some (.row id ver) := by rfl) (hb : σ.blk id = some (.row rt sz ver xs) := by rfl) (hc : closedL xs.flatten = true) : FinK P σ [.tmp t] ps (.own rt sz xs) := ⟨.inr (.inl ⟨t, id, rt, sz, ver, xs, rfl, hg, hb, hc, rfl⟩)⟩
end Go.Proofs.Ytlicjlahnbebcaa
