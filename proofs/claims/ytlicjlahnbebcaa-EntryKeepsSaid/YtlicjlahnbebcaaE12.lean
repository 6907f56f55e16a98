/- Calls walked where they stand: the callee's code runs on the caller's own variables. -/
import Derived.Test.YtlicjlahnbebcaaE11
namespace Go.Proofs.Ytlicjlahnbebcaa
open Go.RowKit
section
variable {P : Program} {X : XF} {w0 : World} {nt : Nat} {env : List (Nat × PV)} {lh : List (Nat × LB)} {dst : Option Tmp} {ty : TypeId} {pos : String} {after : Array Edge} {ats : Array TypeId}
/-- The callee has come to its end. -/
inductive InlK (P : Program) (rs : List ResultVar) (k : PV → List (Nat × LB) → Prop) : Exit → St → Prop
  | n {σ : St} {ps : List PV} : RVs P σ rs ps → k (oneOr ps) σ.lh → InlK P rs k .normal σ
  | r {σ : St} {ps : List PV} : RVs P σ rs ps → k (oneOr ps) σ.lh → InlK P rs k .ret σ
theorem InlK.n0 {k : PV → List (Nat × LB) → Prop} {σ : St} (h : k (oneOr []) σ.lh) : InlK P [] k .normal σ := .n .nil h
theorem InlK.r0 {k : PV → List (Nat × LB) → Prop} {σ : St} (h : k (oneOr []) σ.lh) : InlK P [] k .ret σ := .r .nil h
theorem InlK.n1 {v : ResultVar} {p : PV} {k : PV → List (Nat × LB) → Prop} (hv : RV P ⟨nt, env, lh⟩ v p) (h : k p lh) : InlK P [v] k .normal ⟨nt, env, lh⟩ := .n (.cons hv .nil) h
theorem InlK.r1 {v : ResultVar} {p : PV} {k : PV → List (Nat × LB) → Prop} (hv : RV P ⟨nt, env, lh⟩ v p) (h : k p lh) : InlK P [v] k .ret ⟨nt, env, lh⟩ := .r (.cons hv .nil) h
theorem InlK.n2 {v u : ResultVar} {p q : PV} {k : PV → List (Nat × LB) → Prop} (hv : RV P ⟨nt, env, lh⟩ v p) (hu : RV P ⟨nt, env, lh⟩ u q) (h : k (.tup [p, q]) lh) : InlK P [v, u] k .normal ⟨nt, env, lh⟩ := .n (.cons hv (.cons hu .nil)) h
theorem InlK.r2 {v u : ResultVar} {p q : PV} {k : PV → List (Nat × LB) → Prop} (hv : RV P ⟨nt, env, lh⟩ v p) (hu : RV P ⟨nt, env, lh⟩ u q) (h : k (.tup [p, q]) lh) : InlK P [v, u] k .ret ⟨nt, env, lh⟩ := .r (.cons hv (.cons hu .nil)) h
/-- The state with which a callee begins. -/
theorem SimM.enter {a : Act} {w : World} {μ : LMap} (s : SimM X w0 ⟨nt, env, lh⟩ a w μ) {args : List PV} {vs : List Value} {m : Nat} (hv : RepL w μ args vs) (hn : Nat.ble args.length m = true) :
    SimM ⟨X.box, X.F, (env, a.tmps) :: X.fr, []⟩ w0 ⟨m, envOf 0 args, lh⟩ { tmps := vs.toArray ++ Array.replicate (m - vs.toArray.size) undef, defers := [] } w μ := by
  rw [Nat.ble_eq] at hn
  have hvl := hv.length
  refine ⟨?_, rfl, s.keep, s.F, s.hF, s.hX, ?_, ?_, s.blk, s.dom, s.apart, s.fresh⟩
  · simp
    omega
  · intro e he t p hp
    rcases List.mem_cons.1 he with rfl | he
    · exact s.env t p hp
    · exact s.fr e he t p hp
  · intro t p hp
    have hp' : look t (envOf 0 args) = some p := hp
    rw [look_envOf, if_pos (Nat.zero_le _), Nat.sub_zero] at hp'
    obtain ⟨y, hy, r⟩ := hv.get t p hp'
    have ht : t < vs.length := (List.getElem?_eq_some_iff.1 hy).1
    refine ⟨y, ?_, r⟩
    rw [Array.getElem?_append_left (by simpa using ht)]
    simpa using hy
/-- The state with which the caller goes on. -/
theorem SimM.leave {a a' : Act} {w w' : World} {μ μ' : LMap} {σ' : St} {df : List Deferred} {y : Value} {r : PV} (s : SimM X w0 ⟨nt, env, lh⟩ a w μ) (s' : SimM ⟨X.box, X.F, (env, a.tmps) :: X.fr, df⟩ w0 σ' a' w' μ') (hd : inB ⟨nt, env, lh⟩ dst = true) (hr : Rep w' μ' r y) :
    SimM X w0 ((⟨nt, env, σ'.lh⟩ : St).put dst r) (a.put dst y) w' μ' := by
  have s1 : SimM X w0 ⟨nt, env, σ'.lh⟩ a w' μ' := ⟨s.nt, s.defers, s'.keep, s'.F, s'.hF, s'.hX, fun e he => s'.fr e (List.mem_cons_of_mem _ he), fun t p hp => s'.fr _ (List.mem_cons_self ..) t p hp, s'.blk, s'.dom, s'.apart, s'.fresh⟩
  exact s1.put (by cases dst <;> exact hd) hr
theorem RW.inl_ {ops : Array Oper} {l : List Oper} {K : St → Prop} {c : Operand} {g : FuncId} {first caps ps : List PV} {xs : List Operand} {fn : Func} {code : Code} {m : Nat} {rs : List ResultVar}
    (hc : (⟨nt, env, lh⟩ : St).ev c = some (.fn (.func g) first caps)) (hx : xs.mapM (⟨nt, env, lh⟩ : St).ev = some ps) (hf : P.funcs[g]? = some fn) (hb : fn.body = some code) (hent : Enters P g) (hnt : fn.ntmps = m) (hrs : fn.results = rs.toArray) (hn : Nat.ble (first ++ ps ++ caps).length m = true)
    (hd : inB ⟨nt, env, lh⟩ dst = true)
    (h : ∀ tm : Array Value, PW P ⟨X.box, X.F, (env, tm) :: X.fr, []⟩ w0 code ⟨m, envOf 0 (first ++ ps ++ caps), lh⟩ (InlK P rs fun r lh' => RW P X w0 ops l ((⟨nt, env, lh'⟩ : St).put dst r) K)) :
    RW P X w0 ops (⟨dst, .call { callee := .value c, args := xs.toArray, argTypes := ats }, ty, pos, after, none⟩ :: l) ⟨nt, env, lh⟩ K := by
  subst hnt
  refine ⟨fun Q hQ a w μ s => wpList_plain rfl fun K' hK => ?_⟩
  obtain ⟨vs, hv, hrun⟩ := run_call (dst := dst) (ty := ty) (pos := pos) (after := after) (guard := none) (ats := ats) s hc hx hent
  unfold Oper.wp
  rw [hrun]
  refine calls_of_wp hf hb ?_
  refine wp_mono ((h a.tmps).run _ w _ (s.enter hv hn)) ?_
  rintro ex a' w' ⟨σ', μ', hk, s'⟩
  have hrl : fn.results.toList = rs := by rw [hrs]
  have fin : ∀ {ps' : List PV}, RVs P σ' rs ps' → RW P X w0 ops l ((⟨nt, env, σ'.lh⟩ : St).put dst (oneOr ps')) K → a'.defers = [] ∧ ∃ v, (results fn a'.tmps).run P w' = .ok v w' ∧ K' (a.put dst v) w' := by
    intro ps' hrv k
    refine ⟨s'.defers, ?_⟩
    obtain ⟨y, hy, rep⟩ := run_results s' (fn := fn) (hrl ▸ hrv)
    exact ⟨y, hy, hK _ _ (k.run Q hQ _ w' μ' (s.leave s' hd rep))⟩
  cases hk with
  | n h1 h2 => exact fin h1 h2
  | r h1 h2 => exact fin h1 h2
theorem RW.inl {ops : Array Oper} {l : List Oper} {K : St → Prop} {d : Nat} {c : Operand} {g : FuncId} {first caps ps : List PV} {xs : List Operand} {fn : Func} {code : Code} {m : Nat} {rs : List ResultVar}
    (hc : (⟨nt, env, lh⟩ : St).ev c = some (.fn (.func g) first caps)) (hx : xs.mapM (⟨nt, env, lh⟩ : St).ev = some ps) (hf : P.funcs[g]? = some fn) (hb : fn.body = some code) (hent : Enters P g) (hnt : fn.ntmps = m) (hrs : fn.results = rs.toArray) (hn : Nat.ble (first ++ ps ++ caps).length m = true)
    (hd : Nat.blt d nt = true)
    (h : ∀ tm : Array Value, PW P ⟨X.box, X.F, (env, tm) :: X.fr, []⟩ w0 code ⟨m, envOf 0 (first ++ ps ++ caps), lh⟩ (InlK P rs fun r lh' => RW P X w0 ops l ⟨nt, (d, r) :: env, lh'⟩ K)) :
    RW P X w0 ops (⟨some d, .call { callee := .value c, args := xs.toArray, argTypes := ats }, ty, pos, after, none⟩ :: l) ⟨nt, env, lh⟩ K := RW.inl_ hc hx hf hb hent hnt hrs hn hd h
theorem RW.inl0 {ops : Array Oper} {l : List Oper} {K : St → Prop} {c : Operand} {g : FuncId} {first caps ps : List PV} {xs : List Operand} {fn : Func} {code : Code} {m : Nat} {rs : List ResultVar}
    (hc : (⟨nt, env, lh⟩ : St).ev c = some (.fn (.func g) first caps)) (hx : xs.mapM (⟨nt, env, lh⟩ : St).ev = some ps) (hf : P.funcs[g]? = some fn) (hb : fn.body = some code) (hent : Enters P g) (hnt : fn.ntmps = m) (hrs : fn.results = rs.toArray) (hn : Nat.ble (first ++ ps ++ caps).length m = true)
    (h : ∀ tm : Array Value, PW P ⟨X.box, X.F, (env, tm) :: X.fr, []⟩ w0 code ⟨m, envOf 0 (first ++ ps ++ caps), lh⟩ (InlK P rs fun _ lh' => RW P X w0 ops l ⟨nt, env, lh'⟩ K)) :
    RW P X w0 ops (⟨none, .call { callee := .value c, args := xs.toArray, argTypes := ats }, ty, pos, after, none⟩ :: l) ⟨nt, env, lh⟩ K := RW.inl_ hc hx hf hb hent hnt hrs hn rfl h
end
end Go.Proofs.Ytlicjlahnbebcaa
