/- Contracts of calls over values as they read. -/
import Derived.Test.YtlicjlahnbebcaaE8
namespace Go.Proofs.Ytlicjlahnbebcaa
open Go.RowKit

/-! ### One reading for another -/
mutual
/-- What reads as the one reads as the other. -/
inductive Sub : PV → PV → Prop
  | refl (p : PV) : Sub p p
  | nil (sz : Nat) : Sub (.v (.slice none 0 0)) (.sl sz [])
  | any (p : PV) : Sub p .any
  | agg {cs ds : List PV} : SubL cs ds → Sub (.agg cs) (.agg ds)
  | tup {cs ds : List PV} : SubL cs ds → Sub (.tup cs) (.tup ds)
inductive SubL : List PV → List PV → Prop
  | nil : SubL [] []
  | cons {c d : PV} {cs ds : List PV} : Sub c d → SubL cs ds → SubL (c :: cs) (d :: ds)
end
mutual
theorem Sub.rep {w : World} {μ : LMap} : ∀ {p q : PV} (_ : Sub p q) {y : Value}, Rep w μ p y → Rep w μ q y
  | _, _, .refl _, _, r => r
  | _, _, .nil sz, _, r => by
    simp only [Rep] at r ⊢
    subst r
    exact ⟨none, 0, rfl, Nat.le_refl _, Nat.zero_le _, by simp [RepR]⟩
  | _, _, .any _, _, _ => by simp only [Rep]
  | _, _, .agg h, _, r => by
    simp only [Rep] at r ⊢
    obtain ⟨vs, e, r, h1⟩ := r
    exact ⟨vs, e, SubL.rep h r, h1⟩
  | _, _, .tup h, _, r => by
    simp only [Rep] at r ⊢
    obtain ⟨vs, e, r⟩ := r
    exact ⟨vs, e, SubL.rep h r⟩
theorem SubL.rep {w : World} {μ : LMap} : ∀ {ps qs : List PV} (_ : SubL ps qs) {vs : List Value}, RepL w μ ps vs → RepL w μ qs vs
  | _, _, .nil, _, r => r
  | _, _, .cons h hs, _, r => by
    simp only [RepL] at r ⊢
    obtain ⟨u, us, e, r1, r2⟩ := r
    exact ⟨u, us, e, Sub.rep h r1, SubL.rep hs r2⟩
end
/-- What a call hands back. -/
def RepRes (w w' : World) (F : Nat → Prop) : PV → Value → Prop
  | .own ty sz xs, y => ∃ vs, w'.ownsRow w.heap.size ty sz y xs.length vs ∧ RepL w' (LMap.none (fun g => F g ∨ y.ownBlock = some g)) xs.flatten vs ∧ (∀ e ∈ xs, e.length = sz) ∧ ∀ u ∈ vs, u.oneCell' = true
  | p, y => Rep w' (LMap.none F) p y
/-- **A contract**: called with values that read as args, in whatever memory, the function returns, what it hands back reads as r, and nothing that was there has turned. -/
structure Spec (P : Program) (f : FuncId) (args : List PV) (r : PV) : Prop where
  enters : Enters P f
  run : ∀ (F : Nat → Prop) (w : World) (vs : List Value), (∀ g, F g → g < w.heap.size) → RepL w (LMap.none F) args vs → Calls P f vs.toArray w fun e w' => ∃ y, e = .returned y ∧ Below w.heap.size w w' ∧ RepRes w w' F r y

section
variable {P : Program} {X : XF} {w0 w : World} {σ : St} {a : Act} {μ : LMap}
theorem Later.fewer {w : World} {F G : Nat → Prop} (h : ∀ g, F g → G g) : Later w (LMap.none G) w (LMap.none F) :=
  ⟨fun a u hc ho => ⟨hc, fun hf => ho (.inl (h _ (LMap.none_owns hf)))⟩, fun _ _ h => (by cases h), fun _ _ _ h => (by cases h)⟩
theorem SimM.owned_lt (s : SimM X w0 σ a w μ) (g : Nat) (h : μ.owns g) : g < w.heap.size := by
  rcases h with h | ⟨id, l, hl, hb⟩
  · rw [s.F] at h
    exact Nat.lt_of_lt_of_le (s.hF g h) s.keep.size
  · exact (s.fresh id l g hl hb).1
def PV.noOwn : PV → Bool
  | .own _ _ _ => false
  | _ => true
theorem RepRes.plain {w w' : World} {F : Nat → Prop} {r : PV} {y : Value} (h : RepRes w w' F r y) (hr : r.noOwn = true) : Rep w' (LMap.none F) r y := by
  cases r <;> first | exact h | cases hr
end
section
variable {P : Program} {σ : St} {dst : Option Tmp} {ty : TypeId} {pos : String} {after : Array Edge} {guard : Option (Nat × Bool)} {ats : Array TypeId}
theorem run_call {X : XF} {w0 w : World} {σ' : St} {a : Act} {μ : LMap} (s : SimM X w0 σ' a w μ) {c : Operand} {g : FuncId} {first caps ps : List PV} {xs : List Operand} (hc : σ'.ev c = some (.fn (.func g) first caps)) (hx : xs.mapM σ'.ev = some ps) (hent : Enters P g) :
    ∃ vs : List Value, RepL w μ (first ++ ps ++ caps) vs ∧ (execOp a.eval ⟨dst, .call { callee := .value c, args := xs.toArray, argTypes := ats }, ty, pos, after, guard⟩).run P w = .ok (.enter g vs.toArray) w := by
  have h1 := eval_tmp s hc
  simp only [Rep] at h1
  obtain ⟨us, ks, e, r1, r2⟩ := h1
  have r3 := eval_list s hx
  refine ⟨us ++ xs.map a.eval ++ ks, (r1.append r3).append r2, ?_⟩
  simp only [execOp, resolve, Sem.run_bind, e, Deferred.ofValue, Sem.run_pure, Result.andThen_ok, invoke, hent]
  simp [hent (us ++ xs.map a.eval ++ ks).toArray w]
  have := hent (us ++ (xs.map a.eval ++ ks)).toArray w
  simpa using this
theorem call_upon {X : XF} {w0 w : World} {σ' : St} {a : Act} {μ : LMap} (s : SimM X w0 σ' a w μ) {g : FuncId} {ps : List PV} {r : PV} {vs : List Value} (hs : Spec P g ps r) (hcl : closedL ps = true) (hv : RepL w μ ps vs) {o : Oper} (hrun : (execOp a.eval o).run P w = .ok (.enter g vs.toArray) w) {K : Act → World → Prop} {Q : Exit → Act → World → Prop}
    (hK : ∀ y w', Below w.heap.size w w' → RepRes w w' μ.owns r y → K (a.put o.dst y) w') : o.wp P a w K Q := by
  unfold Oper.wp
  rw [hrun]
  have hc := hs.run μ.owns w vs (fun g hg => s.owned_lt g hg) (RepL.shuts ps vs hcl hv)
  refine hc.mono ?_
  rintro e w' ⟨y, rfl, hb, hr⟩
  exact hK y w' hb hr
theorem ok_call {c : Operand} {g : FuncId} {first caps ps : List PV} {xs : List Operand} {r : PV} (hc : σ.ev c = some (.fn (.func g) first caps)) (hx : xs.mapM σ.ev = some ps) (hs : Spec P g (first ++ ps ++ caps) r) (hcl : closedL (first ++ ps ++ caps) = true) (hr : r.noOwn = true) (hd : inB σ dst = true) :
    OpOK P ⟨dst, .call { callee := .value c, args := xs.toArray, argTypes := ats }, ty, pos, after, guard⟩ σ r [] := by
  refine ⟨fun σ' hag _ => ⟨fun X w0 a w μ K Q s hK => ?_⟩⟩
  have hc' : σ'.ev c = some (.fn (.func g) first caps) := hag.ev c (by simp [Op.operands, Call.operands]) _ hc
  have hx' : xs.mapM σ'.ev = some ps := ev_agree (fun x hxm q hq => hag.ev x (by simp [Op.operands, Call.operands, hxm]) q hq) hx
  obtain ⟨vs, hv, hrun⟩ := run_call (dst := dst) (ty := ty) (pos := pos) (after := after) (guard := guard) (ats := ats) s hc' hx' hs.enters
  refine call_upon s hs hcl hv hrun (fun y w' hb hrr => ?_)
  exact hK _ _ μ ((s.below hb).put (SimM.nt_inB hag hd) (Rep.opens (μ := μ) r y (hrr.plain hr)))
theorem ok_call_own {d : Nat} {c : Operand} {g : FuncId} {first caps ps : List PV} {xs : List Operand} {rt sz : Nat} {ys : List (List PV)} (hc : σ.ev c = some (.fn (.func g) first caps)) (hx : xs.mapM σ.ev = some ps) (hs : Spec P g (first ++ ps ++ caps) (.own rt sz ys)) (hcl : closedL (first ++ ps ++ caps) = true) (hd : inB σ (some d) = true) :
    OpOK P ⟨some d, .call { callee := .value c, args := xs.toArray, argTypes := ats }, ty, pos, after, guard⟩ σ (.row d 0) [(d, .row rt sz 0 ys)] := by
  refine ⟨fun σ' hag hn => ⟨fun X w0 a w μ K Q s hK => ?_⟩⟩
  have hc' : σ'.ev c = some (.fn (.func g) first caps) := hag.ev c (by simp [Op.operands, Call.operands]) _ hc
  have hx' : xs.mapM σ'.ev = some ps := ev_agree (fun x hxm q hq => hag.ev x (by simp [Op.operands, Call.operands, hxm]) q hq) hx
  obtain ⟨vs, hv, hrun⟩ := run_call (dst := some d) (ty := ty) (pos := pos) (after := after) (guard := guard) (ats := ats) s hc' hx' hs.enters
  refine call_upon s hs hcl hv hrun (fun y w' hb hrr => ?_)
  obtain ⟨us, hown, r, hl, h1⟩ := hrr
  have hfree : σ'.blk d = none := hn d _ (look_cons_eq d _ [])
  have hm : μ.m d = none := by
    cases e : μ.m d with
    | none => rfl
    | some l' => obtain ⟨b', hb'⟩ := s.dom d l' e; rw [hfree] at hb'; cases hb'
  have hlt : ∀ k, (LI.row y 0).block = some k → w.heap.size ≤ k ∧ k < w'.heap.size := fun k hk => hown.lt k hk
  have hr' : RepL w' (μ.set d (.row y 0)) ys.flatten us := by
    refine RepL.opens _ _ (RepL.later (Later.fewer (fun k hk => ?_)) _ _ r)
    rcases LMap.set_owns hk with hk | hk
    · exact .inl hk
    · exact .inr hk
  have hown' : w'.ownsRow w0.heap.size rt sz y ys.length us := by
    obtain ⟨g1, g2⟩ := hown
    refine ⟨g1, ?_⟩
    rcases g2 with g2 | ⟨k, cap, cur, hv, hbg, rest⟩
    · exact .inl g2
    · exact .inr ⟨k, cap, cur, hv, Nat.le_trans s.keep.size hbg, rest⟩
  refine hK _ _ _ ((s.new (bk := .row rt sz 0 ys) hb hfree hlt ⟨y, us, LMap.set_eq _ _ _, hown', hr', hl, h1⟩).put (d := some d) (SimM.nt_inB hag hd) ?_)
  simp only [Rep]
  refine ⟨y, 0, LMap.set_eq _ _ _, Nat.le_refl _, ?_, fun _ => rfl⟩
  rcases hown.2 with ⟨hv, _⟩ | ⟨_, _, _, hv, _⟩ <;> rw [hv] <;> rfl
/-! ### The entry and the results -/
def envOf : Nat → List PV → List (Nat × PV)
  | _, [] => []
  | i, p :: ps => (i, p) :: envOf (i + 1) ps
theorem look_envOf : ∀ (ps : List PV) (i t : Nat), look t (envOf i ps) = if i ≤ t then ps[t - i]? else none
  | [], i, t => by simp [envOf, look]
  | p :: ps, i, t => by
    rw [envOf]
    by_cases e : t = i
    · subst e; rw [look_cons_eq, if_pos (Nat.le_refl _), Nat.sub_self]; rfl
    · rw [look_cons_ne e, look_envOf ps (i + 1) t]
      by_cases h : i + 1 ≤ t
      · rw [if_pos h, if_pos (by omega), show t - i = (t - (i + 1)) + 1 from by omega]; rfl
      · rw [if_neg h, if_neg (by omega)]
/-- One result. -/
inductive RV (P : Program) (σ : St) : ResultVar → PV → Prop
  | tmp {t : Nat} {p : PV} : σ.get t = some p → RV P σ (.tmp t) p
  | cell1 {t id ty : Nat} {p : PV} [TySz P ty false 1] : σ.get t = some (.lp id 0) → σ.blk id = some (.box [p]) → RV P σ (.cell t ty) p
  | cellN {t id ty n : Nat} {cells : List PV} [TySz P ty true n] : σ.get t = some (.lp id 0) → σ.blk id = some (.box cells) → Nat.beq cells.length n = true → RV P σ (.cell t ty) (.agg cells)
inductive RVs (P : Program) (σ : St) : List ResultVar → List PV → Prop
  | nil : RVs P σ [] []
  | cons {r : ResultVar} {p : PV} {rs : List ResultVar} {ps : List PV} : RV P σ r p → RVs P σ rs ps → RVs P σ (r :: rs) (p :: ps)
section
variable {X : XF} {w0 w : World} {a : Act} {μ : LMap}
theorem run_result (s : SimM X w0 σ a w μ) {r : ResultVar} {p : PV} (h : RV P σ r p) :
    ∃ y, (match r with | .tmp t => pure (a.tmps.getD t undef) | .cell at_ t => do loadVar t (← asAddr (a.tmps.getD at_ undef)) : Sem Value).run P w = .ok y w ∧ Rep w μ p y := by
  cases h with
  | @tmp t p hg =>
    obtain ⟨y, hy, r⟩ := s.env t p hg
    exact ⟨y, by simp [hy], r⟩
  | @cell1 t id ty p ht hg hb =>
    obtain ⟨y, hy, r⟩ := s.env t _ hg
    simp only [Rep] at r
    obtain ⟨g, hm, rfl⟩ := r
    obtain ⟨g', cs, bt, hm', hgc, rc, _⟩ := s.blk id _ hb
    rw [hm] at hm'
    injection hm' with hm'
    injection hm' with hm'
    subst hm'
    obtain ⟨u, hu, ru⟩ := rc.get 0 p rfl
    have hc : w.cell? ⟨g, 0, none⟩ = some u := by rw [cell_of_row w g 0 cs bt _ hgc]; simpa using hu
    exact ⟨u, by simp [hy, asAddr, run_loadVar1 ht.h hc], ru⟩
  | @cellN t id ty n cells ht hg hb hn =>
    obtain ⟨y, hy, r⟩ := s.env t _ hg
    simp only [Rep] at r
    obtain ⟨g, hm, rfl⟩ := r
    obtain ⟨g', cs, bt, hm', hgc, rc, h1⟩ := s.blk id _ hb
    rw [hm] at hm'
    injection hm' with hm'
    injection hm' with hm'
    subst hm'
    have hlen : cs.toList.length = n := by rw [rc.length]; exact Nat.eq_of_beq_eq_true hn
    have hld := run_loadVarN (P := P) ht.h hlen (w := w) (ad := ⟨g, 0, none⟩) (fun j u hu => by
      rw [add_lit, Nat.zero_add, cell_of_row w g j cs bt _ hgc]; simpa using hu)
    exact ⟨.agg cs.toList.toArray, by simp [hy, asAddr]; simpa using hld, cs.toList, rfl, rc, h1⟩
theorem run_resultList (s : SimM X w0 σ a w μ) : ∀ {rs : List ResultVar} {ps : List PV}, RVs P σ rs ps →
    ∃ ys, (rs.mapM fun r => (match r with | .tmp t => pure (a.tmps.getD t undef) | .cell at_ t => do loadVar t (← asAddr (a.tmps.getD at_ undef)) : Sem Value)).run P w = .ok ys w ∧ RepL w μ ps ys
  | _, _, .nil => ⟨[], rfl, rfl⟩
  | r :: rs, p :: ps, .cons h hs => by
    obtain ⟨y, hy, r1⟩ := run_result s h
    obtain ⟨ys, hys, r2⟩ := run_resultList s hs
    refine ⟨y :: ys, ?_, y, ys, rfl, r1, r2⟩
    rw [List.mapM_cons, Sem.run_bind, hy, Result.andThen_ok, Sem.run_bind, hys, Result.andThen_ok]
    rfl
def oneOr : List PV → PV
  | [p] => p
  | ps => .tup ps
theorem run_results (s : SimM X w0 σ a w μ) {fn : Func} {ps : List PV} (h : RVs P σ fn.results.toList ps) : ∃ y, (results fn a.tmps).run P w = .ok y w ∧ Rep w μ (oneOr ps) y := by
  obtain ⟨ys, hys, r⟩ := run_resultList s h
  have hm : (fn.results.mapM fun r => (match r with | .tmp t => pure (a.tmps.getD t undef) | .cell at_ t => do loadVar t (← asAddr (a.tmps.getD at_ undef)) : Sem Value)).run P w = .ok ys.toArray w := by
    rw [Array.mapM_eq_mapM_toList, Sem.run_map, hys]
    rfl
  have hr : (results fn a.tmps).run P w = .ok (if h : ys.toArray.size = 1 then ys.toArray[0] else .tuple ys.toArray) w := by
    unfold results
    rw [Sem.run_bind]
    erw [hm]
    rfl
  refine ⟨_, hr, ?_⟩
  match ps, ys, r with
  | [], ys, r => simp only [RepL] at r; subst r; exact ⟨[], rfl, rfl⟩
  | [p], ys, r =>
    simp only [RepL] at r
    obtain ⟨u, us, rfl, r1, rfl⟩ := r
    exact r1
  | p :: q :: ps, ys, r =>
    have hne : ¬ ys.toArray.size = 1 := by
      have hl := r.length
      simp only [List.size_toArray, hl]
      simp
    rw [dif_neg hne]
    exact ⟨ys, rfl, r⟩
end
mutual
/-- What is handed back: slices of one's own are no longer so. -/
inductive Fin' (σ : St) : PV → PV → Prop
  | sub {p q : PV} : p.closed = true → Sub p q → Fin' σ p q
  | row {id rt sz ver : Nat} {xs : List (List PV)} : σ.blk id = some (.row rt sz ver xs) → xs.all closedL = true → Fin' σ (.row id ver) (.sl sz xs)
  | agg {cs ds : List PV} : FinL σ cs ds → Fin' σ (.agg cs) (.agg ds)
  | tup {cs ds : List PV} : FinL σ cs ds → Fin' σ (.tup cs) (.tup ds)
inductive FinL (σ : St) : List PV → List PV → Prop
  | nil : FinL σ [] []
  | cons {c d : PV} {cs ds : List PV} : Fin' σ c d → FinL σ cs ds → FinL σ (c :: cs) (d :: ds)
end
theorem Fin'.vb {σ : St} {a b : Bool} (h : a = b) : Fin' σ (.v (.bool a)) (.v (.bool b)) := by subst h; exact .sub rfl (.refl _)
theorem Fin'.vi {σ : St} {k : IntKind} {a b : Int} (h : a = b) : Fin' σ (.v (.int k a)) (.v (.int k b)) := by subst h; exact .sub rfl (.refl _)
theorem Fin'.of_eq {σ : St} {p q : PV} (hc : p.closed = true) (h : p = q) : Fin' σ p q := by subst h; exact .sub hc (.refl _)
theorem closedL_append : ∀ {a b : List PV}, closedL a = true → closedL b = true → closedL (a ++ b) = true
  | [], _, _, h => h
  | c :: a, b, h1, h2 => by
    simp only [closedL, Bool.and_eq_true, List.cons_append] at h1 ⊢
    exact ⟨h1.1, closedL_append h1.2 h2⟩
theorem closedL_flatten : ∀ {xs : List (List PV)}, xs.all closedL = true → closedL xs.flatten = true
  | [], _ => rfl
  | e :: es, h => by
    rw [List.all_cons, Bool.and_eq_true] at h
    rw [List.flatten_cons]
    exact closedL_append h.1 (closedL_flatten h.2)
theorem all_map_closed {α : Type} {f : α → List PV} (h : ∀ x, closedL (f x) = true) (l : List α) : (l.map f).all closedL = true := by
  rw [List.all_eq_true]
  intro e he
  obtain ⟨x, _, rfl⟩ := List.mem_map.1 he
  exact h x
section
variable {X : XF} {w0 w : World} {a : Act} {μ : LMap}
theorem owned_F (s : SimM X w0 σ a w μ) (g : Nat) (h : X.F g) : μ.owns g := .inl (by rw [s.F]; exact h)
mutual
theorem Fin'.rep (s : SimM X w0 σ a w μ) : ∀ {p q : PV} (_ : Fin' σ p q) {y : Value}, Rep w μ p y → Rep w (LMap.none X.F) q y
  | _, _, .sub hc hs, _, r => Sub.rep hs (Rep.later (Later.fewer (owned_F s)) _ _ (Rep.shuts _ _ hc r))
  | _, _, @Fin'.row _ id rt sz ver xs hb hc, y, r => by
    obtain ⟨vs, hm, hown, rr, hl, h1⟩ := (row_parts s hb (p := .row id ver) (y := y)).1 rfl r
    have rc := RepL.later (Later.fewer (owned_F s)) _ _ (RepL.shuts _ _ (closedL_flatten hc) rr)
    simp only [Rep]
    rcases hown.2 with ⟨hv, h0⟩ | ⟨g, cap, cur, hv, hbg, hh, hnc, hmx, _⟩
    · have : xs = [] := List.eq_nil_of_length_eq_zero h0
      subst this
      exact ⟨none, 0, hv, by simp, by simp [maxLen], by simp [RepR]⟩
    · refine ⟨some ⟨g, 0, none⟩, cap, hv, hnc, hmx, RepR.of_flat hl ?_⟩
      rw [LMap.shut_none]
      refine RepC.of_cells (fun hF => ?_) rc h1 (fun j u hu => ?_)
      · have := s.hF g (LMap.none_owns hF)
        omega
      · have := hown.cells (g := g) (by rw [hv]; rfl) j u hu
        rw [Nat.zero_add]
        exact this
  | _, _, .agg h, _, r => by
    simp only [Rep] at r ⊢
    obtain ⟨vs, e, r, h1⟩ := r
    exact ⟨vs, e, FinL.rep s h r, h1⟩
  | _, _, .tup h, _, r => by
    simp only [Rep] at r ⊢
    obtain ⟨vs, e, r⟩ := r
    exact ⟨vs, e, FinL.rep s h r⟩
theorem FinL.rep (s : SimM X w0 σ a w μ) : ∀ {ps qs : List PV} (_ : FinL σ ps qs) {vs : List Value}, RepL w μ ps vs → RepL w (LMap.none X.F) qs vs
  | _, _, .nil, _, r => by simp only [RepL] at r ⊢; exact r
  | _, _, .cons h hs, _, r => by
    simp only [RepL] at r ⊢
    obtain ⟨u, us, e, r1, r2⟩ := r
    exact ⟨u, us, e, Fin'.rep s h r1, FinL.rep s hs r2⟩
end
end
/-- How a call ends. -/
def Ret (P : Program) (rs : List ResultVar) (σ : St) (r : PV) : Prop :=
  (∃ ps, RVs P σ rs ps ∧ Fin' σ (oneOr ps) r ∧ r.noOwn = true) ∨
  (∃ t id rt sz ver xs, rs = [.tmp t] ∧ σ.get t = some (.row id ver) ∧ σ.blk id = some (.row rt sz ver xs) ∧ closedL xs.flatten = true ∧ r = .own rt sz xs) ∨
  (∃ t rt sz, rs = [.tmp t] ∧ σ.get t = some (.v (.slice none 0 0)) ∧ r = .own rt sz [])
inductive RetK (P : Program) (rs : List ResultVar) (r : PV) : Exit → St → Prop
  | n {σ : St} : Ret P rs σ r → RetK P rs r .normal σ
  | r {σ : St} : Ret P rs σ r → RetK P rs r .ret σ
theorem RetK.rs {P : Program} {rs : List ResultVar} {σ : St} {r : PV} (h : ∃ ps, RVs P σ rs ps ∧ Fin' σ (oneOr ps) r ∧ r.noOwn = true) : RetK P rs r .ret σ := RetK.r (.inl h)
theorem RetK.ns {P : Program} {rs : List ResultVar} {σ : St} {r : PV} (h : ∃ ps, RVs P σ rs ps ∧ Fin' σ (oneOr ps) r ∧ r.noOwn = true) : RetK P rs r .normal σ := RetK.n (.inl h)
theorem RetK.own {P : Program} {t id rt sz ver : Nat} {xs : List (List PV)} {σ : St} (hg : σ.get t = some (.row id ver)) (hb : σ.blk id = some (.row rt sz ver xs)) (hc : closedL xs.flatten = true) : RetK P [.tmp t] (.own rt sz xs) .ret σ := RetK.r (.inr (.inl ⟨t, id, rt, sz, ver, xs, rfl, hg, hb, hc, rfl⟩))
theorem closed_oneOr {ps : List PV} (h : closedL ps = true) : (oneOr ps).closed = true := by
  match ps, h with
  | [], _ => rfl
  | [p], h => simp only [closedL, Bool.and_true] at h; exact h
  | p :: q :: ps, h => exact h
theorem noOwn_closed {p : PV} (h : p.closed = true) : p.noOwn = true := by cases p <;> first | rfl | cases h
theorem Spec.of {f : FuncId} {fn : Func} {c : Code} {args : List PV} {r : PV} (hf : P.funcs[f]? = some fn) (hb : fn.body = some c) (hent : Enters P f) {nt : Nat} (hnt : fn.ntmps = nt) {rs : List ResultVar} (hrs : fn.results = rs.toArray) (hn : Nat.ble args.length nt = true)
    (h : ∀ (F : Nat → Prop) (w0 : World), PW P ⟨fun _ => False, F, [], []⟩ w0 c ⟨nt, envOf 0 args, []⟩ (RetK P rs r)) : Spec P f args r := by
  subst hnt
  refine ⟨hent, fun F w vs hF hv => ?_⟩
  rw [Nat.ble_eq] at hn
  have hvl := hv.length
  refine calls_of_wp hf hb ?_
  have s0 : SimM ⟨fun _ => False, F, [], []⟩ w ⟨fn.ntmps, envOf 0 args, []⟩ { tmps := vs.toArray ++ Array.replicate (fn.ntmps - vs.toArray.size) undef, defers := [] } w (LMap.none F) := by
    refine ⟨?_, rfl, Keep.refl _ _, rfl, hF, fun _ h => h.elim, (fun e he => by cases he), ?_, fun id b hb => (by cases hb), fun id l hl => (by cases hl), fun id id' l l' g h => (by cases h), fun id l g h => (by cases h)⟩
    · simp
      omega
    · intro t p hp
      have hp' : look t (envOf 0 args) = some p := hp
      rw [look_envOf, if_pos (Nat.zero_le _), Nat.sub_zero] at hp'
      obtain ⟨y, hy, r⟩ := hv.get t p hp'
      have ht : t < vs.length := (List.getElem?_eq_some_iff.1 hy).1
      refine ⟨y, ?_, r⟩
      rw [Array.getElem?_append_left (by simpa using ht)]
      simpa using hy
  refine wp_mono ((h F w).run _ w _ s0) ?_
  rintro ex a' w' ⟨σ', μ', hk, s'⟩
  have hkeep : Below w.heap.size w w' := Keep.to_below s'.keep
  have hFo : ∀ g, F g → μ'.owns g := fun g hg => .inl (by rw [s'.F]; exact hg)
  have hrl : fn.results.toList = rs := by rw [hrs]
  have fin : Ret P rs σ' r → a'.defers = [] ∧ ∃ v, (results fn a'.tmps).run P w' = .ok v w' ∧ ∃ y, Ending.returned v = .returned y ∧ Below w.heap.size w w' ∧ RepRes w w' F r y := by
    intro hret
    refine ⟨s'.defers, ?_⟩
    rcases hret with ⟨ps, hrv, hfin, hno⟩ | ⟨t, id, rt, sz, ver, xs, hres, hg, hbk, hcl, rfl⟩ | ⟨t, rt, sz, hres, hg, rfl⟩
    · obtain ⟨y, hy, rep⟩ := run_results s' (fn := fn) (hrl ▸ hrv)
      refine ⟨y, hy, y, rfl, hkeep, ?_⟩
      have hrep : Rep w' (LMap.none F) r y := Fin'.rep s' hfin rep
      cases r <;> first | exact hrep | cases hno
    · have hrv : RVs P σ' fn.results.toList [.row id ver] := by rw [hrl, hres]; exact .cons (.tmp hg) .nil
      obtain ⟨y, hy, rep⟩ := run_results s' hrv
      obtain ⟨vs', hm, hown, rr, hl, h1⟩ := (row_parts s' hbk (p := .row id ver) (y := y)).1 rfl rep
      refine ⟨y, hy, y, rfl, hkeep, vs', hown, ?_, hl, h1⟩
      refine RepL.later (Later.fewer (fun g hg => ?_)) _ _ (RepL.shuts _ _ hcl rr)
      rcases hg with hg | hg
      · exact hFo g hg
      · exact .inr ⟨id, _, hm, hg⟩
    · have hrv : RVs P σ' fn.results.toList [.v (.slice none 0 0)] := by rw [hrl, hres]; exact .cons (.tmp hg) .nil
      obtain ⟨y, hy, rep⟩ := run_results s' hrv
      have e : y = .slice none 0 0 := rep
      subst e
      exact ⟨_, hy, _, rfl, hkeep, [], World.ownsRow_nil _ _ _ _, rfl, by simp, by simp⟩
  cases hk with
  | n hk => exact fin hk
  | r hk => exact fin hk
end
end Go.Proofs.Ytlicjlahnbebcaa
