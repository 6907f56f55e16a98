/- A region that draws its order, run once in the order of the text: stores and appends too. -/
import Derived.Test.YtlicjlahnbebcaaE15
namespace Go.Proofs.Ytlicjlahnbebcaa
open Go.RowKit
/-- Is an operation wanted? A guard that was itself not wanted wants nothing. -/
def wantsU (ops : Array Oper) (σ : St) (o : Oper) (w : Bool) : Prop := wantsP ops σ o w ∨ (w = false ∧ ∃ j want oj t, o.guard = some (j, want) ∧ ops[j]? = some oj ∧ oj.dst = some t ∧ σ.get t = some (.v undef))
theorem yielded_undef {X : XF} {w0 : World} {ops : Array Oper} {σ : St} {a : Act} {w : World} {μ : LMap} {j t : Nat} {oj : Oper} (s : SimM X w0 σ a w μ) (hj : ops[j]? = some oj) (hd : oj.dst = some t) (hb : σ.get t = some (.v undef)) : yielded ops a.tmps j = none := by
  obtain ⟨y, hy, r⟩ := s.env t _ hb
  simp only [Rep] at r
  subst r
  unfold yielded
  simp [hj, hd, hy, undef]
theorem wantedU_of {X : XF} {w0 : World} {ops : Array Oper} {o : Oper} {σ : St} {a : Act} {w : World} {μ : LMap} {b : Bool} (s : SimM X w0 σ a w μ) (h : wantsU ops σ o b) : Region.wanted o (yielded ops a.tmps) = b := by
  rcases h with h | ⟨rfl, j, want, oj, t, hg, hj, hd, hu⟩
  · exact wanted_of s h
  · unfold Region.wanted
    rw [hg]
    simp only [yielded_undef s hj hd hu]
    rfl
theorem wantsU_mono {ops : Array Oper} {o : Oper} {σ σ' : St} {b : Bool} (h : wantsU ops σ o b) (hm : ∀ t ∈ guardTmp ops.toList o, ∀ q, σ.get t = some q → σ'.get t = some q) : wantsU ops σ' o b := by
  rcases h with h | ⟨e, j, want, oj, t, hg, hj, hd, hu⟩
  · exact .inl (wantsP_mono h hm)
  · exact .inr ⟨e, j, want, oj, t, hg, hj, hd, hm t (guardTmp_of hg hj hd) _ hu⟩
theorem RW.guardU {P : Program} {X : XF} {w0 : World} {ops : Array Oper} {o : Oper} {l : List Oper} {σ : St} {K : St → Prop} {j t : Nat} {want : Bool} {oj : Oper} (hg : o.guard = some (j, want)) (hj : ops[j]? = some oj) (hd : oj.dst = some t) (hb : σ.get t = some (.v undef)) (hdst : inB σ o.dst = true) (hn : RW P X w0 ops l (σ.put o.dst (.v undef)) K) : RW P X w0 ops (o :: l) σ K := ⟨fun Q hQ a w μ s => by
  have hw : Region.wanted o (yielded ops a.tmps) = false := wantedU_of s (.inr ⟨rfl, j, want, oj, t, hg, hj, hd, hb⟩)
  have h1 := hn.run Q hQ _ w μ (s.put hdst (p := .v undef) (y := undef) rfl)
  unfold wpList
  rw [hw, if_neg (by simp)]
  exact h1⟩
/-- The operation writes a variable or a slice of one's own, whatever else is there. -/
structure OpUP (P : Program) (o : Oper) (σ : St) (p : PV) (id : Nat) (b : LB) : Prop where
  run : ∀ σ', Agree o σ σ' → OpEff P o σ' ((σ'.setB id b).put o.dst p)
inductive OpU (P : Program) (o : Oper) (σ : St) : PV → List (Nat × LB) → Prop
  | new {p : PV} {nb : List (Nat × LB)} : OpOK P o σ p nb → nbOK o nb → newB σ nb → OpU P o σ p nb
  | upd {p : PV} {id : Nat} {b : LB} : OpUP P o σ p id b → OpU P o σ p [(id, b)]
/-- The run: what each operation writes, and what it names. -/
inductive URun (P : Program) (ops : Array Oper) : List Oper → St → St → List (List Nat × List Nat) → Prop
  | nil {σ : St} : URun P ops [] σ σ []
  | ok {o : Oper} {l : List Oper} {σ σe : St} {p : PV} {nb : List (Nat × LB)} {tl : List (List Nat × List Nat)} : wantsU ops σ o true → OpU P o σ p nb → URun P ops l ((σ.addB nb).put o.dst p) σe tl → URun P ops (o :: l) σ σe ((nb.map Prod.fst, σ.ids o) :: tl)
  | skip {o : Oper} {l : List Oper} {σ σe : St} {tl : List (List Nat × List Nat)} : wantsU ops σ o false → inB σ o.dst = true → URun P ops l (σ.put o.dst (.v undef)) σe tl → URun P ops (o :: l) σ σe (([], []) :: tl)
def StepU (P : Program) (ops : Array Oper) (o : Oper) (σ : St) (p : PV) (nb : List (Nat × LB)) (wt : List Nat × List Nat) : Prop :=
  (wantsU ops σ o true ∧ OpU P o σ p nb ∧ wt = (nb.map Prod.fst, σ.ids o)) ∨ (wantsU ops σ o false ∧ inB σ o.dst = true ∧ p = .v undef ∧ nb = [] ∧ wt = ([], []))
theorem URun.steps {P : Program} {ops : Array Oper} : ∀ {l : List Oper} {σ σe : St} {tl : List (List Nat × List Nat)}, URun P ops l σ σe tl →
    ∃ (p : Nat → PV) (nb : Nat → List (Nat × LB)) (sg : Nat → St), sg 0 = σ ∧ sg l.length = σe ∧ tl.length = l.length ∧ ∀ j o, l[j]? = some o → sg (j + 1) = ((sg j).addB (nb j)).put o.dst (p j) ∧ ∃ wt, tl[j]? = some wt ∧ StepU P ops o (sg j) (p j) (nb j) wt
  | [], σ, σe, tl, h => by
    cases h
    exact ⟨fun _ => .any, fun _ => [], fun _ => σ, rfl, rfl, rfl, fun j o h => by simp at h⟩
  | o :: l, σ, σe, tl, h => by
    have key : ∀ (p0 : PV) (nb0 : List (Nat × LB)) (wt0 : List Nat × List Nat) (tl' : List (List Nat × List Nat)), StepU P ops o σ p0 nb0 wt0 → URun P ops l ((σ.addB nb0).put o.dst p0) σe tl' →
        ∃ (p : Nat → PV) (nb : Nat → List (Nat × LB)) (sg : Nat → St), sg 0 = σ ∧ sg (o :: l).length = σe ∧ (wt0 :: tl').length = (o :: l).length ∧ ∀ j o', (o :: l)[j]? = some o' → sg (j + 1) = ((sg j).addB (nb j)).put o'.dst (p j) ∧ ∃ wt, (wt0 :: tl')[j]? = some wt ∧ StepU P ops o' (sg j) (p j) (nb j) wt := by
      intro p0 nb0 wt0 tl' hs hr
      obtain ⟨p, nb, sg, h0, he, hl, hst⟩ := URun.steps hr
      refine ⟨fun | 0 => p0 | j + 1 => p j, fun | 0 => nb0 | j + 1 => nb j, fun | 0 => σ | j + 1 => sg j, rfl, he, by simp [hl], ?_⟩
      intro j o' hj
      cases j with
      | zero =>
        simp at hj
        subst hj
        exact ⟨h0, wt0, rfl, hs⟩
      | succ j => exact hst j o' (by simpa using hj)
    cases h with
    | ok h1 h2 h3 => exact key _ _ _ _ (.inl ⟨h1, h2, rfl⟩) h3
    | skip h1 h2 h3 => exact key (.v undef) [] _ _ (.inr ⟨h1, h2, rfl, rfl, rfl⟩) h3
/-- Who writes what another one writes, or names, is ordered with it. -/
def confOK (ops : List Oper) (tl : List (List Nat × List Nat)) : Bool :=
  let m := closA [] ops
  tl.zipIdx.all fun (x, i) => tl.zipIdx.all fun (y, j) => Nat.beq i j || y.1.all fun id => !(x.1.any (Nat.beq id) || x.2.any (Nat.beq id)) || (Nat.blt j i && ancB m i j) || (Nat.blt i j && ancB m j i)
theorem confOK_spec {ops : List Oper} {tl : List (List Nat × List Nat)} (h : confOK ops tl = true) {i j : Nat} {x y : List Nat × List Nat} (hi : tl[i]? = some x) (hj : tl[j]? = some y) (hij : i ≠ j) {id : Nat} (hy : id ∈ y.1) (hx : id ∈ x.1 ∨ id ∈ x.2) : (j < i ∧ ancB (closA [] ops) i j = true) ∨ (i < j ∧ ancB (closA [] ops) j i = true) := by
  unfold confOK at h
  have hz : ∀ (k : Nat) (x : List Nat × List Nat), tl[k]? = some x → (x, k) ∈ tl.zipIdx := fun k x hk => by rw [List.mem_zipIdx_iff_getElem?]; exact hk
  have h1 := List.all_eq_true.1 (List.all_eq_true.1 h (x, i) (hz i x hi)) (y, j) (hz j y hj)
  have hne : Nat.beq i j = false := by
    cases e : Nat.beq i j
    · rfl
    · exact absurd (Nat.eq_of_beq_eq_true e) hij
  simp only [hne, Bool.false_or] at h1
  have h2 := List.all_eq_true.1 h1 id hy
  have h3 : (x.1.any (Nat.beq id) || x.2.any (Nat.beq id)) = true := by
    rw [Bool.or_eq_true, List.any_eq_true, List.any_eq_true]
    rcases hx with hx | hx
    · exact .inl ⟨id, hx, Nat.beq_refl id⟩
    · exact .inr ⟨id, hx, Nat.beq_refl id⟩
  rw [h3] at h2
  simp only [Bool.not_true, Bool.false_or, Bool.or_eq_true, Bool.and_eq_true] at h2
  rcases h2 with h2 | h2
  · exact .inl ⟨of_eq_true_blt h2.1, h2.2⟩
  · exact .inr ⟨of_eq_true_blt h2.1, h2.2⟩
theorem mem_look {α : Type} {id : Nat} : ∀ {l : List (Nat × α)}, id ∈ l.map Prod.fst → ∃ b, look id l = some b
  | [], h => by simp at h
  | (j, b) :: l, h => by
    by_cases e : id = j
    · subst e; exact ⟨b, look_cons_eq _ _ _⟩
    · rw [look_cons_ne e]
      refine mem_look ?_
      simp only [List.map_cons, List.mem_cons] at h
      exact h.resolve_left e
theorem look_in {α : Type} {id : Nat} {b : α} {l : List (Nat × α)} (h : look id l = some b) : id ∈ l.map Prod.fst := List.mem_map.2 ⟨(id, b), look_mem h, rfl⟩

/-- The state when just these operations have come up. -/
structure AtU (ops : List Oper) (σ0 : St) (p : Nat → PV) (nb : Nat → List (Nat × LB)) (D : Nat → Prop) (σ : St) : Prop where
  nt : σ.nt = σ0.nt
  inn : ∀ i o t, ops[i]? = some o → D i → o.dst = some t → σ.get t = some (p i)
  out : ∀ t, (∀ i o, ops[i]? = some o → D i → o.dst ≠ some t) → σ.get t = σ0.get t
  blk : ∀ id, (∃ i o b, ops[i]? = some o ∧ D i ∧ look id (nb i) = some b ∧ (∀ j oj, ops[j]? = some oj → D j → i < j → look id (nb j) = none) ∧ σ.blk id = some b) ∨ ((∀ i o, ops[i]? = some o → D i → look id (nb i) = none) ∧ σ.blk id = σ0.blk id)
theorem AtU.step {ops : List Oper} {σ0 σ : St} {p : Nat → PV} {nb : Nat → List (Nat × LB)} {D : Nat → Prop} (h : AtU ops σ0 p nb D σ) {i : Nat} {o : Oper} (hi : ops[i]? = some o) (hD : ¬ D i)
    (hdst : ∀ j oj d, ops[j]? = some oj → j ≠ i → o.dst = some d → oj.dst ≠ some d) (hnb : ∀ j oj id b b', ops[j]? = some oj → D j → look id (nb i) = some b → look id (nb j) = some b' → j < i) :
    AtU ops σ0 p nb (fun j => j = i ∨ D j) (((σ.addB (nb i))).put o.dst (p i)) := by
  refine ⟨by rw [St.nt_put]; exact h.nt, ?_, ?_, ?_⟩
  · intro j oj t hj hDj ht
    cases hd : o.dst with
    | none =>
      rcases hDj with rfl | hDj
      · rw [hi] at hj; injection hj with hj; subst hj; rw [hd] at ht; cases ht
      · exact h.inn j oj t hj hDj ht
    | some d =>
      rw [St.get_put]
      by_cases hji : j = i
      · subst hji
        rw [hi] at hj; injection hj with hj; subst hj; rw [hd] at ht; injection ht with ht
        rw [if_pos ht.symm]
      · rw [if_neg (fun e : t = d => hdst j oj d hj hji hd (by rw [← e]; exact ht)), St.get_addB]
        exact h.inn j oj t hj (hDj.resolve_left hji) ht
  · intro t ht
    cases hd : o.dst with
    | none => exact h.out t (fun j oj hj hDj => ht j oj hj (.inr hDj))
    | some d =>
      rw [St.get_put, if_neg (fun e : t = d => ht i o hi (.inl rfl) (by rw [e]; exact hd)), St.get_addB]
      exact h.out t (fun j oj hj hDj => ht j oj hj (.inr hDj))
  · intro id
    rw [St.blk_put, St.blk_addB]
    cases hl : look id (nb i) with
    | some b =>
      refine .inl ⟨i, o, b, hi, .inl rfl, hl, fun j oj hj hDj hij => ?_, rfl⟩
      rcases hDj with rfl | hDj
      · omega
      · cases hlj : look id (nb j) with
        | none => rfl
        | some b' => have := hnb j oj id b b' hj hDj hl hlj; omega
    | none =>
      rcases h.blk id with ⟨k, ok, b, hk, hDk, hlk, hlast, hb⟩ | ⟨hno, hb⟩
      · refine .inl ⟨k, ok, b, hk, .inr hDk, hlk, fun j oj hj hDj hkj => ?_, hb⟩
        rcases hDj with rfl | hDj
        · exact hl
        · exact hlast j oj hj hDj hkj
      · refine .inr ⟨fun j oj hj hDj => ?_, hb⟩
        rcases hDj with rfl | hDj
        · exact hl
        · exact hno j oj hj hDj
structure RunU (P : Program) (ops : Array Oper) (σ0 : St) (p : Nat → PV) (nb : Nat → List (Nat × LB)) (sg : Nat → St) (tl : List (List Nat × List Nat)) : Prop where
  reg : regOK ops.toList = true
  conf : confOK ops.toList tl = true
  zero : sg 0 = σ0
  step : ∀ j o, ops.toList[j]? = some o → sg (j + 1) = ((sg j).addB (nb j)).put o.dst (p j) ∧ ∃ wt, tl[j]? = some wt ∧ StepU P ops o (sg j) (p j) (nb j) wt
section
variable {P : Program} {X : XF} {w0 : World} {ops : Array Oper} {σ0 : St} {p : Nat → PV} {nb : Nat → List (Nat × LB)} {sg : Nat → St} {tl : List (List Nat × List Nat)}
theorem RunU.apart (R : RunU P ops σ0 p nb sg tl) {i j : Nat} {o oj : Oper} (hi : ops.toList[i]? = some o) (hj : ops.toList[j]? = some oj) (hji : j ≠ i) {d : Nat} (h : o.dst = some d) : oj.dst ≠ some d :=
  ((regOK_spec R.reg hj).2 i o hi (Ne.symm hji) d h).1
theorem RunU.wr (R : RunU P ops σ0 p nb sg tl) {j : Nat} {o : Oper} (hj : ops.toList[j]? = some o) {wt : List Nat × List Nat} (hw : tl[j]? = some wt) {id : Nat} {b : LB} (h : look id (nb j) = some b) : id ∈ wt.1 := by
  obtain ⟨_, wt', hw', hs⟩ := R.step j o hj
  rw [hw] at hw'
  injection hw' with hw'
  subst hw'
  rcases hs with ⟨_, _, rfl⟩ | ⟨_, _, _, hn, _⟩
  · exact look_in h
  · rw [hn] at h; cases h
theorem RunU.lex (R : RunU P ops σ0 p nb sg tl) : ∀ i, i ≤ ops.size → AtU ops.toList σ0 p nb (fun j => j < i) (sg i)
  | 0, _ => by
    rw [R.zero]
    exact ⟨rfl, fun _ _ _ _ h => absurd h (Nat.not_lt_zero _), fun _ _ => rfl, fun _ => .inr ⟨fun _ _ _ h => absurd h (Nat.not_lt_zero _), rfl⟩⟩
  | i + 1, h => by
    have ih := RunU.lex R i (by omega)
    have hi : ops.toList[i]? = some (ops.toList[i]'(by simp; omega)) := List.getElem?_eq_getElem _
    generalize ops.toList[i]'(by simp; omega) = o at hi
    have hs := ih.step hi (Nat.lt_irrefl i) (fun j oj d hj hji hd => R.apart hi hj hji hd) (fun j oj id b b' hj hD _ _ => hD)
    rw [(R.step i o hi).1]
    have e : (fun j => j = i ∨ j < i) = fun j => j < i + 1 := by funext j; simp; omega
    rwa [e] at hs
theorem RunU.reads (R : RunU P ops σ0 p nb sg tl) {D : Nat → Prop} {σ : St} (hat : AtU ops.toList σ0 p nb D σ) (hcl : Closed ops.toList D) {i : Nat} {o : Oper} (hi : ops.toList[i]? = some o) (hD : ¬ D i)
    (hpre : ∀ e ∈ o.after.toList, Region.binds .any e = true → D e.on) {t : Nat} (ht : t ∈ tmpsOf o ∨ t ∈ guardTmp ops.toList o) {q : PV} (hq : (sg i).get t = some q) : σ.get t = some q := by
  have hil : i < ops.size := by have := (List.getElem?_eq_some_iff.1 hi).1; simpa using this
  have hlex := R.lex i (Nat.le_of_lt hil)
  by_cases hw : ∃ j oj, ops.toList[j]? = some oj ∧ j ≠ i ∧ oj.dst = some t
  · obtain ⟨j, oj, hj, hji, hd⟩ := hw
    rcases ((regOK_spec R.reg hi).2 j oj hj hji t hd).2 ht with ⟨h1, h2⟩ | ⟨h1, h2⟩
    · rw [hlex.inn j oj t hj h1 hd] at hq
      rw [← hq]
      exact hat.inn j oj t hj (goodA ops.toList i o j hi h2 D hcl hpre) hd
    · have hnj : ¬ D j := fun h => hD (goodA ops.toList j oj i hj h2 D hcl (fun e he hb => hcl j oj hj h e he hb))
      rw [hlex.out t (fun k ok hk hlt e => by
        by_cases hkj : k = j
        · omega
        · exact R.apart hj hk hkj hd e)] at hq
      rw [hat.out t (fun k ok hk hDk e => by
        by_cases hkj : k = j
        · exact hnj (hkj ▸ hDk)
        · exact R.apart hj hk hkj hd e)]
      exact hq
  · have hno : ∀ j oj, ops.toList[j]? = some oj → j ≠ i → oj.dst ≠ some t := fun j oj hj hji hd => hw ⟨j, oj, hj, hji, hd⟩
    rw [hlex.out t (fun k ok hk hlt => hno k ok hk (by omega))] at hq
    rw [hat.out t (fun k ok hk hDk => hno k ok hk (fun e => hD (e ▸ hDk)))]
    exact hq
/-- What an operation names, it finds as it is in the order of the text. -/
theorem RunU.blks (R : RunU P ops σ0 p nb sg tl) {D : Nat → Prop} {σ : St} (hat : AtU ops.toList σ0 p nb D σ) (hcl : Closed ops.toList D) {i : Nat} {o : Oper} (hi : ops.toList[i]? = some o) (hD : ¬ D i)
    (hpre : ∀ e ∈ o.after.toList, Region.binds .any e = true → D e.on) {wt : List Nat × List Nat} (hw : tl[i]? = some wt) {id : Nat} (hid : id ∈ wt.1 ∨ id ∈ wt.2) :
    σ.blk id = (sg i).blk id ∧ ∀ j oj b, ops.toList[j]? = some oj → D j → look id (nb j) = some b → j < i := by
  have hil : i < ops.size := by have := (List.getElem?_eq_some_iff.1 hi).1; simpa using this
  have hlex := R.lex i (Nat.le_of_lt hil)
  have W : ∀ j oj b, ops.toList[j]? = some oj → j ≠ i → look id (nb j) = some b → (j < i ∧ D j) ∨ (i < j ∧ ¬ D j) := by
    intro j oj b hj hji hl
    obtain ⟨_, wtj, hwj, _⟩ := R.step j oj hj
    rcases confOK_spec R.conf hw hwj (Ne.symm hji) (R.wr hj hwj hl) hid with ⟨h1, h2⟩ | ⟨h1, h2⟩
    · exact .inl ⟨h1, goodA ops.toList i o j hi h2 D hcl hpre⟩
    · exact .inr ⟨h1, fun h => hD (goodA ops.toList j oj i hj h2 D hcl (fun e he hb => hcl j oj hj h e he hb))⟩
  refine ⟨?_, fun j oj b hj hDj hl => ?_⟩
  · rcases hlex.blk id with ⟨k, ok, b, hk, hki, hlk, hlast, hb⟩ | ⟨hno, hb⟩
    · have hDk : D k := by
        rcases W k ok b hk (by omega) hlk with h | h
        · exact h.2
        · omega
      rcases hat.blk id with ⟨k', ok', b', hk', hDk', hlk', hlast', hb'⟩ | ⟨hno', hb'⟩
      · have hne : k' ≠ i := fun e => hD (e ▸ hDk')
        have hk'i : k' < i := by
          rcases W k' ok' b' hk' hne hlk' with h | h
          · exact h.1
          · exact absurd hDk' h.2
        have e : k = k' := by
          rcases Nat.lt_trichotomy k k' with h | h | h
          · rw [hlast k' ok' hk' hk'i h] at hlk'; cases hlk'
          · exact h
          · rw [hlast' k ok hk hDk h] at hlk; cases hlk
        subst e
        rw [hlk] at hlk'
        injection hlk' with hlk'
        rw [hb, hb', hlk']
      · rw [hno' k ok hk hDk] at hlk; cases hlk
    · rcases hat.blk id with ⟨k', ok', b', hk', hDk', hlk', hlast', hb'⟩ | ⟨hno', hb'⟩
      · have hne : k' ≠ i := fun e => hD (e ▸ hDk')
        have hk'i : k' < i := by
          rcases W k' ok' b' hk' hne hlk' with h | h
          · exact h.1
          · exact absurd hDk' h.2
        rw [hno k' ok' hk' hk'i] at hlk'; cases hlk'
      · rw [hb, hb']
  · have hne : j ≠ i := fun e => hD (e ▸ hDj)
    rcases W j oj b hj hne hl with h | h
    · exact h.1
    · exact absurd hDj h.2
theorem RunU.one (R : RunU P ops σ0 p nb sg tl) {D : Nat → Prop} {σ : St} (hat : AtU ops.toList σ0 p nb D σ) (hcl : Closed ops.toList D) {i : Nat} {o : Oper} (hi : ops.toList[i]? = some o) (hD : ¬ D i)
    (hpre : ∀ e ∈ o.after.toList, Region.binds .any e = true → D e.on) {a : Act} {w : World} {μ : LMap} (s : SimM X w0 σ a w μ) {Q : Exit → Act → World → Prop} {K : Act → World → Prop}
    (hK : ∀ σ' a' w' μ', AtU ops.toList σ0 p nb (fun j => j = i ∨ D j) σ' → SimM X w0 σ' a' w' μ' → K a' w') : wpOp P ops Q i K a w := by
  have hil : i < ops.size := by have := (List.getElem?_eq_some_iff.1 hi).1; simpa using this
  have hio : ops[i]? = some o := by simpa using hi
  have hlex := R.lex i (Nat.le_of_lt hil)
  obtain ⟨hsg, wt, hwt, hs⟩ := R.step i o hi
  have hreads : ∀ t, t ∈ tmpsOf o ∨ t ∈ guardTmp ops.toList o → ∀ q, (sg i).get t = some q → σ.get t = some q := fun t ht q hq => R.reads hat hcl hi hD hpre ht hq
  have hblks : ∀ id, id ∈ wt.1 ∨ id ∈ wt.2 → σ.blk id = (sg i).blk id ∧ ∀ j oj b, ops.toList[j]? = some oj → D j → look id (nb j) = some b → j < i := fun id h => R.blks hat hcl hi hD hpre hwt h
  have hstep := hat.step hi hD (fun j oj d hj hji hd => R.apart hi hj hji hd) (fun j oj id b b' hj hDj h1 h2 => (hblks id (.inl (R.wr hi hwt h1))).2 j oj b' hj hDj h2)
  unfold wpOp
  rw [hio]
  rcases hs with ⟨hw, hok, hwt'⟩ | ⟨hw, hb, hp, hnb, _⟩
  · have hw' := wantedU_of s (wantsU_mono hw (fun t ht q hq => hreads t (.inr ht) q hq))
    simp only [hw', if_true]
    have hag : Agree o (sg i) σ := by
      refine ⟨hat.nt.trans hlex.nt.symm, ?_, ?_⟩
      · intro x hx q hq
        cases x with
        | tmp t => exact hreads t (.inl (mem_tmpsOf hx)) q hq
        | const v => exact hq
        | func f => exact hq
        | global g => exact hq
      · intro x hx q id b hq hid hb
        have hmem : id ∈ (sg i).ids o := List.mem_filterMap.2 ⟨q, List.mem_filterMap.2 ⟨x, hx, hq⟩, hid⟩
        rw [(hblks id (.inr (by rw [hwt']; exact hmem))).1]
        exact hb
    have fin : OpEff P o σ (((σ.addB (nb i))).put o.dst (p i)) := by
      generalize hpi : p i = pi at hok ⊢
      generalize hnbi : nb i = nbi at hok ⊢
      cases hok with
      | new h1 h2 h3 =>
        refine h1.run σ hag ?_
        intro id b hl
        rw [(hblks id (.inl (by rw [hwt', hnbi]; exact look_in hl))).1]
        exact h3 id b hl
      | upd h1 => exact h1.run σ hag
    exact .inl (fin.run X w0 a w μ K Q s fun a' w' μ' s' => hK _ a' w' μ' hstep s')
  · have hw' := wantedU_of s (wantsU_mono hw (fun t ht q hq => hreads t (.inr ht) q hq))
    simp only [hw', Bool.false_eq_true, if_false]
    rw [hnb, hp] at hstep
    have hb' : inB σ o.dst = true := by
      cases hd : o.dst with
      | none => rfl
      | some d =>
        rw [hd] at hb
        simp only [inB] at hb ⊢
        rw [hat.nt, ← hlex.nt]
        exact hb
    exact hK _ _ w μ hstep (s.put hb' (p := .v undef) (y := undef) rfl)
theorem RunU.any (R : RunU P ops σ0 p nb sg tl) {Q : Exit → Act → World → Prop} (hQ : ∀ σ a w μ, AtU ops.toList σ0 p nb (fun j => j < ops.size) σ → SimM X w0 σ a w μ → Q .normal a w) :
    ∀ (fuel : Nat) (listed : Array Bool) (σ : St) (a : Act) (w : World) (μ : LMap), listed.size = ops.size → cntB ops.size (fun i => !listed.getD i true) ≤ fuel → Closed ops.toList (fun j => listed.getD j false = true) →
      AtU ops.toList σ0 p nb (fun j => listed.getD j false = true) σ → SimM X w0 σ a w μ → wpAny P .any ops Q fuel listed a w := by
  have fin : ∀ (listed : Array Bool) (σ : St) (a : Act) (w : World) (μ : LMap), listed.size = ops.size → Region.ready .any ops listed = [] → AtU ops.toList σ0 p nb (fun j => listed.getD j false = true) σ → SimM X w0 σ a w μ → Q .normal a w := by
    intro listed σ a w μ hsz hr hat s
    have hall : ∀ n, ∀ j, j < n → j < ops.size → listed.getD j false = true := by
      intro n
      induction n with
      | zero => intro j h; omega
      | succ n ih =>
        intro j hj hjs
        rcases Nat.lt_or_ge j n with h1 | h1
        · exact ih j h1 hjs
        · obtain rfl : j = n := by omega
          cases hL : listed.getD j false with
          | true => rfl
          | false =>
            exfalso
            have hjo : ops[j]? = some ops[j] := Array.getElem?_eq_getElem hjs
            have hmem : j ∈ Region.ready .any ops listed := by
              rw [mem_ready]
              refine ⟨?_, ops[j], hjo, fun e he hb => ?_⟩
              · have hl : j < listed.size := by omega
                simp [Array.getD, hl] at hL ⊢
                exact hL
              · have he' : e ∈ ops[j].after.toList := by simpa using he
                have hlt := (regOK_spec R.reg (show ops.toList[j]? = some ops[j] from by rw [Array.getElem?_toList]; exact hjo)).1 e he' hb
                exact ih e.on hlt (by omega)
            rw [hr] at hmem
            cases hmem
    have e : ∀ j, j < ops.size → listed.getD j false = true := fun j hjs => hall (j + 1) j (by omega) hjs
    have e' : ∀ j o, ops.toList[j]? = some o → j < ops.size := fun j o hj => by have := (List.getElem?_eq_some_iff.1 hj).1; simpa using this
    refine hQ σ a w μ ⟨hat.nt, fun i o t hi hl hd => hat.inn i o t hi (e i hl) hd, fun t ht => hat.out t (fun i o hi _ => ht i o hi (e' i o hi)), fun id => ?_⟩ s
    rcases hat.blk id with ⟨k, ok, b, hk, _, hlk, hlast, hb⟩ | ⟨hno, hb⟩
    · exact .inl ⟨k, ok, b, hk, e' k ok hk, hlk, fun j oj hj hjs hkj => hlast j oj hj (e j hjs) hkj, hb⟩
    · exact .inr ⟨fun j oj hj hjs => hno j oj hj (e j hjs), hb⟩
  intro fuel
  induction fuel with
  | zero =>
    intro listed σ a w μ hsz hc hcl hat s
    have hr : Region.ready .any ops listed = [] := by
      rw [List.eq_nil_iff_forall_not_mem]
      intro i hi
      have h0 := (mem_ready.1 hi).1
      have hlt := (getD_true h0).1
      have hpos : 0 < cntB ops.size (fun i => !listed.getD i true) := by
        unfold cntB
        apply List.length_pos_of_mem (a := i)
        rw [List.mem_filter, List.mem_range]
        exact ⟨by omega, by rw [h0]; rfl⟩
      omega
    exact ⟨hr, fin listed σ a w μ hsz hr hat s⟩
  | succ fuel ih =>
    intro listed σ a w μ hsz hc hcl hat s
    refine ⟨fun hr => fin listed σ a w μ hsz hr hat s, fun i hi => ?_⟩
    obtain ⟨h0, o, hio, hpre⟩ := mem_ready.1 hi
    obtain ⟨hlt, hnl⟩ := getD_true h0
    have hil : ops.toList[i]? = some o := by simpa using hio
    refine R.one hat hcl hil (by rw [hnl]; decide) (fun e he hb => hpre e (by simpa using he) hb) s ?_
    intro σ' a' w' μ' hat' s'
    have hset : ∀ j, (listed.setIfInBounds i true).getD j false = true ↔ (j = i ∨ listed.getD j false = true) := by
      intro j
      by_cases hji : j = i
      · subst hji
        simp [Array.getD, hlt]
      · simp only [hji, false_or]
        by_cases hjl : j < listed.size
        · simp [Array.getD, hjl, Array.getElem_setIfInBounds, Ne.symm hji]
        · simp [Array.getD, hjl]
    have hDD : (fun j => (listed.setIfInBounds i true).getD j false = true) = fun j => j = i ∨ listed.getD j false = true := by
      funext j
      exact propext (hset j)
    refine ih (listed.setIfInBounds i true) σ' a' w' μ' (by simpa using hsz) ?_ ?_ (by rw [hDD]; exact hat') s'
    · have : cntB ops.size (fun k => !(listed.setIfInBounds i true).getD k true) < cntB ops.size (fun k => !listed.getD k true) := by
        unfold cntB
        refine filter_len_lt ?_ (y := i) ?_ ?_ _ (List.mem_range.2 (by omega))
        · intro k hk
          simp only [Bool.not_eq_true'] at hk ⊢
          have hk1 := (getD_true hk).1
          by_cases hki : k = i
          · subst hki; exact h0
          · have hkl : k < listed.size := by simpa using hk1
            simp [Array.getD, hkl, Array.getElem_setIfInBounds, Ne.symm hki] at hk ⊢
            exact hk
        · simp [Array.getD, hlt]
        · rw [h0]; rfl
      omega
    · rw [hDD]
      intro k ok hk hDk e he hb
      rcases hDk with rfl | hDk
      · rw [hil] at hk; injection hk with hk; subst hk
        exact .inr (hpre e (by simpa using he) hb)
      · exact .inr (hcl k ok hk hDk e he hb)
/-- **A region that draws its order, run once.** -/
theorem PW.drawU {id : Nat} {l : List Oper} {σ σe : St} {tl : List (List Nat × List Nat)} {K : Exit → St → Prop} (hm : P.follows .mixedOrders = true) (hreg : regOK l = true) (hconf : confOK l tl = true) (hrun : URun P l.toArray l σ σe tl) (k : K .normal σe) : PW P X w0 (.region id l.toArray true) σ K := ⟨fun a w μ s => by
  obtain ⟨p, nb, sg, h0, he, hl, hst⟩ := hrun.steps
  have R : RunU P l.toArray σ p nb sg tl := ⟨by simpa using hreg, by simpa using hconf, h0, fun j o hj => by simpa using hst j o (by simpa using hj)⟩
  refine wp_region_any hm (R.any (X := X) (w0 := w0) ?_ _ _ σ a _ μ (by simp) ?_ ?_ ?_ (s.below (bdrew (a := w))))
  · intro σ' a' w' μ' hat s'
    have hlex := R.lex l.toArray.size (Nat.le_refl _)
    have hse : sg l.toArray.size = σe := by simpa using he
    rw [hse] at hlex
    refine ⟨σe, μ', k, s'.less (hlex.nt.trans hat.nt.symm) ?_ ?_⟩
    · intro t q hq
      by_cases hw : ∃ i o, l.toArray.toList[i]? = some o ∧ i < l.toArray.size ∧ o.dst = some t
      · obtain ⟨i, o, hi, hl, hd⟩ := hw
        rw [hlex.inn i o t hi hl hd] at hq
        rw [hat.inn i o t hi hl hd]; exact hq
      · rw [hlex.out t (fun i o hi hl hd => hw ⟨i, o, hi, hl, hd⟩)] at hq
        rw [hat.out t (fun i o hi hl hd => hw ⟨i, o, hi, hl, hd⟩)]; exact hq
    · intro id
      rcases hlex.blk id with ⟨i, o, b, hi, hil, hlb, hlast, hb⟩ | ⟨hno, hb⟩
      · rcases hat.blk id with ⟨i', o', b', hi', hil', hlb', hlast', hb'⟩ | ⟨hno', hb'⟩
        · have e : i = i' := by
            rcases Nat.lt_trichotomy i i' with h | h | h
            · rw [hlast i' o' hi' hil' h] at hlb'; cases hlb'
            · exact h
            · rw [hlast' i o hi hil h] at hlb; cases hlb
          subst e
          rw [hlb] at hlb'
          injection hlb' with hlb'
          rw [hb, hb', hlb']
        · rw [hno' i o hi hil] at hlb; cases hlb
      · rcases hat.blk id with ⟨i', o', b', hi', hil', hlb', hlast', hb'⟩ | ⟨hno', hb'⟩
        · rw [hno i' o' hi' hil'] at hlb'; cases hlb'
        · rw [hb, hb']
  · unfold cntB
    exact Nat.le_trans (List.length_filter_le _ _) (by simp)
  · intro i o _ h
    simp [Array.getD] at h
  · have e : (fun j => (Array.replicate l.toArray.size false).getD j false = true) = fun _ => False := by
      funext j
      simp [Array.getD]
    rw [e]
    exact ⟨rfl, fun _ _ _ _ h => h.elim, fun _ _ => rfl, fun _ => .inr ⟨fun _ _ _ h => h.elim, rfl⟩⟩⟩
end
end Go.Proofs.Ytlicjlahnbebcaa
