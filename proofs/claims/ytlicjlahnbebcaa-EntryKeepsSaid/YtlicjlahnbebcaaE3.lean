/- A region that draws its order, run once in the order of the text. -/
import Derived.Test.YtlicjlahnbebcaaE2
import Derived.Orders
namespace Go.Proofs.Ytlicjlahnbebcaa
open Go.RowKit

/-- Which operations come ahead of each: a number a bit each. -/
def closA : List Nat → List Oper → List Nat
  | acc, [] => acc
  | acc, o :: l => closA (acc ++ [o.after.toList.foldl (fun m e => bif Region.binds .any e then m ||| (2 ^ e.on ||| acc.getD e.on 0) else m) 0]) l
def ancB (m : List Nat) (i j : Nat) : Bool := (m.getD i 0).testBit j
def tmpsOf (o : Oper) : List Nat := o.op.operands.toList.filterMap fun | .tmp t => some t | _ => none
def guardTmp (ops : List Oper) (o : Oper) : List Nat := match o.guard with
  | some (j, _) => match (ops[j]?).bind (·.dst) with | some t => [t] | none => []
  | none => []
def pairOK (ops : List Oper) (m : List Nat) (i j : Nat) (o oj : Oper) : Bool :=
  Nat.beq i j || match oj.dst with
  | none => true
  | some d => (match o.dst with | some d' => !Nat.beq d d' | none => true) && (!(((tmpsOf o).any (Nat.beq d)) || (guardTmp ops o).any (Nat.beq d)) || (Nat.blt j i && ancB m i j) || (Nat.blt i j && ancB m j i))
def regOK (ops : List Oper) : Bool :=
  let m := closA [] ops
  ops.zipIdx.all fun (o, i) => o.after.toList.all (fun e => !Region.binds .any e || Nat.blt e.on i) && ops.zipIdx.all fun (oj, j) => pairOK ops m i j o oj
def Closed (ops : List Oper) (L : Nat → Prop) : Prop := ∀ i o, ops[i]? = some o → L i → ∀ e ∈ o.after.toList, Region.binds .any e = true → L e.on
def GoodA (ops : List Oper) (acc : List Nat) : Prop := ∀ i o j, ops[i]? = some o → (acc.getD i 0).testBit j = true → ∀ L, Closed ops L → (∀ e ∈ o.after.toList, Region.binds .any e = true → L e.on) → L j
theorem foldl_bits (acc : List Nat) (j : Nat) : ∀ (es : List Edge) (m : Nat), (es.foldl (fun m e => bif Region.binds .any e then m ||| (2 ^ e.on ||| acc.getD e.on 0) else m) m).testBit j = true →
    m.testBit j = true ∨ ∃ e ∈ es, Region.binds .any e = true ∧ (e.on = j ∨ (acc.getD e.on 0).testBit j = true)
  | [], m, h => .inl h
  | e :: es, m, h => by
    rw [List.foldl_cons] at h
    rcases foldl_bits acc j es _ h with h1 | ⟨e', he', hb, h1⟩
    · by_cases hb : Region.binds .any e = true
      · rw [hb, cond_true, Nat.testBit_or, Nat.testBit_or, Nat.testBit_two_pow] at h1
        rw [Bool.or_eq_true, Bool.or_eq_true] at h1
        rcases h1 with h1 | h1 | h1
        · exact .inl h1
        · exact .inr ⟨e, List.mem_cons_self .., hb, .inl (by simpa using h1)⟩
        · exact .inr ⟨e, List.mem_cons_self .., hb, .inr h1⟩
      · rw [Bool.not_eq_true] at hb
        rw [hb, cond_false] at h1
        exact .inl h1
    · exact .inr ⟨e', List.mem_cons_of_mem _ he', hb, h1⟩
theorem goodA_clos (ops : List Oper) : ∀ (l : List Oper) (acc : List Nat), (∀ j, l[j]? = ops[acc.length + j]?) → GoodA ops acc → GoodA ops (closA acc l)
  | [], _, _, h => h
  | o :: l, acc, hl, h => by
    unfold closA
    refine goodA_clos ops l _ (fun j => ?_) ?_
    · have := hl (j + 1)
      simp only [List.getElem?_cons_succ] at this
      rw [this, List.length_append, List.length_singleton]
      congr 1
      omega
    · intro i oi j hi hb L hL he
      rcases Nat.lt_or_ge i acc.length with h1 | h1
      · rw [List.getD_eq_getElem?_getD, List.getElem?_append_left h1, ← List.getD_eq_getElem?_getD] at hb
        exact h i oi j hi hb L hL he
      · rcases Nat.eq_or_lt_of_le h1 with h2 | h2
        · subst h2
          have ho : oi = o := by
            have := hl 0
            simp only [List.getElem?_cons_zero, Nat.add_zero, hi] at this
            injection this with this
            exact this.symm
          subst ho
          rw [List.getD_eq_getElem?_getD, List.getElem?_append_right (Nat.le_refl _), Nat.sub_self, List.getElem?_cons_zero, Option.getD_some] at hb
          rcases foldl_bits acc j _ _ hb with h3 | ⟨e, hem, hbd, h3⟩
          · simp at h3
          · have hon := he e hem hbd
            rcases h3 with h3 | h3
            · exact h3 ▸ hon
            · cases hoe : ops[e.on]? with
              | none =>
                have : (acc.getD e.on 0) = 0 := by
                  rw [List.getD_eq_getElem?_getD]
                  rcases Nat.lt_or_ge e.on acc.length with hlt | hge
                  · exfalso
                    have : acc.length < ops.length := (List.getElem?_eq_some_iff.1 hi).1
                    rw [List.getElem?_eq_none_iff] at hoe
                    omega
                  · rw [List.getElem?_eq_none_iff.2 hge]; rfl
                rw [this] at h3
                simp at h3
              | some oe => exact h e.on oe j hoe h3 L hL (fun e' he' hb' => hL e.on oe hoe hon e' he' hb')
        · rw [List.getD_eq_getElem?_getD, List.getElem?_eq_none_iff.2 (by rw [List.length_append, List.length_singleton]; omega)] at hb
          simp at hb
theorem goodA (ops : List Oper) : GoodA ops (closA [] ops) := goodA_clos ops ops [] (by simp) (fun i o j _ hb => by simp at hb)

def wantsP (ops : Array Oper) (σ : St) (o : Oper) (w : Bool) : Prop := match o.guard with
  | none => w = true
  | some (j, want) => ∃ oj t b, ops[j]? = some oj ∧ oj.dst = some t ∧ σ.get t = some (.v (.bool b)) ∧ (b == want) = w
def St.ids (σ : St) (o : Oper) : List Nat := (o.op.operands.toList.filterMap σ.ev).filterMap PV.id?
def okId (ops : List Oper) (i id : Nat) : Bool := ops.zipIdx.all fun (oj, j) => (match oj.dst with | some d => !Nat.beq d id | none => true) || Nat.ble i j || ancB (closA [] ops) i j
def nbOK (o : Oper) (nb : List (Nat × LB)) : Prop := nb = [] ∨ ∃ d b, o.dst = some d ∧ nb = [(d, b)]
/-- The operations of a region from number i on, in the order of the text. -/
inductive DRun (P : Program) (ops : Array Oper) : Nat → List Oper → St → St → Prop
  | nil {i : Nat} {σ : St} : DRun P ops i [] σ σ
  | ok {i : Nat} {o : Oper} {l : List Oper} {σ σe : St} {p : PV} {nb : List (Nat × LB)} : wantsP ops σ o true → OpOK P o σ p nb → nbOK o nb → newB σ nb → (σ.ids o).all (okId ops.toList i) = true → DRun P ops (i + 1) l ((σ.addB nb).put o.dst p) σe → DRun P ops i (o :: l) σ σe
  | skip {i : Nat} {o : Oper} {l : List Oper} {σ σe : St} : wantsP ops σ o false → inB σ o.dst = true → DRun P ops (i + 1) l (σ.put o.dst (.v undef)) σe → DRun P ops i (o :: l) σ σe
/-- What is known of one operation of the run. -/
def StepOK (P : Program) (ops : Array Oper) (i : Nat) (o : Oper) (σ : St) (p : PV) (nb : List (Nat × LB)) : Prop :=
  (wantsP ops σ o true ∧ OpOK P o σ p nb ∧ nbOK o nb ∧ newB σ nb ∧ (σ.ids o).all (okId ops.toList i) = true) ∨ (wantsP ops σ o false ∧ inB σ o.dst = true ∧ p = .v undef ∧ nb = [])
theorem DRun.steps {P : Program} {ops : Array Oper} : ∀ {l : List Oper} {i : Nat} {σ σe : St}, DRun P ops i l σ σe →
    ∃ (p : Nat → PV) (nb : Nat → List (Nat × LB)) (sg : Nat → St), sg 0 = σ ∧ sg l.length = σe ∧ ∀ j o, l[j]? = some o → sg (j + 1) = ((sg j).addB (nb j)).put o.dst (p j) ∧ StepOK P ops (i + j) o (sg j) (p j) (nb j)
  | [], i, σ, σe, h => by
    cases h
    exact ⟨fun _ => .any, fun _ => [], fun _ => σ, rfl, rfl, fun j o h => by simp at h⟩
  | o :: l, i, σ, σe, h => by
    have key : ∀ (p0 : PV) (nb0 : List (Nat × LB)), StepOK P ops i o σ p0 nb0 → DRun P ops (i + 1) l ((σ.addB nb0).put o.dst p0) σe →
        ∃ (p : Nat → PV) (nb : Nat → List (Nat × LB)) (sg : Nat → St), sg 0 = σ ∧ sg (o :: l).length = σe ∧ ∀ j o', (o :: l)[j]? = some o' → sg (j + 1) = ((sg j).addB (nb j)).put o'.dst (p j) ∧ StepOK P ops (i + j) o' (sg j) (p j) (nb j) := by
      intro p0 nb0 hs hr
      obtain ⟨p, nb, sg, h0, he, hst⟩ := DRun.steps hr
      refine ⟨fun | 0 => p0 | j + 1 => p j, fun | 0 => nb0 | j + 1 => nb j, fun | 0 => σ | j + 1 => sg j, rfl, he, ?_⟩
      intro j o' hj
      cases j with
      | zero =>
        simp at hj
        subst hj
        exact ⟨h0, hs⟩
      | succ j =>
        have := hst j o' (by simpa using hj)
        rw [show i + 1 + j = i + (j + 1) from by omega] at this
        exact this
    cases h with
    | ok h1 h2 h3 h4 h5 h6 => exact key _ _ (.inl ⟨h1, h2, h3, h4, h5⟩) h6
    | skip h1 h2 h3 => exact key (.v undef) [] (.inr ⟨h1, h2, rfl, rfl⟩) h3

section
variable {P : Program} {X : XF} {w0 : World}
/-- The state when just these operations have come up. -/
structure AtD (ops : List Oper) (σ0 : St) (p : Nat → PV) (nb : Nat → List (Nat × LB)) (D : Nat → Prop) (σ : St) : Prop where
  nt : σ.nt = σ0.nt
  inn : ∀ i o t, ops[i]? = some o → D i → o.dst = some t → σ.get t = some (p i)
  out : ∀ t, (∀ i o, ops[i]? = some o → D i → o.dst ≠ some t) → σ.get t = σ0.get t
  binn : ∀ i o id b, ops[i]? = some o → D i → look id (nb i) = some b → σ.blk id = some b
  bout : ∀ id, (∀ i o, ops[i]? = some o → D i → look id (nb i) = none) → σ.blk id = σ0.blk id
theorem St.get_addB (σ : St) (nb : List (Nat × LB)) (t : Nat) : (σ.addB nb).get t = σ.get t := rfl
theorem St.blk_addB (σ : St) (nb : List (Nat × LB)) (id : Nat) : (σ.addB nb).blk id = match look id nb with | some b => some b | none => σ.blk id := by
  have h := look_append id nb σ.lh
  unfold St.addB St.blk
  rw [h]
  cases look id nb <;> rfl
/-- One more operation. -/
theorem AtD.step {ops : List Oper} {σ0 σ : St} {p : Nat → PV} {nb : Nat → List (Nat × LB)} {D : Nat → Prop} (h : AtD ops σ0 p nb D σ) {i : Nat} {o : Oper} (hi : ops[i]? = some o) (hD : ¬ D i)
    (hdst : ∀ j oj d, ops[j]? = some oj → j ≠ i → o.dst = some d → oj.dst ≠ some d) (hnb : ∀ j oj id b b', ops[j]? = some oj → j ≠ i → look id (nb i) = some b → look id (nb j) = some b' → False) :
    AtD ops σ0 p nb (fun j => j = i ∨ D j) (((σ.addB (nb i))).put o.dst (p i)) := by
  refine ⟨by rw [St.nt_put]; exact h.nt, ?_, ?_, ?_, ?_⟩
  · intro j oj t hj hDj ht
    cases hd : o.dst with
    | none =>
      rcases hDj with rfl | hDj
      · rw [hi] at hj; injection hj with hj; subst hj; rw [hd] at ht; cases ht
      · exact h.inn j oj t hj hDj ht
    | some d =>
      rw [St.get_put]
      by_cases hji : j = i
      · subst hji
        rw [hi] at hj; injection hj with hj; subst hj; rw [hd] at ht; injection ht with ht
        rw [if_pos ht.symm]
      · rw [if_neg (fun e : t = d => hdst j oj d hj hji hd (by rw [← e]; exact ht)), St.get_addB]
        exact h.inn j oj t hj (hDj.resolve_left hji) ht
  · intro t ht
    cases hd : o.dst with
    | none => exact h.out t (fun j oj hj hDj => ht j oj hj (.inr hDj))
    | some d =>
      rw [St.get_put, if_neg (fun e : t = d => ht i o hi (.inl rfl) (by rw [e]; exact hd)), St.get_addB]
      exact h.out t (fun j oj hj hDj => ht j oj hj (.inr hDj))
  · intro j oj id b hj hDj hb
    rw [St.blk_put, St.blk_addB]
    by_cases hji : j = i
    · subst hji; rw [hb]
    · have : look id (nb i) = none := by
        cases hl : look id (nb i) with
        | none => rfl
        | some b' => exact (hnb j oj id b' b hj hji hl hb).elim
      rw [this]
      exact h.binn j oj id b hj (hDj.resolve_left hji) hb
  · intro id hid
    rw [St.blk_put, St.blk_addB, hid i o hi (.inl rfl)]
    exact h.bout id (fun j oj hj hDj => hid j oj hj (.inr hDj))
theorem St.nt_eq (σ : St) (nb : List (Nat × LB)) : (σ.addB nb).nt = σ.nt := rfl

def cntB (n : Nat) (f : Nat → Bool) : Nat := ((List.range n).filter f).length
theorem filter_len_le {α : Type} {f g : α → Bool} (h : ∀ x, f x = true → g x = true) : ∀ l : List α, (l.filter f).length ≤ (l.filter g).length
  | [] => Nat.le_refl _
  | x :: l => by
    have ih := filter_len_le h l
    cases hf : f x
    · rw [List.filter_cons_of_neg (by simp [hf])]
      cases hg : g x
      · rw [List.filter_cons_of_neg (by simp [hg])]; exact ih
      · rw [List.filter_cons_of_pos hg]; simp only [List.length_cons]; omega
    · rw [List.filter_cons_of_pos hf, List.filter_cons_of_pos (h x hf)]
      simp only [List.length_cons]; omega
theorem filter_len_lt {α : Type} {f g : α → Bool} (h : ∀ x, f x = true → g x = true) {y : α} (hy : f y = false) (hg : g y = true) : ∀ l : List α, y ∈ l → (l.filter f).length < (l.filter g).length
  | [], hm => by cases hm
  | x :: l, hm => by
    rcases List.mem_cons.1 hm with rfl | hm
    · rw [List.filter_cons_of_neg (by simp [hy]), List.filter_cons_of_pos hg]
      have := filter_len_le h l
      simp only [List.length_cons]; omega
    · have ih := filter_len_lt h hy hg l hm
      cases hf : f x
      · rw [List.filter_cons_of_neg (by simp [hf])]
        cases hg' : g x
        · rw [List.filter_cons_of_neg (by simp [hg'])]; exact ih
        · rw [List.filter_cons_of_pos hg']; simp only [List.length_cons]; omega
      · rw [List.filter_cons_of_pos hf, List.filter_cons_of_pos (h x hf)]
        simp only [List.length_cons]; omega
theorem regOK_spec {ops : List Oper} (h : regOK ops = true) {i : Nat} {o : Oper} (hi : ops[i]? = some o) :
    (∀ e ∈ o.after.toList, Region.binds .any e = true → e.on < i) ∧ ∀ j oj, ops[j]? = some oj → j ≠ i → ∀ d, oj.dst = some d → o.dst ≠ some d ∧ (d ∈ tmpsOf o ∨ d ∈ guardTmp ops o → (j < i ∧ ancB (closA [] ops) i j = true) ∨ (i < j ∧ ancB (closA [] ops) j i = true)) := by
  unfold regOK at h
  have hz : ∀ (k : Nat) (x : Oper), ops[k]? = some x → (x, k) ∈ ops.zipIdx := by
    intro k x hk
    rw [List.mem_zipIdx_iff_getElem?]
    exact hk
  simp only [List.all_eq_true] at h
  have h1 := h (o, i) (hz i o hi)
  rw [Bool.and_eq_true] at h1
  refine ⟨fun e he hb => ?_, fun j oj hj hji d hd => ?_⟩
  · have h2 := h1.1
    rw [List.all_eq_true] at h2
    have h3 := h2 e he
    rw [hb, Bool.not_true, Bool.false_or] at h3
    exact of_eq_true_blt h3
  · have h2 := h1.2
    rw [List.all_eq_true] at h2
    have h3 := h2 (oj, j) (hz j oj hj)
    unfold pairOK at h3
    have hne : Nat.beq i j = false := by
      cases e : Nat.beq i j
      · rfl
      · exact absurd (Nat.eq_of_beq_eq_true e).symm hji
    simp only [hne, Bool.false_or, hd, Bool.and_eq_true] at h3
    refine ⟨fun e => ?_, fun hm => ?_⟩
    · rw [e] at h3
      have := h3.1
      simp only [Bool.not_eq_true'] at this
      rw [show Nat.beq d d = true from Nat.beq_refl d] at this
      cases this
    · have h4 := h3.2
      have hany : ((tmpsOf o).any (Nat.beq d) || (guardTmp ops o).any (Nat.beq d)) = true := by
        rw [Bool.or_eq_true, List.any_eq_true, List.any_eq_true]
        rcases hm with hm | hm
        · exact .inl ⟨d, hm, Nat.beq_refl d⟩
        · exact .inr ⟨d, hm, Nat.beq_refl d⟩
      rw [hany] at h4
      simp only [Bool.not_true, Bool.false_or, Bool.or_eq_true, Bool.and_eq_true] at h4
      rcases h4 with h4 | h4
      · exact .inl ⟨of_eq_true_blt h4.1, h4.2⟩
      · exact .inr ⟨of_eq_true_blt h4.1, h4.2⟩
theorem mem_tmpsOf {o : Oper} {t : Nat} (h : Operand.tmp t ∈ o.op.operands.toList) : t ∈ tmpsOf o := List.mem_filterMap.2 ⟨.tmp t, h, rfl⟩

/-- What makes the run of a region one for all orders. -/
structure RunOf (P : Program) (ops : Array Oper) (σ0 : St) (p : Nat → PV) (nb : Nat → List (Nat × LB)) (sg : Nat → St) : Prop where
  reg : regOK ops.toList = true
  zero : sg 0 = σ0
  step : ∀ j o, ops.toList[j]? = some o → sg (j + 1) = ((sg j).addB (nb j)).put o.dst (p j) ∧ StepOK P ops j o (sg j) (p j) (nb j)
section
variable {P : Program} {X : XF} {w0 : World} {ops : Array Oper} {σ0 : St} {p : Nat → PV} {nb : Nat → List (Nat × LB)} {sg : Nat → St}
theorem RunOf.nb_dst (R : RunOf P ops σ0 p nb sg) {j : Nat} {o : Oper} (hj : ops.toList[j]? = some o) {id : Nat} {b : LB} (h : look id (nb j) = some b) : o.dst = some id := by
  rcases (R.step j o hj).2 with ⟨_, _, hn, _, _⟩ | ⟨_, _, _, hn⟩
  · rcases hn with hn | ⟨d, b', hd, hn⟩
    · rw [hn] at h; cases h
    · rw [hn] at h
      by_cases e : id = d
      · rw [e]; exact hd
      · rw [look_cons_ne e] at h; cases h
  · rw [hn] at h; cases h
theorem RunOf.apart (R : RunOf P ops σ0 p nb sg) {i j : Nat} {o oj : Oper} (hi : ops.toList[i]? = some o) (hj : ops.toList[j]? = some oj) (hji : j ≠ i) {d : Nat} (h : o.dst = some d) : oj.dst ≠ some d :=
  ((regOK_spec R.reg hj).2 i o hi (Ne.symm hji) d h).1
theorem RunOf.lex (R : RunOf P ops σ0 p nb sg) : ∀ i, i ≤ ops.size → AtD ops.toList σ0 p nb (fun j => j < i) (sg i)
  | 0, _ => by
    rw [R.zero]
    exact ⟨rfl, fun _ _ _ _ h => absurd h (Nat.not_lt_zero _), fun _ _ => rfl, fun _ _ _ _ _ h => absurd h (Nat.not_lt_zero _), fun _ _ => rfl⟩
  | i + 1, h => by
    have ih := RunOf.lex R i (by omega)
    have hi : ops.toList[i]? = some (ops.toList[i]'(by simp; omega)) := List.getElem?_eq_getElem _
    generalize ops.toList[i]'(by simp; omega) = o at hi
    have hs := ih.step hi (Nat.lt_irrefl i) (fun j oj d hj hji hd => R.apart hi hj hji hd) (fun j oj id b b' hj hji h1 h2 => R.apart hi hj hji (R.nb_dst hi h1) (R.nb_dst hj h2))
    rw [(R.step i o hi).1]
    have e : (fun j => j = i ∨ j < i) = fun j => j < i + 1 := by funext j; simp; omega
    rwa [e] at hs
/-- What an operation reads, it reads in every order. -/
theorem RunOf.reads (R : RunOf P ops σ0 p nb sg) {D : Nat → Prop} {σ : St} (hat : AtD ops.toList σ0 p nb D σ) (hcl : Closed ops.toList D) {i : Nat} {o : Oper} (hi : ops.toList[i]? = some o) (hD : ¬ D i)
    (hpre : ∀ e ∈ o.after.toList, Region.binds .any e = true → D e.on) {t : Nat} (ht : t ∈ tmpsOf o ∨ t ∈ guardTmp ops.toList o) {q : PV} (hq : (sg i).get t = some q) : σ.get t = some q := by
  have hil : i < ops.size := by have := (List.getElem?_eq_some_iff.1 hi).1; simpa using this
  have hlex := R.lex i (Nat.le_of_lt hil)
  by_cases hw : ∃ j oj, ops.toList[j]? = some oj ∧ j ≠ i ∧ oj.dst = some t
  · obtain ⟨j, oj, hj, hji, hd⟩ := hw
    rcases ((regOK_spec R.reg hi).2 j oj hj hji t hd).2 ht with ⟨h1, h2⟩ | ⟨h1, h2⟩
    · rw [hlex.inn j oj t hj h1 hd] at hq
      rw [← hq]
      exact hat.inn j oj t hj (goodA ops.toList i o j hi h2 D hcl hpre) hd
    · have hnj : ¬ D j := fun h => hD (goodA ops.toList j oj i hj h2 D hcl (fun e he hb => hcl j oj hj h e he hb))
      rw [hlex.out t (fun k ok hk hlt e => by
        by_cases hkj : k = j
        · omega
        · exact R.apart hj hk hkj hd e)] at hq
      rw [hat.out t (fun k ok hk hDk e => by
        by_cases hkj : k = j
        · exact hnj (hkj ▸ hDk)
        · exact R.apart hj hk hkj hd e)]
      exact hq
  · have hno : ∀ j oj, ops.toList[j]? = some oj → j ≠ i → oj.dst ≠ some t := fun j oj hj hji hd => hw ⟨j, oj, hj, hji, hd⟩
    rw [hlex.out t (fun k ok hk hlt => hno k ok hk (by omega))] at hq
    rw [hat.out t (fun k ok hk hDk => hno k ok hk (fun e => hD (e ▸ hDk)))]
    exact hq
theorem guardTmp_of {o : Oper} {j : Nat} {want : Bool} {oj : Oper} {t : Nat} (hg : o.guard = some (j, want)) (hj : ops[j]? = some oj) (hd : oj.dst = some t) : t ∈ guardTmp ops.toList o := by
  unfold guardTmp
  rw [hg]
  have : ops.toList[j]? = some oj := by simpa using hj
  simp [this, hd]
theorem wanted_of {o : Oper} {σ : St} {a : Act} {w : World} {μ : LMap} {b : Bool} (s : SimM X w0 σ a w μ) (h : wantsP ops σ o b) : Region.wanted o (yielded ops a.tmps) = b := by
  unfold wantsP at h
  unfold Region.wanted
  cases hg : o.guard with
  | none => rw [hg] at h; exact h.symm
  | some jw =>
    obtain ⟨j, want⟩ := jw
    rw [hg] at h
    obtain ⟨oj, t, c, hj, hd, ht, e⟩ := h
    have hy := yielded_of s hj hd ht
    simp only [hy]
    rw [← e]
    cases c <;> cases want <;> rfl
theorem wantsP_mono {o : Oper} {σ σ' : St} {b : Bool} (h : wantsP ops σ o b) (hm : ∀ t ∈ guardTmp ops.toList o, ∀ q, σ.get t = some q → σ'.get t = some q) : wantsP ops σ' o b := by
  unfold wantsP at h ⊢
  cases hg : o.guard with
  | none => rw [hg] at h; exact h
  | some jw =>
    obtain ⟨j, want⟩ := jw
    rw [hg] at h
    obtain ⟨oj, t, c, hj, hd, ht, e⟩ := h
    exact ⟨oj, t, c, hj, hd, hm t (guardTmp_of hg hj hd) _ ht, e⟩
/-- One operation comes up. -/
theorem RunOf.one (R : RunOf P ops σ0 p nb sg) {D : Nat → Prop} {σ : St} (hat : AtD ops.toList σ0 p nb D σ) (hcl : Closed ops.toList D) {i : Nat} {o : Oper} (hi : ops.toList[i]? = some o) (hD : ¬ D i)
    (hpre : ∀ e ∈ o.after.toList, Region.binds .any e = true → D e.on) {a : Act} {w : World} {μ : LMap} (s : SimM X w0 σ a w μ) {Q : Exit → Act → World → Prop} {K : Act → World → Prop}
    (hK : ∀ σ' a' w' μ', AtD ops.toList σ0 p nb (fun j => j = i ∨ D j) σ' → SimM X w0 σ' a' w' μ' → K a' w') : wpOp P ops Q i K a w := by
  have hil : i < ops.size := by have := (List.getElem?_eq_some_iff.1 hi).1; simpa using this
  have hio : ops[i]? = some o := by simpa using hi
  have hlex := R.lex i (Nat.le_of_lt hil)
  have hstep := hat.step hi hD (fun j oj d hj hji hd => R.apart hi hj hji hd) (fun j oj id b b' hj hji h1 h2 => R.apart hi hj hji (R.nb_dst hi h1) (R.nb_dst hj h2))
  have hreads : ∀ t, t ∈ tmpsOf o ∨ t ∈ guardTmp ops.toList o → ∀ q, (sg i).get t = some q → σ.get t = some q := fun t ht q hq => R.reads hat hcl hi hD hpre ht hq
  unfold wpOp
  rw [hio]
  rcases (R.step i o hi).2 with ⟨hw, hok, hnb, hfresh, hids⟩ | ⟨hw, hb, hp, hnb⟩
  · have hw' := wanted_of s (wantsP_mono hw (fun t ht q hq => hreads t (.inr ht) q hq))
    simp only [hw', if_true]
    refine .inl ((hok.run σ ⟨hat.nt.trans hlex.nt.symm, ?_, ?_⟩ ?_).run X w0 a w μ K Q s fun a' w' μ' s' => hK _ a' w' μ' hstep s')
    · intro x hx q hq
      cases x with
      | tmp t => exact hreads t (.inl (mem_tmpsOf hx)) q hq
      | const v => exact hq
      | func f => exact hq
      | global g => exact hq
    · intro x hx q id b hq hid hb
      have hmem : id ∈ (sg i).ids o := List.mem_filterMap.2 ⟨q, List.mem_filterMap.2 ⟨x, hx, hq⟩, hid⟩
      have hokid : okId ops.toList i id = true := List.all_eq_true.1 hids id hmem
      by_cases hmk : ∃ j oj b', ops.toList[j]? = some oj ∧ j < i ∧ look id (nb j) = some b'
      · obtain ⟨j, oj, b', hj, hlt, hl⟩ := hmk
        rw [hlex.binn j oj id b' hj hlt hl] at hb
        rw [← hb]
        refine hat.binn j oj id b' hj ?_ hl
        unfold okId at hokid
        rw [List.all_eq_true] at hokid
        have h1 := hokid (oj, j) (by rw [List.mem_zipIdx_iff_getElem?]; exact hj)
        simp only [R.nb_dst hj hl, show Nat.beq id id = true from Nat.beq_refl id, Bool.not_true, Bool.false_or, Bool.or_eq_true] at h1
        rcases h1 with h1 | h1
        · have : i ≤ j := by rwa [Nat.ble_eq] at h1
          omega
        · exact goodA ops.toList i o j hi h1 D hcl hpre
      · rw [hlex.bout id (fun j oj hj hlt => by
          cases hl : look id (nb j) with
          | none => rfl
          | some b' => exact absurd ⟨j, oj, b', hj, hlt, hl⟩ hmk)] at hb
        rw [hat.bout id (fun j oj hj hDj => by
          cases hl : look id (nb j) with
          | none => rfl
          | some b' =>
            exfalso
            have hge : ¬ j < i := fun hlt => hmk ⟨j, oj, b', hj, hlt, hl⟩
            have hne : j ≠ i := fun e => hD (e ▸ hDj)
            have hjs : j < ops.size := by have := (List.getElem?_eq_some_iff.1 hj).1; simpa using this
            rcases (R.step j oj hj).2 with ⟨_, _, hnbj, hfr, _⟩ | ⟨_, _, _, hn⟩
            · have h0 := hfr id b' hl
              have hlexj := R.lex j (Nat.le_of_lt hjs)
              rw [hlexj.bout id (fun k ok hk hlt => by
                cases hlk : look id (nb k) with
                | none => rfl
                | some bk => exact absurd (R.nb_dst hj hl) (R.apart hk hj (by omega) (R.nb_dst hk hlk)))] at h0
              rw [h0] at hb
              cases hb
            · rw [hn] at hl; cases hl)]
        exact hb
    · intro id b hl
      have h0 := hfresh id b hl
      rw [hlex.bout id (fun k ok hk hlt => by
        cases hlk : look id (nb k) with
        | none => rfl
        | some bk => exact absurd (R.nb_dst hi hl) (R.apart hk hi (by omega) (R.nb_dst hk hlk)))] at h0
      rw [hat.bout id (fun k ok hk hDk => by
        cases hlk : look id (nb k) with
        | none => rfl
        | some bk => exact absurd (R.nb_dst hi hl) (R.apart hk hi (fun e => hD (e ▸ hDk)) (R.nb_dst hk hlk)))]
      exact h0
  · have hw' := wanted_of s (wantsP_mono hw (fun t ht q hq => hreads t (.inr ht) q hq))
    simp only [hw', Bool.false_eq_true, if_false]
    rw [hnb, hp] at hstep
    have hb' : inB σ o.dst = true := by
      cases hd : o.dst with
      | none => rfl
      | some d =>
        rw [hd] at hb
        simp only [inB] at hb ⊢
        rw [hat.nt, ← hlex.nt]
        exact hb
    exact hK _ _ w μ hstep (s.put hb' (p := .v undef) (y := undef) rfl)
theorem getD_true {L : Array Bool} {i : Nat} (h : L.getD i true = false) : i < L.size ∧ L.getD i false = false := by
  rcases Nat.lt_or_ge i L.size with h1 | h1
  · refine ⟨h1, ?_⟩
    simp [Array.getD, h1] at h ⊢
    exact h
  · simp [Array.getD, Nat.not_lt.2 h1] at h
theorem RunOf.any (R : RunOf P ops σ0 p nb sg) {Q : Exit → Act → World → Prop} (hQ : ∀ σ a w μ, AtD ops.toList σ0 p nb (fun j => j < ops.size) σ → SimM X w0 σ a w μ → Q .normal a w) :
    ∀ (fuel : Nat) (listed : Array Bool) (σ : St) (a : Act) (w : World) (μ : LMap), listed.size = ops.size → cntB ops.size (fun i => !listed.getD i true) ≤ fuel → Closed ops.toList (fun j => listed.getD j false = true) →
      AtD ops.toList σ0 p nb (fun j => listed.getD j false = true) σ → SimM X w0 σ a w μ → wpAny P .any ops Q fuel listed a w := by
  have fin : ∀ (listed : Array Bool) (σ : St) (a : Act) (w : World) (μ : LMap), listed.size = ops.size → Region.ready .any ops listed = [] → AtD ops.toList σ0 p nb (fun j => listed.getD j false = true) σ → SimM X w0 σ a w μ → Q .normal a w := by
    intro listed σ a w μ hsz hr hat s
    have hall : ∀ n, ∀ j, j < n → j < ops.size → listed.getD j false = true := by
      intro n
      induction n with
      | zero => intro j h; omega
      | succ n ih =>
        intro j hj hjs
        rcases Nat.lt_or_ge j n with h1 | h1
        · exact ih j h1 hjs
        · obtain rfl : j = n := by omega
          cases hL : listed.getD j false with
          | true => rfl
          | false =>
            exfalso
            have hjo : ops[j]? = some ops[j] := Array.getElem?_eq_getElem hjs
            have hmem : j ∈ Region.ready .any ops listed := by
              rw [mem_ready]
              refine ⟨?_, ops[j], hjo, fun e he hb => ?_⟩
              · have hl : j < listed.size := by omega
                simp [Array.getD, hl] at hL ⊢
                exact hL
              · have he' : e ∈ ops[j].after.toList := by simpa using he
                have hlt := (regOK_spec R.reg (show ops.toList[j]? = some ops[j] from by rw [Array.getElem?_toList]; exact hjo)).1 e he' hb
                exact ih e.on hlt (by omega)
            rw [hr] at hmem
            cases hmem
    have e : ∀ j o, ops.toList[j]? = some o → (listed.getD j false = true) := fun j o hj => by
      have hjs : j < ops.size := by have := (List.getElem?_eq_some_iff.1 hj).1; simpa using this
      exact hall (j + 1) j (by omega) hjs
    have e' : ∀ j o, ops.toList[j]? = some o → j < ops.size := fun j o hj => by have := (List.getElem?_eq_some_iff.1 hj).1; simpa using this
    refine hQ σ a w μ ⟨hat.nt, fun i o t hi _ hd => hat.inn i o t hi (e i o hi) hd, fun t ht => hat.out t (fun i o hi _ => ht i o hi (e' i o hi)), fun i o id b hi _ hb => hat.binn i o id b hi (e i o hi) hb, fun id hid => hat.bout id (fun i o hi _ => hid i o hi (e' i o hi))⟩ s
  intro fuel
  induction fuel with
  | zero =>
    intro listed σ a w μ hsz hc hcl hat s
    have hr : Region.ready .any ops listed = [] := by
      rw [List.eq_nil_iff_forall_not_mem]
      intro i hi
      have h0 := (mem_ready.1 hi).1
      have hlt := (getD_true h0).1
      have hpos : 0 < cntB ops.size (fun i => !listed.getD i true) := by
        unfold cntB
        apply List.length_pos_of_mem (a := i)
        rw [List.mem_filter, List.mem_range]
        exact ⟨by omega, by rw [h0]; rfl⟩
      omega
    exact ⟨hr, fin listed σ a w μ hsz hr hat s⟩
  | succ fuel ih =>
    intro listed σ a w μ hsz hc hcl hat s
    refine ⟨fun hr => fin listed σ a w μ hsz hr hat s, fun i hi => ?_⟩
    obtain ⟨h0, o, hio, hpre⟩ := mem_ready.1 hi
    obtain ⟨hlt, hnl⟩ := getD_true h0
    have hil : ops.toList[i]? = some o := by simpa using hio
    refine R.one hat hcl hil (by rw [hnl]; decide) (fun e he hb => hpre e (by simpa using he) hb) s ?_
    intro σ' a' w' μ' hat' s'
    have hset : ∀ j, (listed.setIfInBounds i true).getD j false = true ↔ (j = i ∨ listed.getD j false = true) := by
      intro j
      by_cases hji : j = i
      · subst hji
        simp [Array.getD, hlt]
      · simp only [hji, false_or]
        by_cases hjl : j < listed.size
        · simp [Array.getD, hjl, Array.getElem_setIfInBounds, Ne.symm hji]
        · simp [Array.getD, hjl]
    have hD : (fun j => (listed.setIfInBounds i true).getD j false = true) = fun j => j = i ∨ listed.getD j false = true := by
      funext j
      exact propext (hset j)
    refine ih (listed.setIfInBounds i true) σ' a' w' μ' (by simpa using hsz) ?_ ?_ (by rw [hD]; exact hat') s'
    · have : cntB ops.size (fun k => !(listed.setIfInBounds i true).getD k true) < cntB ops.size (fun k => !listed.getD k true) := by
        unfold cntB
        refine filter_len_lt ?_ (y := i) ?_ ?_ _ (List.mem_range.2 (by omega))
        · intro k hk
          simp only [Bool.not_eq_true'] at hk ⊢
          have hk1 := (getD_true hk).1
          by_cases hki : k = i
          · subst hki; exact h0
          · have hkl : k < listed.size := by simpa using hk1
            simp [Array.getD, hkl, Array.getElem_setIfInBounds, Ne.symm hki] at hk ⊢
            exact hk
        · simp [Array.getD, hlt]
        · rw [h0]; rfl
      omega
    · rw [hD]
      intro k ok hk hDk e he hb
      rcases hDk with rfl | hDk
      · rw [hil] at hk; injection hk with hk; subst hk
        exact .inr (hpre e (by simpa using he) hb)
      · exact .inr (hcl k ok hk hDk e he hb)
/-- **A region that draws its order, run once.** -/
theorem PW.draw {id : Nat} {l : List Oper} {σ σe : St} {K : Exit → St → Prop} (hm : P.follows .mixedOrders = true) (hreg : regOK l = true) (hrun : DRun P l.toArray 0 l σ σe) (k : K .normal σe) : PW P X w0 (.region id l.toArray true) σ K := ⟨fun a w μ s => by
  obtain ⟨p, nb, sg, h0, he, hst⟩ := hrun.steps
  have R : RunOf P l.toArray σ p nb sg := ⟨by simpa using hreg, h0, fun j o hj => by simpa using hst j o hj⟩
  refine wp_region_any hm (R.any (X := X) (w0 := w0) ?_ _ _ σ a _ μ (by simp) ?_ ?_ ?_ (s.below (bdrew (a := w))))
  · intro σ' a' w' μ' hat s'
    have hlex := R.lex l.toArray.size (Nat.le_refl _)
    have hse : sg l.toArray.size = σe := by simpa using he
    rw [hse] at hlex
    refine ⟨σe, μ', k, s'.less (hlex.nt.trans hat.nt.symm) ?_ ?_⟩
    · intro t q hq
      by_cases hw : ∃ i o, l.toArray.toList[i]? = some o ∧ i < l.toArray.size ∧ o.dst = some t
      · obtain ⟨i, o, hi, hl, hd⟩ := hw
        rw [hlex.inn i o t hi hl hd] at hq
        rw [hat.inn i o t hi hl hd]; exact hq
      · rw [hlex.out t (fun i o hi hl hd => hw ⟨i, o, hi, hl, hd⟩)] at hq
        rw [hat.out t (fun i o hi hl hd => hw ⟨i, o, hi, hl, hd⟩)]; exact hq
    · intro id
      by_cases hw : ∃ i o b, l.toArray.toList[i]? = some o ∧ i < l.toArray.size ∧ look id (nb i) = some b
      · obtain ⟨i, o, b, hi, hl, hb⟩ := hw
        rw [hlex.binn i o id b hi hl hb, hat.binn i o id b hi hl hb]
      · have hno : ∀ i o, l.toArray.toList[i]? = some o → i < l.toArray.size → look id (nb i) = none := fun i o hi hl => by
          cases hb : look id (nb i) with
          | none => rfl
          | some b => exact absurd ⟨i, o, b, hi, hl, hb⟩ hw
        rw [hlex.bout id hno, hat.bout id hno]
  · unfold cntB
    exact Nat.le_trans (List.length_filter_le _ _) (by simp)
  · intro i o _ h
    simp [Array.getD] at h
  · have e : (fun j => (Array.replicate l.toArray.size false).getD j false = true) = fun _ => False := by
      funext j
      simp [Array.getD]
    rw [e]
    exact ⟨rfl, fun _ _ _ _ h => h.elim, fun _ _ => rfl, fun _ _ _ _ _ h => h.elim, fun _ _ => rfl⟩⟩
end
end
end Go.Proofs.Ytlicjlahnbebcaa
