/- What is reckoned is so: each operation yields what the table of rules says. -/
import Derived.Test.YtlicjlahnbebcaaR1
namespace Go.Proofs.Ytlicjlahnbebcaa
open Go.RowKit
def kindB (P : Program) (t : TypeId) : TK → Bool
  | .struct fs pl => decide (fldsB P t = some fs) && decide (structB P t = some pl)
  | .slice e sz => decide (sliceB P t = some (e, sz))
  | .arr n e sz => decide (arrB P t = some (n, e, sz))
  | .str => (match P.underlying t with | some .string => true | _ => false)
  | .int k => (match P.underlying t with | some (.int k') => decide (k = k') | _ => false)
  | .bool => (match P.underlying t with | some .bool => true | _ => false)
  | .other => true
theorem kindOK_of {P : Program} {t : TypeId} {k : TK} (h : kindB P t k = true) : KindOK P t k := by
  cases k with
  | struct fs pl =>
    simp only [kindB, Bool.and_eq_true, decide_eq_true_eq] at h
    exact h
  | slice e sz =>
    have h : decide (sliceB P t = some (e, sz)) = true := h
    exact (decide_eq_true_iff (p := sliceB P t = some (e, sz))).1 h
  | arr n e sz =>
    have h : decide (arrB P t = some (n, e, sz)) = true := h
    exact (decide_eq_true_iff (p := arrB P t = some (n, e, sz))).1 h
  | str =>
    simp only [kindB] at h
    split at h
    · assumption
    · cases h
  | int k =>
    simp only [kindB] at h
    split at h
    · have := of_decide_eq_true h
      subst this
      assumption
    · cases h
  | bool =>
    simp only [kindB] at h
    split at h
    · assumption
    · cases h
  | other => trivial
theorem zeroOK_of {P : Program} {t : TypeId} {z : List Value} (h : zeroB P t = some z) : ZeroOK P t (some z) := h
theorem ezOK_of {P : Program} {t : TypeId} {sz b : Nat} {z : Value} (h : ezB P t = some (some z, sz, b)) : EzOK P t sz (some (z, b)) := h
theorem mapM_get {α β : Type} {g : α → Option β} : ∀ {l : List α} {r : List β}, l.mapM g = some r → ∀ (i : Nat) (b : β), r[i]? = some b → ∃ a, l[i]? = some a ∧ g a = some b
  | [], r, h, i, b, hi => by injection h with h; subst h; simp at hi
  | a :: l, r, h, i, b, hi => by
    rw [List.mapM_cons] at h
    cases hg : g a with
    | none => rw [hg] at h; cases h
    | some c =>
      cases hm : l.mapM g with
      | none => rw [hg, hm] at h; cases h
      | some cs =>
        rw [hg, hm] at h
        injection h with h
        subst h
        cases i with
        | zero => simp at hi; subst hi; exact ⟨a, rfl, hg⟩
        | succ i => simpa using mapM_get hm i b (by simpa using hi)
section
variable {P : Program} {T : TT} {dst : Option Tmp} {ty : TypeId} {pos : String} {after : Array Edge} {guard : Option (Nat × Bool)} {nt : Nat} {env : List (Nat × PV)} {lh : List (Nat × LB)}
theorem TT.at (hT : T.Ok P id) {t : Nat} {i : TI} (h : T.get t = some i) : TIok P t i := TT.get_ok hT h
theorem TIok.fld {t f off n : Nat} {ag : Bool} {i : TI} {fs : List (Nat × Nat × Bool)} {pl : List (Nat × Nat)} (h : TIok P t i) (hk : i.kind = .struct fs pl) (hf : fs[f]? = some (off, n, ag)) : FieldT P t f off n ag := by
  have h1 := h.kind
  rw [hk] at h1
  have h2 := h1.1
  refine ⟨?_⟩
  unfold fldsB at h2
  unfold fldB
  split at h2
  · rename_i l hu
    rw [hu]
    obtain ⟨fl, hl, hg⟩ := mapM_get h2 f _ hf
    simp only [show l[f]? = some fl from by simpa using hl, Option.bind_some]
    exact hg
  · cases h2
theorem good_field (hT : T.Ok P id) (hd : inB ⟨nt, env, lh⟩ dst = true) {s f : Nat} {x : Operand} {cs : List PV} (hx : evE env x = some (.agg cs)) : (fieldS T s f cs).Good P dst (.field s x f) ty pos after guard ⟨nt, env, lh⟩ := by
  unfold fieldS
  split
  · rename_i h0
    have h := TT.at hT h0
    split
    · rename_i hf
      have := h.fld rfl hf
      exact ok_fieldN (by rw [evE_eq]; exact hx) hd
    · rename_i off n hf
      have hF := h.fld rfl hf
      cases hn : Nat.beq n 1 with
      | false => trivial
      | true =>
        have := Nat.eq_of_beq_eq_true hn
        subst this
        rw [cond_true]
        split
        · exact ok_field1 (by rw [evE_eq]; exact hx) ‹_› hd
        · trivial
    · trivial
  · trivial
theorem beq_false_ne {n m : Nat} (h : Nat.beq n m = false) : n ≠ m := fun e => by subst e; simp at h
theorem good_fieldA (hT : T.Ok P id) (hd : inB ⟨nt, env, lh⟩ dst = true) {s f : Nat} {x : Operand} {p : PV} (hx : evE env x = some p) : (fieldAS T s f lh p).Good P dst (.fieldAddr s x f) ty pos after guard ⟨nt, env, lh⟩ := by
  unfold fieldAS
  split
  · rename_i h0
    have h := TT.at hT h0
    split
    · rename_i hf
      have hF := h.fld rfl hf
      cases hn : Nat.beq _ 0 with
      | true => trivial
      | false =>
        have hne := beq_false_ne hn
        rw [cond_false]
        split
        · exact ok_fieldAddr_lp (by rw [evE_eq]; exact hx) hne hd
        · exact ok_fieldAddr_ptr (by rw [evE_eq]; exact hx) hne hd
        · split
          · rename_i id ver sz i j _ rt sz' ver' xs hb
            cases hc : (Nat.beq sz sz' && Nat.beq ver ver') with
            | false => trivial
            | true =>
              rw [Bool.and_eq_true] at hc
              have e1 := Nat.eq_of_beq_eq_true hc.1
              have e2 := Nat.eq_of_beq_eq_true hc.2
              subst e1 e2
              exact ok_fieldAddr_rp (by rw [evE_eq]; exact hx) hne ⟨_, _, hb⟩ hd
          · trivial
        · trivial
    · trivial
  · trivial
theorem good_load (hT : T.Ok P id) (hd : inB ⟨nt, env, lh⟩ dst = true) {t : Nat} {x : Operand} {p : PV} (hx : evE env x = some p) : (loadS T t lh p).Good P dst (.load t x) ty pos after guard ⟨nt, env, lh⟩ := by
  unfold loadS
  split
  · rename_i ag n _ _ _ h0
    have h := TT.at hT h0
    have hz : TySz P t ag n := ⟨h.ty⟩
    have hx' : (⟨nt, env, lh⟩ : St).ev x = some p := by rw [evE_eq]; exact hx
    split
    · rename_i id k
      split
      · rename_i cells hb
        cases ag with
        | true =>
          rw [cond_true]
          cases hc : (Nat.beq k 0 && Nat.beq cells.length n) with
          | true =>
            rw [Bool.and_eq_true] at hc
            have e1 := Nat.eq_of_beq_eq_true hc.1
            subst e1
            exact ok_loadA_lp hx' hb hc.2 hd
          | false =>
            rw [cond_false]
            cases hc : Nat.ble (k + n) cells.length with
            | true => exact ok_loadN_lp hx' hb hc hd
            | false => trivial
        | false =>
          rw [cond_false]
          cases hn : Nat.beq n 1 with
          | false => trivial
          | true =>
            have e1 := Nat.eq_of_beq_eq_true hn
            subst e1
            exact fun p hp => ok_load1_lp hx' hb hp hd
      · trivial
    · rename_i cs
      cases ag with
      | true =>
        rw [cond_true]
        cases hc : Nat.beq cs.length n with
        | true => exact ok_loadA_ptr hx' hc hd
        | false =>
          rw [cond_false]
          cases hc : Nat.ble n cs.length with
          | true => exact ok_loadN_ptr hx' hc hd
          | false => trivial
      | false =>
        rw [cond_false]
        cases hn : Nat.beq n 1 with
        | false => trivial
        | true =>
          have e1 := Nat.eq_of_beq_eq_true hn
          subst e1
          rw [cond_true]
          cases cs with
          | nil => trivial
          | cons p cs => exact ok_load1_ptr hx' rfl hd
    · trivial
  · trivial
theorem good_indexA (hT : T.Ok P id) (hd : inB ⟨nt, env, lh⟩ dst = true) {t : Nat} {x ix : Operand} {p q : PV} (hx : evE env x = some p) (hi : evE env ix = some q) : (indexAS T t p q).Good P dst (.indexAddr t x ix) ty pos after guard ⟨nt, env, lh⟩ := by
  have hx' : (⟨nt, env, lh⟩ : St).ev x = some p := by rw [evE_eq]; exact hx
  have hi' : (⟨nt, env, lh⟩ : St).ev ix = some q := by rw [evE_eq]; exact hi
  unfold indexAS
  split
  · rename_i sz xs k i
    split
    · rename_i e sz' _ _ h0
      have h := TT.at hT h0
      cases hc : (Nat.beq sz sz' && !Nat.beq sz 0) with
      | false => trivial
      | true =>
        rw [Bool.and_eq_true] at hc
        have e1 := Nat.eq_of_beq_eq_true hc.1
        subst e1
        have : SliceT P t e sz := ⟨h.kind⟩
        exact fun c h0 hcc => ok_indexAddr_sl hx' hi' h0 hcc (beq_false_ne (by simpa using hc.2)) hd
    · trivial
  · split
    · rename_i n e sz _ _ h0
      have h := TT.at hT h0
      have : ArrT P t n e sz := ⟨h.kind⟩
      exact fun hq => ok_indexAddr_arr hx' hi' hq.1 hq.2 hd
    · trivial
  · split
    · rename_i n e sz _ _ h0
      have h := TT.at hT h0
      have : ArrT P t n e sz := ⟨h.kind⟩
      exact fun hq => ok_indexAddr_arrp hx' hi' hq.1 hq.2 hd
    · trivial
  · trivial
theorem good_index (hT : T.Ok P id) (hd : inB ⟨nt, env, lh⟩ dst = true) {t : Nat} {x ix : Operand} {p q : PV} (hx : evE env x = some p) (hi : evE env ix = some q) : (indexS T t p q).Good P dst (.index t x ix) ty pos after guard ⟨nt, env, lh⟩ := by
  have hx' : (⟨nt, env, lh⟩ : St).ev x = some p := by rw [evE_eq]; exact hx
  have hi' : (⟨nt, env, lh⟩ : St).ev ix = some q := by rw [evE_eq]; exact hi
  unfold indexS
  split
  · split
    · rename_i n e sz _ _ h0
      have h := TT.at hT h0
      split
      · rename_i n1 _ _ _ h1
        have h2 := TT.at hT h1
        cases hc : (Nat.beq sz 1 && Nat.beq n1 1) with
        | false => trivial
        | true =>
          rw [Bool.and_eq_true] at hc
          have e1 := Nat.eq_of_beq_eq_true hc.1
          have e2 := Nat.eq_of_beq_eq_true hc.2
          subst e1 e2
          have : ArrT P t n e 1 := ⟨h.kind⟩
          have : TySz P e false 1 := ⟨h2.ty⟩
          exact fun g0 g1 p hp => ok_index_arr1 hx' hi' g0 g1 hp hd
      · trivial
    · trivial
  · trivial
theorem good_build (hT : T.Ok P id) (hd : inB ⟨nt, env, lh⟩ dst = true) {t : Nat} {parts : Array (Nat × Operand)} : (buildS T t env parts.toList).Good P dst (.build t parts) ty pos after guard ⟨nt, env, lh⟩ := by
  unfold buildS
  split
  · rename_i fs pl zs _ h0
    have h := TT.at hT h0
    have h1 : StructT P t pl := ⟨h.kind.2⟩
    have h2 : ZeroT P t zs := ⟨h.zero⟩
    split
    · rename_i ps hps
      split
      · rename_i cs hcs
        cases hc : zs.all Value.oneCell' with
        | false => trivial
        | true =>
          have := ok_build (P := P) (σ := ⟨nt, env, lh⟩) (dst := dst) (ty := ty) (pos := pos) (after := after) (guard := guard) (t := t) (parts := parts.toList) (evPl_eq hps) hcs hc hd
          rw [Array.toArray_toList] at this
          exact this
      · trivial
    · trivial
  · trivial
theorem good_bsl (hT : T.Ok P id) (hd : inB ⟨nt, env, lh⟩ dst = true) {t n : Nat} {parts : Array (Nat × Operand)} : (bslS T t n env parts.toList).Good P dst (.buildSlice t n parts) ty pos after guard ⟨nt, env, lh⟩ := by
  unfold bslS
  split
  · rename_i e sz _ _ h0
    have h := TT.at hT h0
    have h1 : SliceT P t e sz := ⟨h.kind⟩
    split
    · rename_i sz' _ _ z b h00
      have h2 := TT.at hT h00
      cases hn0 : Nat.beq n 0 with
      | true =>
        have := Nat.eq_of_beq_eq_true hn0
        subst this
        rw [cond_true]
        split
        · rename_i hp
          cases hc : (Nat.beq sz sz' && (Nat.beq z.cells.size sz && !Nat.beq sz 0 && z.cells.toList.all Value.oneCell')) with
          | false => trivial
          | true =>
            rw [Bool.and_eq_true] at hc
            have e1 := Nat.eq_of_beq_eq_true hc.1
            subst e1
            have : ElemT P e z sz b := ⟨h2.ez⟩
            intro d hdd
            subst hdd
            exact ok_nilrow hp hc.2 hd
        · trivial
      | false =>
      rw [cond_false]
      split
      · rename_i ps hps
        split
        · rename_i cs hcs
          cases hc : (Nat.beq sz sz' && closedL cs && (Nat.ble (n * sz) 16777216 && Nat.beq z.cells.size sz && !Nat.beq sz 0 && z.cells.toList.all Value.oneCell')) with
          | false => trivial
          | true =>
            rw [Bool.and_eq_true, Bool.and_eq_true] at hc
            have e1 := Nat.eq_of_beq_eq_true hc.1.1
            subst e1
            have : ElemT P e z sz b := ⟨h2.ez⟩
            have := ok_lit (P := P) (σ := ⟨nt, env, lh⟩) (dst := dst) (ty := ty) (pos := pos) (after := after) (guard := guard) (t := t) (n := n) (parts := parts.toList) (evPl_eq hps) hcs hc.1.2 hc.2 hd
            rw [Array.toArray_toList] at this
            exact this
        · trivial
      · trivial
    · trivial
  · trivial
theorem good_binI (hd : inB ⟨nt, env, lh⟩ dst = true) {op : BinOp} {t yt : Nat} {x y : Operand} {k : IntKind} {a b : Int} (hx : evE env x = some (.v (.int k a))) (hy : evE env y = some (.v (.int k b))) : (binI op k a b).Good P dst (.binOp op t x y yt) ty pos after guard ⟨nt, env, lh⟩ := by
  have hx' : (⟨nt, env, lh⟩ : St).ev x = some (.v (.int k a)) := by rw [evE_eq]; exact hx
  have hy' : (⟨nt, env, lh⟩ : St).ev y = some (.v (.int k b)) := by rw [evE_eq]; exact hy
  cases op <;> first | trivial | exact ok_addW hx' hy' hd | exact ok_subW hx' hy' hd | exact ok_mulW hx' hy' hd | exact fun h => ok_quoT hx' hy' hd h | exact ok_lss hx' hy' hd | exact ok_leq hx' hy' hd | exact ok_gtr hx' hy' hd | exact ok_geq hx' hy' hd | exact ok_eql hx' hy' hd | exact ok_neq hx' hy' hd | exact ok_and hx' hy' hd | exact ok_or hx' hy' hd | skip
  exact fun hb => ok_bin hx' hy' (fun w => by simp [eqGuard, binOp, Op.intDiv, hb]) hd
theorem good_bin (hT : T.Ok P id) (hd : inB ⟨nt, env, lh⟩ dst = true) {op : BinOp} {t yt : Nat} {x y : Operand} {p q : PV} (hx : evE env x = some p) (hy : evE env y = some q) : (binS T op t p q).Good P dst (.binOp op t x y yt) ty pos after guard ⟨nt, env, lh⟩ := by
  have hx' : (⟨nt, env, lh⟩ : St).ev x = some p := by rw [evE_eq]; exact hx
  have hy' : (⟨nt, env, lh⟩ : St).ev y = some q := by rw [evE_eq]; exact hy
  unfold binS
  split
  · rename_i k a k' b
    split
    · exact fun h => ok_shl hx' hy' hd h
    · exact fun h => ok_shr hx' hy' hd h
    · cases hk : kEq k k' with
      | false => trivial
      | true =>
        have e := of_decide_eq_true hk
        subst e
        exact good_binI hd hx hy
  · split
    · exact ok_eqlS hx' hy' hd
    · exact ok_neqS hx' hy' hd
    · trivial
  · split
    · rename_i h0
      have h := TT.at hT h0
      have : BoolT P t := ⟨h.kind⟩
      split
      · exact ok_eqlB hx' hy' hd
      · exact ok_neqB hx' hy' hd
      · trivial
    · trivial
  · split
    · exact fun n za bs hE h1 h2 h3 h4 => by subst h1 h2; exact ok_eqs (neg := false) hE hx' hy' h3 h4 hd
    · exact fun n za bs hE h1 h2 h3 h4 => by subst h1 h2; exact ok_eqs (neg := true) hE hx' hy' h3 h4 hd
    · trivial
  · trivial
theorem good_len (hT : T.Ok P id) (hd : inB ⟨nt, env, lh⟩ dst = true) {t : Nat} {x : Operand} {p : PV} (hx : evE env x = some p) : (lenS T t lh p).Good P dst (.call { callee := .builtin .len, args := #[x], argTypes := #[t] }) ty pos after guard ⟨nt, env, lh⟩ := by
  have hx' : (⟨nt, env, lh⟩ : St).ev x = some p := by rw [evE_eq]; exact hx
  unfold lenS
  split
  · split
    · rename_i e sz _ _ h0
      have h := TT.at hT h0
      have : SliceT P t e sz := ⟨h.kind⟩
      exact ok_len hx' hd
    · trivial
  · split
    · rename_i e sz _ _ h0
      have h := TT.at hT h0
      have : SliceT P t e sz := ⟨h.kind⟩
      exact ok_len_nil hx' hd
    · trivial
  · split
    · rename_i h0
      have h := TT.at hT h0
      have : StrT P t := ⟨h.kind⟩
      exact ok_len_str hx' hd
    · trivial
  · split
    · rename_i id ver _ _ _ _ e sz _ _ rt sz' ver' xs h0 hb
      have h := TT.at hT h0
      have : SliceT P t e sz := ⟨h.kind⟩
      cases hv : Nat.beq ver ver' with
      | false => trivial
      | true =>
        have := Nat.eq_of_beq_eq_true hv
        subst this
        exact ok_len_row hx' hb hd
    · trivial
  · trivial
theorem toList1 {α : Type} {a : Array α} {x : α} (h : a.toList = [x]) : a = #[x] := by apply Array.ext'; simpa using h
theorem toList2 {α : Type} {a : Array α} {x y : α} (h : a.toList = [x, y]) : a = #[x, y] := by apply Array.ext'; simpa using h
theorem good_call (hT : T.Ok P id) (hd : inB ⟨nt, env, lh⟩ dst = true) {c : Call} : (callS T c env lh).Good P dst (.call c) ty pos after guard ⟨nt, env, lh⟩ := by
  obtain ⟨cal, args, ats⟩ := c
  unfold callS
  split
  · rename_i b hb
    simp only at hb
    subst hb
    split
    · rename_i x t ha ht
      simp only at ha ht
      rw [toList1 ha, toList1 ht]
      split
      · exact good_len hT hd ‹_›
      · trivial
    · rename_i x y _ ha
      simp only at ha
      rw [toList2 ha]
      split
      · rename_i i j hx hy
        have := ok_minmax (P := P) (mx := true) (σ := ⟨nt, env, lh⟩) (dst := dst) (t := ty) (pos := pos) (after := after) (guard := guard) (ats := ats) (by rw [evE_eq]; exact hx) (by rw [evE_eq]; exact hy) hd
        simp only [if_true] at this
        exact this
      · trivial
    · rename_i x y _ ha
      simp only at ha
      rw [toList2 ha]
      split
      · rename_i i j hx hy
        have := ok_minmax (P := P) (mx := false) (σ := ⟨nt, env, lh⟩) (dst := dst) (t := ty) (pos := pos) (after := after) (guard := guard) (ats := ats) (by rw [evE_eq]; exact hx) (by rw [evE_eq]; exact hy) hd
        simp only [Bool.false_eq_true, if_false] at this
        exact this
      · trivial
    · trivial
  · rename_i f hf
    simp only at hf
    subst hf
    split
    · rename_i g first caps hg
      split
      · rename_i ps hps
        intro r hs hcl
        rw [capp_eq] at hs hcl
        refine ⟨fun hno => ?_, fun d rt sz ys hdd hr => ?_⟩
        · have := ok_call (P := P) (σ := ⟨nt, env, lh⟩) (dst := dst) (ty := ty) (pos := pos) (after := after) (guard := guard) (ats := ats) (xs := args.toList) (by rw [evE_eq]; exact hg) (evL_eq hps) hs hcl hno hd
          rw [Array.toArray_toList] at this
          exact this
        · subst hdd hr
          have := ok_call_own (P := P) (σ := ⟨nt, env, lh⟩) (d := d) (ty := ty) (pos := pos) (after := after) (guard := guard) (ats := ats) (xs := args.toList) (by rw [evE_eq]; exact hg) (evL_eq hps) hs hcl hd
          rw [Array.toArray_toList] at this
          exact this
      · trivial
    · trivial
  · trivial
theorem evO_bnd {lo : Option Operand} {l : Option Int} {d m : Nat} (h : evO env lo = some l) (hm : bndOK l d m) : Bnd ⟨nt, env, lh⟩ lo d m := by
  cases lo with
  | none =>
    injection h with h
    subst h
    have : m = d := hm
    subst this
    exact .no
  | some x =>
    simp only [evO] at h
    split at h
    · rename_i k i hx
      injection h with h
      subst h
      obtain ⟨h0, h1⟩ := hm
      rw [h1]
      exact .lit (by rw [evE_eq]; exact hx) h0
    · cases h
theorem opS_good (hT : T.Ok P id) (hd : inB ⟨nt, env, lh⟩ dst = true) (op : Op) : (opS T nt env lh op).Good P dst op ty pos after guard ⟨nt, env, lh⟩ := by
  have E : ∀ {x : Operand} {p : PV}, evE env x = some p → (⟨nt, env, lh⟩ : St).ev x = some p := fun h => by rw [evE_eq]; exact h
  unfold opS
  split
  · split
    · exact ok_move (E ‹_›) hd
    · trivial
  · split
    · exact ok_assign (E ‹_›) hd
    · trivial
  · split
    · rename_i b hb
      split
      · rename_i p q hp hq
        refine ⟨fun h => ?_, fun h => ?_⟩
        · subst h; exact ok_pick_t (E hb) (E hp) hd
        · subst h; exact ok_pick_f (E hb) (E hq) hd
      · trivial
    · trivial
  · split
    · split
      · exact ok_extract (E ‹_›) ‹_› hd
      · trivial
    · trivial
  · split
    · exact ok_nilCheck_lp (E ‹_›) hd
    · exact ok_nilCheck_ptr (E ‹_›) hd
    · exact ok_nilCheck_fn (E ‹_›) hd
    · trivial
  · split
    · exact good_field hT hd ‹_›
    · trivial
  · split
    · exact good_fieldA hT hd ‹_›
    · trivial
  · split
    · exact good_load hT hd ‹_›
    · trivial
  · split
    · exact good_indexA hT hd ‹_› ‹_›
    · trivial
  · split
    · exact good_index hT hd ‹_› ‹_›
    · trivial
  · rename_i el x
    split
    · rename_i p hp
      have key : OpR.Good P dst (.box el x) ty pos after guard ⟨nt, env, lh⟩ (bif p.lies then .mk (.box p.cells) else .no) := by
        cases hl : p.lies with
        | false => trivial
        | true =>
          intro d h
          subst h
          exact ok_box (E hp) hl hd
      cases p <;> exact key
    · trivial
  · split
    · rename_i zs _ h0
      have h := TT.at hT h0
      cases ho : zs.all Value.oneCell' with
      | false => trivial
      | true =>
        intro d hdd
        subst hdd
        have : ZeroT P _ zs := ⟨h.zero⟩
        exact ok_alloc ho hd
    · trivial
  · exact good_build hT hd
  · exact good_bsl hT hd
  · rename_i fn first caps
    split
    · rename_i ps hps
      split
      · rename_i qs hqs
        have := ok_makeFunc (P := P) (σ := ⟨nt, env, lh⟩) (dst := dst) (ty := ty) (pos := pos) (after := after) (guard := guard) (fn := fn) (first := first.toList) (caps := caps.toList) (evL_eq hps) (evL_eq hqs) hd
        rw [Array.toArray_toList, Array.toArray_toList] at this
        exact this
      · trivial
    · trivial
  · split
    · exact good_bin hT hd ‹_› ‹_›
    · trivial
  · split
    · exact ok_not (E ‹_›) hd
    · trivial
  · split
    · rename_i k a hx
      split
      · rename_i k1 _ _ h0
        have h1 := TT.at hT h0
        split
        · rename_i k2 _ _ h00
          have h2 := TT.at hT h00
          cases hk : kEq k k1 with
          | false => trivial
          | true =>
            have e := of_decide_eq_true hk
            subst e
            have : IntT P _ k := ⟨h1.kind⟩
            have : IntT P _ k2 := ⟨h2.kind⟩
            exact ok_convI (E hx) hd
        · trivial
      · trivial
    · trivial
  · split
    · rename_i sz xs hx
      split
      · rename_i e sz' _ _ h0
        have h := TT.at hT h0
        split
        · rename_i l hl
          split
          · rename_i hh hhh
            cases hc : (Nat.beq sz sz' && !Nat.beq sz 0) with
            | false => trivial
            | true =>
              rw [Bool.and_eq_true] at hc
              have e1 := Nat.eq_of_beq_eq_true hc.1
              subst e1
              have : SliceT P _ e sz := ⟨h.kind⟩
              exact fun l' h' h1 h2 h3 h4 => ok_slice (E hx) (evO_bnd hl h1) (evO_bnd hhh h2) h3 h4 (beq_false_ne (by simpa using hc.2)) hd
          · trivial
        · trivial
      · trivial
    · trivial
  · exact good_call hT hd
  · trivial
end
end Go.Proofs.Ytlicjlahnbebcaa
