/- Values as they read, without addresses: what a value of a call reads as in a world, and that it goes on reading so. -/
import Derived.Test.YtlicjlahnbebcaaOwn
namespace Go.Proofs.Ytlicjlahnbebcaa
open Go.RowKit

/-- A value as it reads. v: a value without an address; sl: a slice that is only read, element by element, each a list of cells; ptr: an address at which these cells lie, only read;
lp: an address in a variable of the call's own; row: a slice of the call's own; rp: an address in it; own: a slice that a call has made, handed back. -/
inductive PV where
  | v (x : Value)
  | any
  | agg (cs : List PV)
  | tup (cs : List PV)
  | sl (sz : Nat) (xs : List (List PV))
  | ptr (cs : List PV)
  | lp (id o : Nat)
  | row (id ver : Nat)
  | rp (id ver sz i j : Nat)
  | own (ty sz : Nat) (xs : List (List PV))
  | fn (f : Fn) (first caps : List PV)
  | ifc (t : TypeId) (x : PV)

/-- Where the variables and slices of the call's own lie. -/
inductive LI where
  | box (g : Nat)
  | row (y : Value) (ver : Nat)
structure LMap where
  F : Nat → Prop
  m : Nat → Option LI
def LI.block : LI → Option Nat
  | .box g => some g
  | .row y _ => y.ownBlock
def LMap.owns (μ : LMap) (g : Nat) : Prop := μ.F g ∨ ∃ id l, μ.m id = some l ∧ l.block = some g
/-- Nothing is one's own; these blocks are another's. -/
def LMap.none (F : Nat → Prop) : LMap := ⟨F, fun _ => Option.none⟩
theorem LMap.none_owns {F : Nat → Prop} {g : Nat} (h : (LMap.none F).owns g) : F g := by
  rcases h with h | ⟨id, l, h, _⟩
  · exact h
  · cases h

theorem LMap.none_owns_eq (F : Nat → Prop) : (LMap.none F).owns = F := by
  funext g
  exact propext ⟨LMap.none_owns, .inl⟩
/-- To others one's own is another's. -/
def LMap.shut (μ : LMap) : LMap := LMap.none μ.owns
theorem LMap.shut_none (F : Nat → Prop) : (LMap.none F).shut = LMap.none F := by unfold LMap.shut; rw [LMap.none_owns_eq]
theorem LMap.shut_shut (μ : LMap) : μ.shut.shut = μ.shut := LMap.shut_none _
theorem LMap.shut_owns (μ : LMap) : μ.shut.owns = μ.owns := LMap.none_owns_eq _

mutual
def Rep (w : World) : LMap → PV → Value → Prop
  | _, .v x, y => y = x
  | _, .any, _ => True
  | μ, .agg cs, y => ∃ vs : List Value, y = .agg vs.toArray ∧ RepL w μ cs vs ∧ ∀ u ∈ vs, u.oneCell' = true
  | μ, .tup cs, y => ∃ vs : List Value, y = .tuple vs.toArray ∧ RepL w μ cs vs
  | μ, .sl sz xs, y => ∃ A c, y = .slice A xs.length c ∧ xs.length ≤ c ∧ c ≤ maxLen ∧ RepR w μ.shut A sz xs 0
  | μ, .ptr cs, y => ∃ a : Addr, y = .pointer (some a) ∧ RepC w μ.shut (some a) cs 0
  | μ, .lp id o, y => ∃ g, μ.m id = some (.box g) ∧ y = .pointer (some ⟨g, o, none⟩)
  | μ, .row id ver, y => ∃ z k, μ.m id = some (.row z k) ∧ ver ≤ k ∧ y.oneCell' = true ∧ (k = ver → y = z)
  | μ, .rp id ver sz i j, y => ∃ z k, μ.m id = some (.row z k) ∧ ver ≤ k ∧ y.oneCell' = true ∧ (k = ver → ∃ g n c, z = .slice (some ⟨g, 0, none⟩) n c ∧ y = .pointer (some ⟨g, i * sz + j, none⟩))
  | _, .own _ _ _, _ => False
  | μ, .fn f first caps, y => ∃ vs us : List Value, y = .func f vs.toArray us.toArray ∧ RepL w μ first vs ∧ RepL w μ caps us
  | μ, .ifc t x, y => ∃ z, y = .iface t z ∧ Rep w μ x z
def RepL (w : World) : LMap → List PV → List Value → Prop
  | _, [], vs => vs = []
  | μ, c :: cs, vs => ∃ u us, vs = u :: us ∧ Rep w μ c u ∧ RepL w μ cs us
def RepC (w : World) : LMap → Option Addr → List PV → Nat → Prop
  | _, _, [], _ => True
  | μ, A, c :: cs, k => (∃ a u, A = some a ∧ w.cell? (a.add k) = some u ∧ ¬ μ.owns a.block ∧ u.oneCell' = true ∧ Rep w μ c u) ∧ RepC w μ A cs (k + 1)
def RepR (w : World) : LMap → Option Addr → Nat → List (List PV) → Nat → Prop
  | _, _, _, [], _ => True
  | μ, A, sz, e :: es, k => e.length = sz ∧ RepC w μ A e k ∧ RepR w μ A sz es (k + sz)
end
/-- What reads in (w, μ) reads in (w', μ'). -/
structure Later (w : World) (μ : LMap) (w' : World) (μ' : LMap) : Prop where
  cell : ∀ (a : Addr) u, w.cell? a = some u → ¬ μ.owns a.block → w'.cell? a = some u ∧ ¬ μ'.owns a.block
  box : ∀ id g, μ.m id = some (.box g) → μ'.m id = some (.box g)
  row : ∀ id z k, μ.m id = some (.row z k) → ∃ z' k', μ'.m id = some (.row z' k') ∧ k ≤ k' ∧ (k' = k → z' = z)

theorem Later.shut {w w' : World} {μ μ' : LMap} (h : Later w μ w' μ') : Later w μ.shut w' μ'.shut :=
  ⟨fun a u hc ho => by
    rw [LMap.shut_owns] at ho
    rw [LMap.shut_owns]
    exact h.cell a u hc ho, fun _ _ h => (by cases h), fun _ _ _ h => (by cases h)⟩
mutual
theorem Rep.later {w w' : World} : ∀ {μ μ' : LMap} (_ : Later w μ w' μ') (p : PV) (y : Value), Rep w μ p y → Rep w' μ' p y
  | _, _, _, .v _, _, r => r
  | _, _, _, .any, _, _ => trivial
  | _, _, h, .agg cs, _, ⟨vs, e, r, h1⟩ => ⟨vs, e, RepL.later h cs vs r, h1⟩
  | _, _, h, .tup cs, _, ⟨vs, e, r⟩ => ⟨vs, e, RepL.later h cs vs r⟩
  | _, _, h, .sl sz xs, _, ⟨A, c, e, h1, h2, r⟩ => ⟨A, c, e, h1, h2, RepR.later h.shut A sz xs 0 r⟩
  | _, _, h, .ptr cs, _, ⟨a, e, r⟩ => ⟨a, e, RepC.later h.shut (some a) cs 0 r⟩
  | _, _, h, .lp id o, _, ⟨g, hg, e⟩ => ⟨g, h.box id g hg, e⟩
  | _, _, h, .row id ver, y, ⟨z, k, hz, hv, h1, e⟩ => by
    obtain ⟨z', k', hz', hk, he⟩ := h.row id z k hz
    refine ⟨z', k', hz', Nat.le_trans hv hk, h1, fun hk' => ?_⟩
    have : k = ver := by omega
    rw [e this, he (by omega)]
  | _, _, h, .rp id ver _ _ _, y, ⟨z, k, hz, hv, h1, e⟩ => by
    obtain ⟨z', k', hz', hk, he⟩ := h.row id z k hz
    refine ⟨z', k', hz', Nat.le_trans hv hk, h1, fun hk' => ?_⟩
    have : k = ver := by omega
    rw [he (by omega)]
    exact e this
  | _, _, _, .own _ _ _, _, r => r
  | _, _, h, .fn _ first caps, _, ⟨vs, us, e, r1, r2⟩ => ⟨vs, us, e, RepL.later h first vs r1, RepL.later h caps us r2⟩
  | _, _, h, .ifc _ x, _, ⟨z, e, r⟩ => ⟨z, e, Rep.later h x z r⟩
theorem RepL.later {w w' : World} : ∀ {μ μ' : LMap} (_ : Later w μ w' μ') (cs : List PV) (vs : List Value), RepL w μ cs vs → RepL w' μ' cs vs
  | _, _, _, [], _, r => r
  | _, _, h, c :: cs, _, ⟨u, us, e, r1, r2⟩ => ⟨u, us, e, Rep.later h c u r1, RepL.later h cs us r2⟩
theorem RepC.later {w w' : World} : ∀ {μ μ' : LMap} (_ : Later w μ w' μ') (A : Option Addr) (cs : List PV) (k : Nat), RepC w μ A cs k → RepC w' μ' A cs k
  | _, _, _, _, [], _, _ => trivial
  | μ, μ', h, A, c :: cs, k, ⟨⟨a, u, e, hc, ho, h1, r⟩, r2⟩ => by
    have hb : (a.add k).block = a.block := block_of_add a k
    obtain ⟨hc', ho'⟩ := h.cell (a.add k) u hc (by rw [hb]; exact ho)
    rw [hb] at ho'
    exact ⟨⟨a, u, e, hc', ho', h1, Rep.later h c u r⟩, RepC.later h A cs (k + 1) r2⟩
theorem RepR.later {w w' : World} : ∀ {μ μ' : LMap} (_ : Later w μ w' μ') (A : Option Addr) (sz : Nat) (xs : List (List PV)) (k : Nat), RepR w μ A sz xs k → RepR w' μ' A sz xs k
  | _, _, _, _, _, [], _, _ => trivial
  | _, _, h, A, sz, e :: es, k, ⟨hl, r1, r2⟩ => ⟨hl, RepC.later h A e k r1, RepR.later h A sz es (k + sz) r2⟩
end
/-! What reads without one's own reads with it, and the other way round where nothing of one's own is named. -/
mutual
theorem Rep.opens {w : World} {μ : LMap} : ∀ (p : PV) (y : Value), Rep w μ.shut p y → Rep w μ p y
  | .v _, _, r => r
  | .any, _, _ => trivial
  | .agg cs, _, ⟨vs, e, r, h1⟩ => ⟨vs, e, RepL.opens cs vs r, h1⟩
  | .tup cs, _, ⟨vs, e, r⟩ => ⟨vs, e, RepL.opens cs vs r⟩
  | .sl sz xs, _, ⟨A, c, e, h1, h2, r⟩ => ⟨A, c, e, h1, h2, by rw [LMap.shut_shut] at r; exact r⟩
  | .ptr cs, _, ⟨a, e, r⟩ => ⟨a, e, by rw [LMap.shut_shut] at r; exact r⟩
  | .lp _ _, _, ⟨_, hg, _⟩ => by cases hg
  | .row _ _, _, ⟨_, _, hz, _⟩ => by cases hz
  | .rp _ _ _ _ _, _, ⟨_, _, hz, _⟩ => by cases hz
  | .own _ _ _, _, r => r
  | .fn _ first caps, _, ⟨vs, us, e, r1, r2⟩ => ⟨vs, us, e, RepL.opens first vs r1, RepL.opens caps us r2⟩
  | .ifc _ x, _, ⟨z, e, r⟩ => ⟨z, e, Rep.opens x z r⟩
theorem RepL.opens {w : World} {μ : LMap} : ∀ (cs : List PV) (vs : List Value), RepL w μ.shut cs vs → RepL w μ cs vs
  | [], _, r => r
  | c :: cs, _, ⟨u, us, e, r1, r2⟩ => ⟨u, us, e, Rep.opens c u r1, RepL.opens cs us r2⟩
end
mutual
def PV.closed : PV → Bool
  | .agg cs | .tup cs => closedL cs
  | .lp _ _ | .row _ _ | .rp _ _ _ _ _ | .own _ _ _ => false
  | .fn _ a b => closedL a && closedL b
  | .ifc _ x => x.closed
  | _ => true
def closedL : List PV → Bool
  | [] => true
  | c :: cs => c.closed && closedL cs
end
mutual
theorem Rep.shuts {w : World} {μ : LMap} : ∀ (p : PV) (y : Value), p.closed = true → Rep w μ p y → Rep w μ.shut p y
  | .v _, _, _, r => r
  | .any, _, _, _ => trivial
  | .agg cs, _, h, ⟨vs, e, r, h1⟩ => ⟨vs, e, RepL.shuts cs vs (by simpa [PV.closed] using h) r, h1⟩
  | .tup cs, _, h, ⟨vs, e, r⟩ => ⟨vs, e, RepL.shuts cs vs (by simpa [PV.closed] using h) r⟩
  | .sl sz xs, _, _, ⟨A, c, e, h1, h2, r⟩ => ⟨A, c, e, h1, h2, by rw [LMap.shut_shut]; exact r⟩
  | .ptr cs, _, _, ⟨a, e, r⟩ => ⟨a, e, by rw [LMap.shut_shut]; exact r⟩
  | .lp _ _, _, h, _ => by cases h
  | .row _ _, _, h, _ => by cases h
  | .rp _ _ _ _ _, _, h, _ => by cases h
  | .own _ _ _, _, _, r => r
  | .fn _ first caps, _, h, ⟨vs, us, e, r1, r2⟩ => by
    simp only [PV.closed, Bool.and_eq_true] at h
    exact ⟨vs, us, e, RepL.shuts first vs h.1 r1, RepL.shuts caps us h.2 r2⟩
  | .ifc _ x, _, h, ⟨z, e, r⟩ => ⟨z, e, Rep.shuts x z (by simpa [PV.closed] using h) r⟩
theorem RepL.shuts {w : World} {μ : LMap} : ∀ (cs : List PV) (vs : List Value), closedL cs = true → RepL w μ cs vs → RepL w μ.shut cs vs
  | [], _, _, r => r
  | c :: cs, _, h, ⟨u, us, e, r1, r2⟩ => by
    simp only [closedL, Bool.and_eq_true] at h
    exact ⟨u, us, e, Rep.shuts c u h.1 r1, RepL.shuts cs us h.2 r2⟩
end
theorem Later.refl (w : World) (μ : LMap) : Later w μ w μ := ⟨fun _ _ h g => ⟨h, g⟩, fun _ _ h => h, fun _ z k h => ⟨z, k, h, Nat.le_refl _, fun _ => rfl⟩⟩

/-- A list of cells, taken apart. -/
theorem RepL.length {w : World} {μ : LMap} : ∀ {cs : List PV} {vs : List Value}, RepL w μ cs vs → vs.length = cs.length
  | [], _, r => by simp only [RepL] at r; subst r; rfl
  | c :: cs, _, r => by
    simp only [RepL] at r
    obtain ⟨u, us, rfl, _, r⟩ := r
    simp [RepL.length r]
theorem RepL.get {w : World} {μ : LMap} : ∀ {cs : List PV} {vs : List Value}, RepL w μ cs vs → ∀ (i : Nat) (p : PV), cs[i]? = some p → ∃ y, vs[i]? = some y ∧ Rep w μ p y
  | [], _, _, _, _, h => by simp at h
  | c :: cs, _, r, i, p, h => by
    simp only [RepL] at r
    obtain ⟨u, us, rfl, r1, r2⟩ := r
    cases i with
    | zero => simp at h; subst h; exact ⟨u, rfl, r1⟩
    | succ i => exact RepL.get r2 i p (by simpa using h)
theorem RepL.set {w : World} {μ : LMap} : ∀ {cs : List PV} {vs : List Value}, RepL w μ cs vs → ∀ (i : Nat) (p : PV) (y : Value), Rep w μ p y → RepL w μ (cs.set i p) (vs.set i y)
  | [], _, r, i, p, y, _ => by simp only [RepL] at r; subst r; simp [RepL]
  | c :: cs, _, r, i, p, y, h => by
    simp only [RepL] at r
    obtain ⟨u, us, rfl, r1, r2⟩ := r
    cases i with
    | zero => simp only [List.set_cons_zero, RepL]; exact ⟨y, us, rfl, h, r2⟩
    | succ i => simp only [List.set_cons_succ, RepL]; exact ⟨u, _, rfl, r1, RepL.set r2 i p y h⟩
theorem RepL.append {w : World} {μ : LMap} : ∀ {cs : List PV} {vs : List Value}, RepL w μ cs vs → ∀ {ds : List PV} {us : List Value}, RepL w μ ds us → RepL w μ (cs ++ ds) (vs ++ us)
  | [], _, r, _, _, h => by simp only [RepL] at r; subst r; exact h
  | c :: cs, _, r, _, _, h => by
    simp only [RepL] at r
    obtain ⟨u, us, rfl, r1, r2⟩ := r
    simp only [List.cons_append, RepL]
    exact ⟨u, _, rfl, r1, RepL.append r2 h⟩
theorem RepL.take {w : World} {μ : LMap} : ∀ {cs : List PV} {vs : List Value}, RepL w μ cs vs → ∀ n, RepL w μ (cs.take n) (vs.take n)
  | [], _, r, n => by simp only [RepL] at r; subst r; simp [RepL]
  | c :: cs, _, r, n => by
    simp only [RepL] at r
    obtain ⟨u, us, rfl, r1, r2⟩ := r
    cases n with
    | zero => simp [RepL]
    | succ n => simp only [List.take_succ_cons, RepL]; exact ⟨u, _, rfl, r1, RepL.take r2 n⟩
theorem RepL.drop {w : World} {μ : LMap} : ∀ {cs : List PV} {vs : List Value}, RepL w μ cs vs → ∀ n, RepL w μ (cs.drop n) (vs.drop n)
  | [], _, r, n => by simp only [RepL] at r; subst r; simp [RepL]
  | c :: cs, _, r, n => by
    simp only [RepL] at r
    obtain ⟨u, us, rfl, r1, r2⟩ := r
    cases n with
    | zero => simp only [List.drop_zero, RepL]; exact ⟨u, us, rfl, r1, r2⟩
    | succ n => simp only [List.drop_succ_cons]; exact RepL.drop r2 n
theorem RepC.get {w : World} {μ : LMap} {A : Option Addr} : ∀ {cs : List PV} {k : Nat}, RepC w μ A cs k → ∀ (i : Nat) (p : PV), cs[i]? = some p → ∃ a u, A = some a ∧ w.cell? (a.add (k + i)) = some u ∧ ¬ μ.owns a.block ∧ u.oneCell' = true ∧ Rep w μ p u
  | [], _, _, _, _, h => by simp at h
  | c :: cs, k, r, i, p, h => by
    simp only [RepC] at r
    cases i with
    | zero => simp at h; subst h; exact r.1
    | succ i =>
      have := RepC.get r.2 i p (by simpa using h)
      rwa [show k + 1 + i = k + (i + 1) from by omega] at this
theorem RepC.drop {w : World} {μ : LMap} {A : Option Addr} : ∀ {cs : List PV} {k : Nat}, RepC w μ A cs k → ∀ n, RepC w μ A (cs.drop n) (k + n)
  | [], _, _, n => by simp [RepC]
  | c :: cs, k, r, n => by
    cases n with
    | zero => simpa using r
    | succ n =>
      simp only [RepC] at r
      have := RepC.drop r.2 n
      rw [List.drop_succ_cons, show k + (n + 1) = k + 1 + n from by omega]
      exact this
/-- The cells at an address moved by n. -/
theorem RepC.shift {w : World} {μ : LMap} {a : Addr} (n : Nat) : ∀ {cs : List PV} {k : Nat}, RepC w μ (some a) cs (n + k) → RepC w μ (some (a.add n)) cs k
  | [], _, _ => trivial
  | c :: cs, k, r => by
    simp only [RepC] at r ⊢
    obtain ⟨⟨a', u, e, hc, ho, h1, r1⟩, r2⟩ := r
    injection e with e
    subst e
    exact ⟨⟨a.add n, u, rfl, by rw [add_of_add]; exact hc, by rw [block_of_add]; exact ho, h1, r1⟩, RepC.shift n (k := k + 1) r2⟩
theorem RepR.get {w : World} {μ : LMap} {A : Option Addr} {sz : Nat} : ∀ {xs : List (List PV)} {k : Nat}, RepR w μ A sz xs k → ∀ (i : Nat) (e : List PV), xs[i]? = some e → e.length = sz ∧ RepC w μ A e (k + i * sz)
  | [], _, _, _, _, h => by simp at h
  | c :: cs, k, r, i, p, h => by
    simp only [RepR] at r
    cases i with
    | zero => simp at h; subst h; exact ⟨r.1, by simpa using r.2.1⟩
    | succ i =>
      have := RepR.get r.2.2 i p (by simpa using h)
      rwa [show k + sz + i * sz = k + (i + 1) * sz from by rw [Nat.succ_mul]; omega] at this
theorem RepC.append {w : World} {μ : LMap} {A : Option Addr} : ∀ {cs : List PV} {k : Nat}, RepC w μ A cs k → ∀ {ds : List PV}, RepC w μ A ds (k + cs.length) → RepC w μ A (cs ++ ds) k
  | [], _, _, _, h => by simpa using h
  | c :: cs, k, r, ds, h => by
    simp only [RepC, List.cons_append] at r ⊢
    exact ⟨r.1, RepC.append r.2 (by rwa [show k + 1 + cs.length = k + (c :: cs).length from by simp; omega])⟩
theorem RepR.flat {w : World} {μ : LMap} {A : Option Addr} {sz : Nat} : ∀ {xs : List (List PV)} {k : Nat}, RepR w μ A sz xs k → RepC w μ A xs.flatten k ∧ xs.flatten.length = xs.length * sz
  | [], _, _ => by simp [RepC]
  | e :: es, k, r => by
    simp only [RepR] at r
    obtain ⟨hl, r1, r2⟩ := r
    have := RepR.flat r2
    rw [List.flatten_cons]
    exact ⟨RepC.append r1 (by rw [hl]; exact this.1), by rw [List.length_append, this.2, hl, List.length_cons, Nat.succ_mul]; omega⟩
theorem RepR.of_flat {w : World} {μ : LMap} {A : Option Addr} {sz : Nat} : ∀ {xs : List (List PV)} {k : Nat}, (∀ e ∈ xs, e.length = sz) → RepC w μ A xs.flatten k → RepR w μ A sz xs k
  | [], _, _, _ => trivial
  | e :: es, k, hl, r => by
    rw [List.flatten_cons] at r
    have he : e.length = sz := hl e (List.mem_cons_self ..)
    simp only [RepR]
    refine ⟨he, ?_, RepR.of_flat (fun e h => hl e (List.mem_cons_of_mem _ h)) ?_⟩
    · have : ∀ (cs ds : List PV) k, RepC w μ A (cs ++ ds) k → RepC w μ A cs k := by
        intro cs
        induction cs with
        | nil => intro _ _ _; trivial
        | cons c cs ih => intro ds k h; simp only [List.cons_append, RepC] at h ⊢; exact ⟨h.1, ih ds _ h.2⟩
      exact this e es.flatten k r
    · have := RepC.drop r e.length
      rwa [List.drop_left, he] at this
/-- The cells that lie there. -/
theorem RepC.row {w : World} {μ : LMap} {A : Option Addr} : ∀ {cs : List PV} {k : Nat}, RepC w μ A cs k → ∃ vs : List Value, RepL w μ cs vs ∧ (∀ u ∈ vs, u.oneCell' = true) ∧ ∀ j u, vs[j]? = some u → ∃ a, A = some a ∧ w.cell? (a.add (k + j)) = some u
  | [], _, _ => ⟨[], rfl, by simp, by simp⟩
  | c :: cs, k, r => by
    simp only [RepC] at r
    obtain ⟨⟨a, u, e, hc, _, h1, r1⟩, r2⟩ := r
    obtain ⟨vs, q1, q2, q3⟩ := RepC.row r2
    refine ⟨u :: vs, ⟨u, vs, rfl, r1, q1⟩, ?_, ?_⟩
    · intro x hx
      rcases List.mem_cons.1 hx with rfl | hx
      · exact h1
      · exact q2 x hx
    · intro j x hx
      cases j with
      | zero => simp at hx; subst hx; exact ⟨a, e, hc⟩
      | succ j =>
        obtain ⟨a', e', h'⟩ := q3 j x (by simpa using hx)
        exact ⟨a', e', by rwa [show k + (j + 1) = k + 1 + j from by omega]⟩
theorem RepC.of_cells {w : World} {μ : LMap} {a : Addr} (ho : ¬ μ.owns a.block) : ∀ {cs : List PV} {vs : List Value} {k : Nat}, RepL w μ cs vs → (∀ u ∈ vs, u.oneCell' = true) → (∀ j u, vs[j]? = some u → w.cell? (a.add (k + j)) = some u) → RepC w μ (some a) cs k
  | [], _, _, _, _, _ => trivial
  | c :: cs, vs, k, r, h1, h => by
    simp only [RepL] at r
    obtain ⟨u, us, rfl, r1, r2⟩ := r
    simp only [RepC]
    exact ⟨⟨a, u, rfl, by simpa using h 0 u rfl, ho, h1 u (List.mem_cons_self ..), r1⟩, RepC.of_cells ho r2 (fun x hx => h1 x (List.mem_cons_of_mem _ hx)) (fun j x hx => by rw [show k + 1 + j = k + (j + 1) from by omega]; exact h (j + 1) x (by simpa using hx))⟩
end Go.Proofs.Ytlicjlahnbebcaa
