/- More operations: bits, shifts, sums that wrap, conversions; appends from and to slices of one's own. -/
import Derived.Test.YtlicjlahnbebcaaE10
namespace Go.Proofs.Ytlicjlahnbebcaa
open Go.RowKit
section
variable {P : Program} {σ : St} {dst : Option Tmp} {ty : TypeId} {pos : String} {after : Array Edge} {guard : Option (Nat × Bool)} {t yt : TypeId} {x y : Operand} {a b : Int} {k k' : IntKind}
/-- What the bit operations yield. -/
def bitI (op : BinOp) (k : IntKind) (a b : Int) : Int := match op with
  | .and => k.wrap ((BitVec.ofInt k.bits a &&& BitVec.ofInt k.bits b).toNat)
  | .or => k.wrap ((BitVec.ofInt k.bits a ||| BitVec.ofInt k.bits b).toNat)
  | .xor => k.wrap ((BitVec.ofInt k.bits a ^^^ BitVec.ofInt k.bits b).toNat)
  | _ => 0
theorem ok_and (hx : σ.ev x = some (.v (.int k a)) := by rfl) (hy : σ.ev y = some (.v (.int k b)) := by rfl) (hd : inB σ dst = true := by rfl) : OpOK P ⟨dst, .binOp .and t x y yt, ty, pos, after, guard⟩ σ (.v (.int k (bitI .and k a b))) [] :=
  ok_bin hx hy (fun w => by simp [eqGuard, binOp, Op.intBits, bitI]) hd
theorem ok_or (hx : σ.ev x = some (.v (.int k a)) := by rfl) (hy : σ.ev y = some (.v (.int k b)) := by rfl) (hd : inB σ dst = true := by rfl) : OpOK P ⟨dst, .binOp .or t x y yt, ty, pos, after, guard⟩ σ (.v (.int k (bitI .or k a b))) [] :=
  ok_bin hx hy (fun w => by simp [eqGuard, binOp, Op.intBits, bitI]) hd
theorem ok_shl (hx : σ.ev x = some (.v (.int k a)) := by rfl) (hy : σ.ev y = some (.v (.int k' b)) := by rfl) (hd : inB σ dst = true := by rfl) (hb : 0 ≤ b := by omega) : OpOK P ⟨dst, .binOp .shl t x y yt, ty, pos, after, guard⟩ σ (.v (.int k (k.wrap (a * 2 ^ (min b.toNat k.bits))))) [] :=
  ok_bin hx hy (fun w => by
    have hn : ¬ b < 0 := by omega
    simp [eqGuard, binOp, Op.shift, hn]) hd
theorem ok_shr (hx : σ.ev x = some (.v (.int k a)) := by rfl) (hy : σ.ev y = some (.v (.int k' b)) := by rfl) (hd : inB σ dst = true := by rfl) (hb : 0 ≤ b := by omega) : OpOK P ⟨dst, .binOp .shr t x y yt, ty, pos, after, guard⟩ σ (.v (.int k (a.fdiv (2 ^ (min b.toNat k.bits))))) [] :=
  ok_bin hx hy (fun w => by
    have hn : ¬ b < 0 := by omega
    simp [eqGuard, binOp, Op.shift, hn]) hd
theorem ok_addW (hx : σ.ev x = some (.v (.int k a)) := by rfl) (hy : σ.ev y = some (.v (.int k b)) := by rfl) (hd : inB σ dst = true := by rfl) : OpOK P ⟨dst, .binOp .add t x y yt, ty, pos, after, guard⟩ σ (.v (.int k (k.wrap (a + b)))) [] :=
  ok_bin hx hy (fun w => by simp [eqGuard, binOp, Op.intArith]) hd
theorem ok_subW (hx : σ.ev x = some (.v (.int k a)) := by rfl) (hy : σ.ev y = some (.v (.int k b)) := by rfl) (hd : inB σ dst = true := by rfl) : OpOK P ⟨dst, .binOp .sub t x y yt, ty, pos, after, guard⟩ σ (.v (.int k (k.wrap (a - b)))) [] :=
  ok_bin hx hy (fun w => by simp [eqGuard, binOp, Op.intArith]) hd
theorem ok_mulW (hx : σ.ev x = some (.v (.int k a))) (hy : σ.ev y = some (.v (.int k b))) (hd : inB σ dst = true) : OpOK P ⟨dst, .binOp .mul t x y yt, ty, pos, after, guard⟩ σ (.v (.int k (k.wrap (a * b)))) [] :=
  ok_bin hx hy (fun w => by simp [eqGuard, binOp, Op.intArith]) hd
theorem ok_quoT (hx : σ.ev x = some (.v (.int k a))) (hy : σ.ev y = some (.v (.int k b))) (hd : inB σ dst = true) (hb : b ≠ 0) : OpOK P ⟨dst, .binOp .quo t x y yt, ty, pos, after, guard⟩ σ (.v (.int k (k.wrap (a.tdiv b)))) [] :=
  ok_bin hx hy (fun w => by simp [eqGuard, binOp, Op.intDiv, hb]) hd
class IntT (P : Program) (t : TypeId) (k : outParam IntKind) : Prop where
  h : P.underlying t = some (.int k)
theorem ok_convI {src tgt : TypeId} [h1 : IntT P src k] [h2 : IntT P tgt k'] (hx : σ.ev x = some (.v (.int k a)) := by rfl) (hd : inB σ dst = true := by rfl) : OpOK P ⟨dst, .convert src tgt x, ty, pos, after, guard⟩ σ (.v (.int k' (k'.wrap a))) [] :=
  ok_convert hx (fun w => by simp [convert, run_underlying h1.h, run_underlying h2.h, Conv.intToInt]) hd
/-- The same kind, a number that fits. -/
theorem ok_convS {src tgt : TypeId} [h1 : IntT P src .i64] [h2 : IntT P tgt .i64] (hx : σ.ev x = some (.v (.int .i64 a)) := by rfl) (hd : inB σ dst = true := by rfl) (ha : IntKind.i64.wrap a = a) : OpOK P ⟨dst, .convert src tgt x, ty, pos, after, guard⟩ σ (.v (.int .i64 a)) [] := by
  have := ok_convI (P := P) (σ := σ) (dst := dst) (ty := ty) (pos := pos) (after := after) (guard := guard) (src := src) (tgt := tgt) hx hd
  rwa [ha] at this
/-! ### Calls whose contract is at hand -/
class HasSpec (P : Program) (f : FuncId) (args : List PV) (r : outParam PV) : Prop where
  h : Spec P f args r
class HasSpecO (P : Program) (f : FuncId) (args : List PV) (ty sz : outParam Nat) (xs : outParam (List (List PV))) : Prop where
  h : Spec P f args (.own ty sz xs)
theorem ok_call0 {ats : Array TypeId} {g : FuncId} {r : PV} [hs : HasSpec P g [] r] (hcl : closedL [] = true := by rfl) (hr : r.noOwn = true := by rfl) (hd : inB σ dst = true := by rfl) :
    OpOK P ⟨dst, .call { callee := .value (.func g), args := #[], argTypes := ats }, ty, pos, after, guard⟩ σ r [] :=
  ok_call (xs := []) (ps := []) (first := []) (caps := []) rfl (rfl) (by simpa using hs.h) (by simpa using hcl) hr hd
theorem ok_callO0 {ats : Array TypeId} {g : FuncId} {d rt sz : Nat} {ys : List (List PV)} [hs : HasSpecO P g [] rt sz ys] (hcl : closedL [] = true := by rfl) (hd : inB σ (some d) = true := by rfl) :
    OpOK P ⟨some d, .call { callee := .value (.func g), args := #[], argTypes := ats }, ty, pos, after, guard⟩ σ (.row d 0) [(d, .row rt sz 0 ys)] :=
  ok_call_own (xs := []) (ps := []) (first := []) (caps := []) rfl (rfl) (by simpa using hs.h) (by simpa using hcl) hd
theorem ok_call1 {ats : Array TypeId} {g : FuncId} {r : PV} {x0 : Operand} {p0 : PV} [hs : HasSpec P g [p0] r] (h0 : σ.ev x0 = some p0 := by rfl) (hcl : closedL [p0] = true := by rfl) (hr : r.noOwn = true := by rfl) (hd : inB σ dst = true := by rfl) :
    OpOK P ⟨dst, .call { callee := .value (.func g), args := #[x0], argTypes := ats }, ty, pos, after, guard⟩ σ r [] :=
  ok_call (xs := [x0]) (ps := [p0]) (first := []) (caps := []) rfl (by simp [h0]) (by simpa using hs.h) (by simpa using hcl) hr hd
theorem ok_callO1 {ats : Array TypeId} {g : FuncId} {d rt sz : Nat} {ys : List (List PV)} {x0 : Operand} {p0 : PV} [hs : HasSpecO P g [p0] rt sz ys] (h0 : σ.ev x0 = some p0 := by rfl) (hcl : closedL [p0] = true := by rfl) (hd : inB σ (some d) = true := by rfl) :
    OpOK P ⟨some d, .call { callee := .value (.func g), args := #[x0], argTypes := ats }, ty, pos, after, guard⟩ σ (.row d 0) [(d, .row rt sz 0 ys)] :=
  ok_call_own (xs := [x0]) (ps := [p0]) (first := []) (caps := []) rfl (by simp [h0]) (by simpa using hs.h) (by simpa using hcl) hd
theorem ok_call2 {ats : Array TypeId} {g : FuncId} {r : PV} {x0 x1 : Operand} {p0 p1 : PV} [hs : HasSpec P g [p0, p1] r] (h0 : σ.ev x0 = some p0 := by rfl) (h1 : σ.ev x1 = some p1 := by rfl) (hcl : closedL [p0, p1] = true := by rfl) (hr : r.noOwn = true := by rfl) (hd : inB σ dst = true := by rfl) :
    OpOK P ⟨dst, .call { callee := .value (.func g), args := #[x0, x1], argTypes := ats }, ty, pos, after, guard⟩ σ r [] :=
  ok_call (xs := [x0, x1]) (ps := [p0, p1]) (first := []) (caps := []) rfl (by simp [h0, h1]) (by simpa using hs.h) (by simpa using hcl) hr hd
theorem ok_callO2 {ats : Array TypeId} {g : FuncId} {d rt sz : Nat} {ys : List (List PV)} {x0 x1 : Operand} {p0 p1 : PV} [hs : HasSpecO P g [p0, p1] rt sz ys] (h0 : σ.ev x0 = some p0 := by rfl) (h1 : σ.ev x1 = some p1 := by rfl) (hcl : closedL [p0, p1] = true := by rfl) (hd : inB σ (some d) = true := by rfl) :
    OpOK P ⟨some d, .call { callee := .value (.func g), args := #[x0, x1], argTypes := ats }, ty, pos, after, guard⟩ σ (.row d 0) [(d, .row rt sz 0 ys)] :=
  ok_call_own (xs := [x0, x1]) (ps := [p0, p1]) (first := []) (caps := []) rfl (by simp [h0, h1]) (by simpa using hs.h) (by simpa using hcl) hd
theorem ok_call3 {ats : Array TypeId} {g : FuncId} {r : PV} {x0 x1 x2 : Operand} {p0 p1 p2 : PV} [hs : HasSpec P g [p0, p1, p2] r] (h0 : σ.ev x0 = some p0 := by rfl) (h1 : σ.ev x1 = some p1 := by rfl) (h2 : σ.ev x2 = some p2 := by rfl) (hcl : closedL [p0, p1, p2] = true := by rfl) (hr : r.noOwn = true := by rfl) (hd : inB σ dst = true := by rfl) :
    OpOK P ⟨dst, .call { callee := .value (.func g), args := #[x0, x1, x2], argTypes := ats }, ty, pos, after, guard⟩ σ r [] :=
  ok_call (xs := [x0, x1, x2]) (ps := [p0, p1, p2]) (first := []) (caps := []) rfl (by simp [h0, h1, h2]) (by simpa using hs.h) (by simpa using hcl) hr hd
theorem ok_callO3 {ats : Array TypeId} {g : FuncId} {d rt sz : Nat} {ys : List (List PV)} {x0 x1 x2 : Operand} {p0 p1 p2 : PV} [hs : HasSpecO P g [p0, p1, p2] rt sz ys] (h0 : σ.ev x0 = some p0 := by rfl) (h1 : σ.ev x1 = some p1 := by rfl) (h2 : σ.ev x2 = some p2 := by rfl) (hcl : closedL [p0, p1, p2] = true := by rfl) (hd : inB σ (some d) = true := by rfl) :
    OpOK P ⟨some d, .call { callee := .value (.func g), args := #[x0, x1, x2], argTypes := ats }, ty, pos, after, guard⟩ σ (.row d 0) [(d, .row rt sz 0 ys)] :=
  ok_call_own (xs := [x0, x1, x2]) (ps := [p0, p1, p2]) (first := []) (caps := []) rfl (by simp [h0, h1, h2]) (by simpa using hs.h) (by simpa using hcl) hd
theorem ok_call4 {ats : Array TypeId} {g : FuncId} {r : PV} {x0 x1 x2 x3 : Operand} {p0 p1 p2 p3 : PV} [hs : HasSpec P g [p0, p1, p2, p3] r] (h0 : σ.ev x0 = some p0 := by rfl) (h1 : σ.ev x1 = some p1 := by rfl) (h2 : σ.ev x2 = some p2 := by rfl) (h3 : σ.ev x3 = some p3 := by rfl) (hcl : closedL [p0, p1, p2, p3] = true := by rfl) (hr : r.noOwn = true := by rfl) (hd : inB σ dst = true := by rfl) :
    OpOK P ⟨dst, .call { callee := .value (.func g), args := #[x0, x1, x2, x3], argTypes := ats }, ty, pos, after, guard⟩ σ r [] :=
  ok_call (xs := [x0, x1, x2, x3]) (ps := [p0, p1, p2, p3]) (first := []) (caps := []) rfl (by simp [h0, h1, h2, h3]) (by simpa using hs.h) (by simpa using hcl) hr hd
theorem ok_callO4 {ats : Array TypeId} {g : FuncId} {d rt sz : Nat} {ys : List (List PV)} {x0 x1 x2 x3 : Operand} {p0 p1 p2 p3 : PV} [hs : HasSpecO P g [p0, p1, p2, p3] rt sz ys] (h0 : σ.ev x0 = some p0 := by rfl) (h1 : σ.ev x1 = some p1 := by rfl) (h2 : σ.ev x2 = some p2 := by rfl) (h3 : σ.ev x3 = some p3 := by rfl) (hcl : closedL [p0, p1, p2, p3] = true := by rfl) (hd : inB σ (some d) = true := by rfl) :
    OpOK P ⟨some d, .call { callee := .value (.func g), args := #[x0, x1, x2, x3], argTypes := ats }, ty, pos, after, guard⟩ σ (.row d 0) [(d, .row rt sz 0 ys)] :=
  ok_call_own (xs := [x0, x1, x2, x3]) (ps := [p0, p1, p2, p3]) (first := []) (caps := []) rfl (by simp [h0, h1, h2, h3]) (by simpa using hs.h) (by simpa using hcl) hd
theorem ok_call5 {ats : Array TypeId} {g : FuncId} {r : PV} {x0 x1 x2 x3 x4 : Operand} {p0 p1 p2 p3 p4 : PV} [hs : HasSpec P g [p0, p1, p2, p3, p4] r] (h0 : σ.ev x0 = some p0 := by rfl) (h1 : σ.ev x1 = some p1 := by rfl) (h2 : σ.ev x2 = some p2 := by rfl) (h3 : σ.ev x3 = some p3 := by rfl) (h4 : σ.ev x4 = some p4 := by rfl) (hcl : closedL [p0, p1, p2, p3, p4] = true := by rfl) (hr : r.noOwn = true := by rfl) (hd : inB σ dst = true := by rfl) :
    OpOK P ⟨dst, .call { callee := .value (.func g), args := #[x0, x1, x2, x3, x4], argTypes := ats }, ty, pos, after, guard⟩ σ r [] :=
  ok_call (xs := [x0, x1, x2, x3, x4]) (ps := [p0, p1, p2, p3, p4]) (first := []) (caps := []) rfl (by simp [h0, h1, h2, h3, h4]) (by simpa using hs.h) (by simpa using hcl) hr hd
theorem ok_callO5 {ats : Array TypeId} {g : FuncId} {d rt sz : Nat} {ys : List (List PV)} {x0 x1 x2 x3 x4 : Operand} {p0 p1 p2 p3 p4 : PV} [hs : HasSpecO P g [p0, p1, p2, p3, p4] rt sz ys] (h0 : σ.ev x0 = some p0 := by rfl) (h1 : σ.ev x1 = some p1 := by rfl) (h2 : σ.ev x2 = some p2 := by rfl) (h3 : σ.ev x3 = some p3 := by rfl) (h4 : σ.ev x4 = some p4 := by rfl) (hcl : closedL [p0, p1, p2, p3, p4] = true := by rfl) (hd : inB σ (some d) = true := by rfl) :
    OpOK P ⟨some d, .call { callee := .value (.func g), args := #[x0, x1, x2, x3, x4], argTypes := ats }, ty, pos, after, guard⟩ σ (.row d 0) [(d, .row rt sz 0 ys)] :=
  ok_call_own (xs := [x0, x1, x2, x3, x4]) (ps := [p0, p1, p2, p3, p4]) (first := []) (caps := []) rfl (by simp [h0, h1, h2, h3, h4]) (by simpa using hs.h) (by simpa using hcl) hd
theorem ok_call6 {ats : Array TypeId} {g : FuncId} {r : PV} {x0 x1 x2 x3 x4 x5 : Operand} {p0 p1 p2 p3 p4 p5 : PV} [hs : HasSpec P g [p0, p1, p2, p3, p4, p5] r] (h0 : σ.ev x0 = some p0 := by rfl) (h1 : σ.ev x1 = some p1 := by rfl) (h2 : σ.ev x2 = some p2 := by rfl) (h3 : σ.ev x3 = some p3 := by rfl) (h4 : σ.ev x4 = some p4 := by rfl) (h5 : σ.ev x5 = some p5 := by rfl) (hcl : closedL [p0, p1, p2, p3, p4, p5] = true := by rfl) (hr : r.noOwn = true := by rfl) (hd : inB σ dst = true := by rfl) :
    OpOK P ⟨dst, .call { callee := .value (.func g), args := #[x0, x1, x2, x3, x4, x5], argTypes := ats }, ty, pos, after, guard⟩ σ r [] :=
  ok_call (xs := [x0, x1, x2, x3, x4, x5]) (ps := [p0, p1, p2, p3, p4, p5]) (first := []) (caps := []) rfl (by simp [h0, h1, h2, h3, h4, h5]) (by simpa using hs.h) (by simpa using hcl) hr hd
theorem ok_callO6 {ats : Array TypeId} {g : FuncId} {d rt sz : Nat} {ys : List (List PV)} {x0 x1 x2 x3 x4 x5 : Operand} {p0 p1 p2 p3 p4 p5 : PV} [hs : HasSpecO P g [p0, p1, p2, p3, p4, p5] rt sz ys] (h0 : σ.ev x0 = some p0 := by rfl) (h1 : σ.ev x1 = some p1 := by rfl) (h2 : σ.ev x2 = some p2 := by rfl) (h3 : σ.ev x3 = some p3 := by rfl) (h4 : σ.ev x4 = some p4 := by rfl) (h5 : σ.ev x5 = some p5 := by rfl) (hcl : closedL [p0, p1, p2, p3, p4, p5] = true := by rfl) (hd : inB σ (some d) = true := by rfl) :
    OpOK P ⟨some d, .call { callee := .value (.func g), args := #[x0, x1, x2, x3, x4, x5], argTypes := ats }, ty, pos, after, guard⟩ σ (.row d 0) [(d, .row rt sz 0 ys)] :=
  ok_call_own (xs := [x0, x1, x2, x3, x4, x5]) (ps := [p0, p1, p2, p3, p4, p5]) (first := []) (caps := []) rfl (by simp [h0, h1, h2, h3, h4, h5]) (by simpa using hs.h) (by simpa using hcl) hd
theorem ok_call7 {ats : Array TypeId} {g : FuncId} {r : PV} {x0 x1 x2 x3 x4 x5 x6 : Operand} {p0 p1 p2 p3 p4 p5 p6 : PV} [hs : HasSpec P g [p0, p1, p2, p3, p4, p5, p6] r] (h0 : σ.ev x0 = some p0 := by rfl) (h1 : σ.ev x1 = some p1 := by rfl) (h2 : σ.ev x2 = some p2 := by rfl) (h3 : σ.ev x3 = some p3 := by rfl) (h4 : σ.ev x4 = some p4 := by rfl) (h5 : σ.ev x5 = some p5 := by rfl) (h6 : σ.ev x6 = some p6 := by rfl) (hcl : closedL [p0, p1, p2, p3, p4, p5, p6] = true := by rfl) (hr : r.noOwn = true := by rfl) (hd : inB σ dst = true := by rfl) :
    OpOK P ⟨dst, .call { callee := .value (.func g), args := #[x0, x1, x2, x3, x4, x5, x6], argTypes := ats }, ty, pos, after, guard⟩ σ r [] :=
  ok_call (xs := [x0, x1, x2, x3, x4, x5, x6]) (ps := [p0, p1, p2, p3, p4, p5, p6]) (first := []) (caps := []) rfl (by simp [h0, h1, h2, h3, h4, h5, h6]) (by simpa using hs.h) (by simpa using hcl) hr hd
theorem ok_callO7 {ats : Array TypeId} {g : FuncId} {d rt sz : Nat} {ys : List (List PV)} {x0 x1 x2 x3 x4 x5 x6 : Operand} {p0 p1 p2 p3 p4 p5 p6 : PV} [hs : HasSpecO P g [p0, p1, p2, p3, p4, p5, p6] rt sz ys] (h0 : σ.ev x0 = some p0 := by rfl) (h1 : σ.ev x1 = some p1 := by rfl) (h2 : σ.ev x2 = some p2 := by rfl) (h3 : σ.ev x3 = some p3 := by rfl) (h4 : σ.ev x4 = some p4 := by rfl) (h5 : σ.ev x5 = some p5 := by rfl) (h6 : σ.ev x6 = some p6 := by rfl) (hcl : closedL [p0, p1, p2, p3, p4, p5, p6] = true := by rfl) (hd : inB σ (some d) = true := by rfl) :
    OpOK P ⟨some d, .call { callee := .value (.func g), args := #[x0, x1, x2, x3, x4, x5, x6], argTypes := ats }, ty, pos, after, guard⟩ σ (.row d 0) [(d, .row rt sz 0 ys)] :=
  ok_call_own (xs := [x0, x1, x2, x3, x4, x5, x6]) (ps := [p0, p1, p2, p3, p4, p5, p6]) (first := []) (caps := []) rfl (by simp [h0, h1, h2, h3, h4, h5, h6]) (by simpa using hs.h) (by simpa using hcl) hd
end
end Go.Proofs.Ytlicjlahnbebcaa
