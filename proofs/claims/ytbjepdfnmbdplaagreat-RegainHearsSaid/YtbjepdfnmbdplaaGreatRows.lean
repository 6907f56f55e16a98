/-
  No cell of these rows narrows 'for every input' (looked for: loops, veiled, ifaces, maps, wideKeys, modest, calm, conditions, laid).
  DERIVED. THE GIVEN ROWS OF THIS SEAT. 7 by the template 'for every input the law returns true; each argument reads behind the call as it read before'; 0 by the template 'total and deterministic' (their statements: YtbjepdfnmbdplaaGreatTotals.lean).
  GIVEN WITH THE SEED: the statements are not yours to turn. If you find one false, say at which input.
  Laid BY PROGRAM, IN A SANDBOX (cutbox-rows.mjs): the forced cells as the released guide's own fill.sh prints them over the translation 4050416d80b246ea… (all of the seat's roots in one cut). By AI agents, Wed Nov 11 2026. No macro, syntax, notation, axiom, sorry.
-/
import Derived.Test.YtbjepdfnmbdplaaGreatChecked
import GoSem.Claim
import GoSem.ClaimJoined
import GoSem.ClaimMapViews
import Derived.JoinedTies
import Derived.KernelRfl
namespace Go.Proofs.YtbjepdfnmbdplaaGreat
/- THE CELL 'sum', in the pinned program and in every row, IS THE sha256 OF THE DUMP (.gsa) THAT YtbjepdfnmbdplaaGreatProg.lean LOADS. Nothing in Lean hashes anything: it is a label: what it is worth is what the hold of that sum in a sandbox is worth. -/
noncomputable def Tryz.pinned : Pinned := { name := "ytbjepdfnmbdplaagreat", sum := "4050416d80b246ea7d71e18243cf46e5f487bfb78fd34a8e5c925a3d1ab1bbfb", checked := Tryz.checked }
namespace Rows
def none {H : Type} : Left H := { results := [], args := [] }

/-- 'rubatolaw27.SettleHears': WHATEVER THE INPUT: true; the input reads as it did. -/
def settleHearsSpec : ChangeSpec := { name := "settleHears", fn := fun _ => fun
  | [d1, d2, d3] => { results := [.lit (.bool true)], args := [d1, d2, d3] }
  | _ => none }
def settleHearsRow : OpenClaim := { program := "ytbjepdfnmbdplaagreat", sum := "4050416d80b246ea7d71e18243cf46e5f487bfb78fd34a8e5c925a3d1ab1bbfb", func := "rubato/rubatolaw27.SettleHears", spec := "settleHears", inPlace := ["slices.overlaps[rubato/api.Entry]"], unfollowed := true, recurses := true, plainKeys := false, apart := false }
def SettleHearsSaid : Prop := settleHearsRow.holds Tryz.pinned (OpenSpec.ofChange settleHearsSpec)

/-- ITS FALSE NEIGHBOUR: 'it returns false'. Refute it at one input. -/
def settleHearsWrong : ChangeSpec := { name := "settleHears", fn := fun _ => fun
  | [d1, d2, d3] => { results := [.lit (.bool false)], args := [d1, d2, d3] }
  | _ => none }
def SettleHearsWrongFalsely : Prop := settleHearsRow.holds Tryz.pinned (OpenSpec.ofChange settleHearsWrong)

/-- 'rubatolaw27.SettleKeeps': WHATEVER THE INPUT: true; the input reads as it did. -/
def settleKeepsSpec : ChangeSpec := { name := "settleKeeps", fn := fun _ => fun
  | [d1, d2] => { results := [.lit (.bool true)], args := [d1, d2] }
  | _ => none }
def settleKeepsRow : OpenClaim := { program := "ytbjepdfnmbdplaagreat", sum := "4050416d80b246ea7d71e18243cf46e5f487bfb78fd34a8e5c925a3d1ab1bbfb", func := "rubato/rubatolaw27.SettleKeeps", spec := "settleKeeps", inPlace := ["slices.overlaps[rubato/api.Entry]"], unfollowed := true, recurses := true, plainKeys := false, apart := false }
def SettleKeepsSaid : Prop := settleKeepsRow.holds Tryz.pinned (OpenSpec.ofChange settleKeepsSpec)

/-- ITS FALSE NEIGHBOUR: 'it returns false'. Refute it at one input. -/
def settleKeepsWrong : ChangeSpec := { name := "settleKeeps", fn := fun _ => fun
  | [d1, d2] => { results := [.lit (.bool false)], args := [d1, d2] }
  | _ => none }
def SettleKeepsWrongFalsely : Prop := settleKeepsRow.holds Tryz.pinned (OpenSpec.ofChange settleKeepsWrong)

/-- 'rubatolaw27.SettleOnce': WHATEVER THE INPUT: true; the input reads as it did. -/
def settleOnceSpec : ChangeSpec := { name := "settleOnce", fn := fun _ => fun
  | [d1, d2] => { results := [.lit (.bool true)], args := [d1, d2] }
  | _ => none }
def settleOnceRow : OpenClaim := { program := "ytbjepdfnmbdplaagreat", sum := "4050416d80b246ea7d71e18243cf46e5f487bfb78fd34a8e5c925a3d1ab1bbfb", func := "rubato/rubatolaw27.SettleOnce", spec := "settleOnce", inPlace := ["slices.overlaps[rubato/api.Entry]"], unfollowed := true, recurses := true, plainKeys := false, apart := false }
def SettleOnceSaid : Prop := settleOnceRow.holds Tryz.pinned (OpenSpec.ofChange settleOnceSpec)

/-- ITS FALSE NEIGHBOUR: 'it returns false'. Refute it at one input. -/
def settleOnceWrong : ChangeSpec := { name := "settleOnce", fn := fun _ => fun
  | [d1, d2] => { results := [.lit (.bool false)], args := [d1, d2] }
  | _ => none }
def SettleOnceWrongFalsely : Prop := settleOnceRow.holds Tryz.pinned (OpenSpec.ofChange settleOnceWrong)

/-- 'rubatolaw28.RegainHears': WHATEVER THE INPUT: true; the input reads as it did. -/
def regainHearsSpec : ChangeSpec := { name := "regainHears", fn := fun _ => fun
  | [d1, d2, d3] => { results := [.lit (.bool true)], args := [d1, d2, d3] }
  | _ => none }
def regainHearsRow : OpenClaim := { program := "ytbjepdfnmbdplaagreat", sum := "4050416d80b246ea7d71e18243cf46e5f487bfb78fd34a8e5c925a3d1ab1bbfb", func := "rubato/rubatolaw28.RegainHears", spec := "regainHears", inPlace := ["slices.overlaps[rubato/api.Entry]"], unfollowed := true, recurses := true, plainKeys := false, apart := false }
def RegainHearsSaid : Prop := regainHearsRow.holds Tryz.pinned (OpenSpec.ofChange regainHearsSpec)

/-- ITS FALSE NEIGHBOUR: 'it returns false'. Refute it at one input. -/
def regainHearsWrong : ChangeSpec := { name := "regainHears", fn := fun _ => fun
  | [d1, d2, d3] => { results := [.lit (.bool false)], args := [d1, d2, d3] }
  | _ => none }
def RegainHearsWrongFalsely : Prop := regainHearsRow.holds Tryz.pinned (OpenSpec.ofChange regainHearsWrong)

/-- 'rubatolaw28.RegainPromises': WHATEVER THE INPUT: true; the input reads as it did. -/
def regainPromisesSpec : ChangeSpec := { name := "regainPromises", fn := fun _ => fun
  | [d1, d2, d3] => { results := [.lit (.bool true)], args := [d1, d2, d3] }
  | _ => none }
def regainPromisesRow : OpenClaim := { program := "ytbjepdfnmbdplaagreat", sum := "4050416d80b246ea7d71e18243cf46e5f487bfb78fd34a8e5c925a3d1ab1bbfb", func := "rubato/rubatolaw28.RegainPromises", spec := "regainPromises", inPlace := ["slices.overlaps[rubato/api.Entry]"], unfollowed := true, recurses := true, plainKeys := false, apart := false }
def RegainPromisesSaid : Prop := regainPromisesRow.holds Tryz.pinned (OpenSpec.ofChange regainPromisesSpec)

/-- ITS FALSE NEIGHBOUR: 'it returns false'. Refute it at one input. -/
def regainPromisesWrong : ChangeSpec := { name := "regainPromises", fn := fun _ => fun
  | [d1, d2, d3] => { results := [.lit (.bool false)], args := [d1, d2, d3] }
  | _ => none }
def RegainPromisesWrongFalsely : Prop := regainPromisesRow.holds Tryz.pinned (OpenSpec.ofChange regainPromisesWrong)

/-- 'rubatolaw28.RegainKeeps': WHATEVER THE INPUT: true; the input reads as it did. -/
def regainKeepsSpec : ChangeSpec := { name := "regainKeeps", fn := fun _ => fun
  | [d1, d2, d3] => { results := [.lit (.bool true)], args := [d1, d2, d3] }
  | _ => none }
def regainKeepsRow : OpenClaim := { program := "ytbjepdfnmbdplaagreat", sum := "4050416d80b246ea7d71e18243cf46e5f487bfb78fd34a8e5c925a3d1ab1bbfb", func := "rubato/rubatolaw28.RegainKeeps", spec := "regainKeeps", inPlace := ["slices.overlaps[rubato/api.Entry]"], unfollowed := true, recurses := true, plainKeys := false, apart := false }
def RegainKeepsSaid : Prop := regainKeepsRow.holds Tryz.pinned (OpenSpec.ofChange regainKeepsSpec)

/-- ITS FALSE NEIGHBOUR: 'it returns false'. Refute it at one input. -/
def regainKeepsWrong : ChangeSpec := { name := "regainKeeps", fn := fun _ => fun
  | [d1, d2, d3] => { results := [.lit (.bool false)], args := [d1, d2, d3] }
  | _ => none }
def RegainKeepsWrongFalsely : Prop := regainKeepsRow.holds Tryz.pinned (OpenSpec.ofChange regainKeepsWrong)

/-- 'rubatolaw28.RegainOnce': WHATEVER THE INPUT: true; the input reads as it did. -/
def regainOnceSpec : ChangeSpec := { name := "regainOnce", fn := fun _ => fun
  | [d1, d2] => { results := [.lit (.bool true)], args := [d1, d2] }
  | _ => none }
def regainOnceRow : OpenClaim := { program := "ytbjepdfnmbdplaagreat", sum := "4050416d80b246ea7d71e18243cf46e5f487bfb78fd34a8e5c925a3d1ab1bbfb", func := "rubato/rubatolaw28.RegainOnce", spec := "regainOnce", inPlace := ["slices.overlaps[rubato/api.Entry]"], unfollowed := true, recurses := true, plainKeys := false, apart := false }
def RegainOnceSaid : Prop := regainOnceRow.holds Tryz.pinned (OpenSpec.ofChange regainOnceSpec)

/-- ITS FALSE NEIGHBOUR: 'it returns false'. Refute it at one input. -/
def regainOnceWrong : ChangeSpec := { name := "regainOnce", fn := fun _ => fun
  | [d1, d2] => { results := [.lit (.bool false)], args := [d1, d2] }
  | _ => none }
def RegainOnceWrongFalsely : Prop := regainOnceRow.holds Tryz.pinned (OpenSpec.ofChange regainOnceWrong)

/- THE SECOND FORM. 'bulk': how many values and letters a reading holds, each counted each time it is reached (what is shared counts as often as it is met; a slice's spare places count too). A statement '..UptoSaid' is the law's where the arguments, and the package variables that the reading takes, are together of bulk at most 1048576: NARROWER than '..Said'. Prove '..Said' where nothing that the law and all that it calls make is longer than what came in: it says more and counts as full. Else prove '..UptoSaid'. A law counts once. -/
mutual
def uptoBulk {H : Type} : DataW H → Nat
  | .lit (.string bytes) => bytes.length + 1
  | .lit _ => 1
  | .nil => 1
  | .ptr d => uptoBulk d + 1
  | .slice elems spare => uptoBulkAll elems + uptoBulkAll spare + 1
  | .agg parts => uptoBulkAll parts + 1
  | .iface _ d => uptoBulk d + 1
  | .map entries => uptoBulkEntries entries + 1
  | .held _ => 1
def uptoBulkAll {H : Type} : List (DataW H) → Nat
  | [] => 0
  | d :: r => uptoBulk d + uptoBulkAll r
def uptoBulkEntries {H : Type} : List (Lit × DataW H) → Nat
  | [] => 0
  | x :: r => uptoBulkEntry x + uptoBulkEntries r
def uptoBulkEntry {H : Type} : Lit × DataW H → Nat
  | (.string bytes, d) => bytes.length + uptoBulk d + 1
  | (_, d) => uptoBulk d + 1
 end
def uptoSmall : (H : Type) → List (DataW H) → Bool := fun _ ds => decide (uptoBulkAll ds ≤ 1048576)
def OpenSpec.upto (s : _root_.Go.ChangeSpec) : _root_.Go.OpenSpec := { _root_.Go.OpenSpec.ofChange s with cond := some uptoSmall }

/-- 'rubatolaw27.SettleHears', WHERE WHAT IT READS IS OF BULK AT MOST 1048576: true; the input reads as it did. -/
def settleHearsUptoRow : OpenClaim := { program := "ytbjepdfnmbdplaagreat", sum := "4050416d80b246ea7d71e18243cf46e5f487bfb78fd34a8e5c925a3d1ab1bbfb", func := "rubato/rubatolaw27.SettleHears", spec := "settleHears", inPlace := ["slices.overlaps[rubato/api.Entry]"], unfollowed := true, recurses := true, plainKeys := false, apart := false, narrowed := true }
def SettleHearsUptoSaid : Prop := settleHearsUptoRow.holds Tryz.pinned (OpenSpec.upto settleHearsSpec)

/-- 'rubatolaw27.SettleKeeps', WHERE WHAT IT READS IS OF BULK AT MOST 1048576: true; the input reads as it did. -/
def settleKeepsUptoRow : OpenClaim := { program := "ytbjepdfnmbdplaagreat", sum := "4050416d80b246ea7d71e18243cf46e5f487bfb78fd34a8e5c925a3d1ab1bbfb", func := "rubato/rubatolaw27.SettleKeeps", spec := "settleKeeps", inPlace := ["slices.overlaps[rubato/api.Entry]"], unfollowed := true, recurses := true, plainKeys := false, apart := false, narrowed := true }
def SettleKeepsUptoSaid : Prop := settleKeepsUptoRow.holds Tryz.pinned (OpenSpec.upto settleKeepsSpec)

/-- 'rubatolaw27.SettleOnce', WHERE WHAT IT READS IS OF BULK AT MOST 1048576: true; the input reads as it did. -/
def settleOnceUptoRow : OpenClaim := { program := "ytbjepdfnmbdplaagreat", sum := "4050416d80b246ea7d71e18243cf46e5f487bfb78fd34a8e5c925a3d1ab1bbfb", func := "rubato/rubatolaw27.SettleOnce", spec := "settleOnce", inPlace := ["slices.overlaps[rubato/api.Entry]"], unfollowed := true, recurses := true, plainKeys := false, apart := false, narrowed := true }
def SettleOnceUptoSaid : Prop := settleOnceUptoRow.holds Tryz.pinned (OpenSpec.upto settleOnceSpec)

/-- 'rubatolaw28.RegainHears', WHERE WHAT IT READS IS OF BULK AT MOST 1048576: true; the input reads as it did. -/
def regainHearsUptoRow : OpenClaim := { program := "ytbjepdfnmbdplaagreat", sum := "4050416d80b246ea7d71e18243cf46e5f487bfb78fd34a8e5c925a3d1ab1bbfb", func := "rubato/rubatolaw28.RegainHears", spec := "regainHears", inPlace := ["slices.overlaps[rubato/api.Entry]"], unfollowed := true, recurses := true, plainKeys := false, apart := false, narrowed := true }
def RegainHearsUptoSaid : Prop := regainHearsUptoRow.holds Tryz.pinned (OpenSpec.upto regainHearsSpec)

/-- 'rubatolaw28.RegainPromises', WHERE WHAT IT READS IS OF BULK AT MOST 1048576: true; the input reads as it did. -/
def regainPromisesUptoRow : OpenClaim := { program := "ytbjepdfnmbdplaagreat", sum := "4050416d80b246ea7d71e18243cf46e5f487bfb78fd34a8e5c925a3d1ab1bbfb", func := "rubato/rubatolaw28.RegainPromises", spec := "regainPromises", inPlace := ["slices.overlaps[rubato/api.Entry]"], unfollowed := true, recurses := true, plainKeys := false, apart := false, narrowed := true }
def RegainPromisesUptoSaid : Prop := regainPromisesUptoRow.holds Tryz.pinned (OpenSpec.upto regainPromisesSpec)

/-- 'rubatolaw28.RegainKeeps', WHERE WHAT IT READS IS OF BULK AT MOST 1048576: true; the input reads as it did. -/
def regainKeepsUptoRow : OpenClaim := { program := "ytbjepdfnmbdplaagreat", sum := "4050416d80b246ea7d71e18243cf46e5f487bfb78fd34a8e5c925a3d1ab1bbfb", func := "rubato/rubatolaw28.RegainKeeps", spec := "regainKeeps", inPlace := ["slices.overlaps[rubato/api.Entry]"], unfollowed := true, recurses := true, plainKeys := false, apart := false, narrowed := true }
def RegainKeepsUptoSaid : Prop := regainKeepsUptoRow.holds Tryz.pinned (OpenSpec.upto regainKeepsSpec)

/-- 'rubatolaw28.RegainOnce', WHERE WHAT IT READS IS OF BULK AT MOST 1048576: true; the input reads as it did. -/
def regainOnceUptoRow : OpenClaim := { program := "ytbjepdfnmbdplaagreat", sum := "4050416d80b246ea7d71e18243cf46e5f487bfb78fd34a8e5c925a3d1ab1bbfb", func := "rubato/rubatolaw28.RegainOnce", spec := "regainOnce", inPlace := ["slices.overlaps[rubato/api.Entry]"], unfollowed := true, recurses := true, plainKeys := false, apart := false, narrowed := true }
def RegainOnceUptoSaid : Prop := regainOnceUptoRow.holds Tryz.pinned (OpenSpec.upto regainOnceSpec)

end Rows
end Go.Proofs.YtbjepdfnmbdplaaGreat
