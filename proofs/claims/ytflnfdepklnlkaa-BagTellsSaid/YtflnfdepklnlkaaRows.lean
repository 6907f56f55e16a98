/-
  No cell of these rows narrows 'for every input' (looked for: loops, veiled, ifaces, maps, wideKeys, modest, calm, conditions, laid).
  DERIVED. THE GIVEN ROWS OF THIS SEAT. 3 by the template 'for every input the law returns true; each argument reads behind the call as it read before'; 0 by the template 'total and deterministic' (their statements: YtflnfdepklnlkaaTotals.lean).
  GIVEN WITH THE SEED: the statements are not yours to turn. If you find one false, say at which input.
  Laid BY PROGRAM, IN A SANDBOX (cutbox-rows.mjs): the forced cells as the released guide's own fill.sh prints them over the translation e3ebdc4df503eec9… (all of the seat's roots in one cut). By AI agents, Wed Nov 11 2026. No macro, syntax, notation, axiom, sorry.
-/
import Derived.Test.YtflnfdepklnlkaaChecked
import GoSem.Claim
import GoSem.ClaimJoined
import GoSem.ClaimMapViews
import Derived.JoinedTies
import Derived.KernelRfl
namespace Go.Proofs.Ytflnfdepklnlkaa
/- THE CELL 'sum', in the pinned program and in every row, IS THE sha256 OF THE DUMP (.gsa) THAT YtflnfdepklnlkaaProg.lean LOADS. Nothing in Lean hashes anything: it is a label: what it is worth is what the hold of that sum in a sandbox is worth. -/
noncomputable def Try.pinned : Pinned := { name := "ytflnfdepklnlkaa", sum := "e3ebdc4df503eec9b6a6229ebd701a58f7c7360a48e5f859cb2e309b601fd1f9", checked := Try.checked }
namespace Rows
def none {H : Type} : Left H := { results := [], args := [] }

/-- 'rubatolaw14.BagTells': WHATEVER THE INPUT: true; the input reads as it did. -/
def bagTellsSpec : ChangeSpec := { name := "bagTells", fn := fun _ => fun
  | [d1, d2, d3] => { results := [.lit (.bool true)], args := [d1, d2, d3] }
  | _ => none }
def bagTellsRow : OpenClaim := { program := "ytflnfdepklnlkaa", sum := "e3ebdc4df503eec9b6a6229ebd701a58f7c7360a48e5f859cb2e309b601fd1f9", func := "rubato/rubatolaw14.BagTells", spec := "bagTells", unfollowed := true, recurses := true, apart := false }
def BagTellsSaid : Prop := bagTellsRow.holds Try.pinned (OpenSpec.ofChange bagTellsSpec)

/-- ITS FALSE NEIGHBOUR: 'it returns false'. Refute it at one input. -/
def bagTellsWrong : ChangeSpec := { name := "bagTells", fn := fun _ => fun
  | [d1, d2, d3] => { results := [.lit (.bool false)], args := [d1, d2, d3] }
  | _ => none }
def BagTellsWrongFalsely : Prop := bagTellsRow.holds Try.pinned (OpenSpec.ofChange bagTellsWrong)

/-- 'rubatolaw14.BagMoves': WHATEVER THE INPUT: true; the input reads as it did. -/
def bagMovesSpec : ChangeSpec := { name := "bagMoves", fn := fun _ => fun
  | [d1, d2, d3] => { results := [.lit (.bool true)], args := [d1, d2, d3] }
  | _ => none }
def bagMovesRow : OpenClaim := { program := "ytflnfdepklnlkaa", sum := "e3ebdc4df503eec9b6a6229ebd701a58f7c7360a48e5f859cb2e309b601fd1f9", func := "rubato/rubatolaw14.BagMoves", spec := "bagMoves", unfollowed := true, recurses := true, apart := false }
def BagMovesSaid : Prop := bagMovesRow.holds Try.pinned (OpenSpec.ofChange bagMovesSpec)

/-- ITS FALSE NEIGHBOUR: 'it returns false'. Refute it at one input. -/
def bagMovesWrong : ChangeSpec := { name := "bagMoves", fn := fun _ => fun
  | [d1, d2, d3] => { results := [.lit (.bool false)], args := [d1, d2, d3] }
  | _ => none }
def BagMovesWrongFalsely : Prop := bagMovesRow.holds Try.pinned (OpenSpec.ofChange bagMovesWrong)

/-- 'rubatolaw14.BagCuts': WHATEVER THE INPUT: true; the input reads as it did. -/
def bagCutsSpec : ChangeSpec := { name := "bagCuts", fn := fun _ => fun
  | [d1, d2] => { results := [.lit (.bool true)], args := [d1, d2] }
  | _ => none }
def bagCutsRow : OpenClaim := { program := "ytflnfdepklnlkaa", sum := "e3ebdc4df503eec9b6a6229ebd701a58f7c7360a48e5f859cb2e309b601fd1f9", func := "rubato/rubatolaw14.BagCuts", spec := "bagCuts", unfollowed := true, recurses := true, apart := false }
def BagCutsSaid : Prop := bagCutsRow.holds Try.pinned (OpenSpec.ofChange bagCutsSpec)

/-- ITS FALSE NEIGHBOUR: 'it returns false'. Refute it at one input. -/
def bagCutsWrong : ChangeSpec := { name := "bagCuts", fn := fun _ => fun
  | [d1, d2] => { results := [.lit (.bool false)], args := [d1, d2] }
  | _ => none }
def BagCutsWrongFalsely : Prop := bagCutsRow.holds Try.pinned (OpenSpec.ofChange bagCutsWrong)

/- THE SECOND FORM. 'bulk': how many values and letters a reading holds, each counted each time it is reached (what is shared counts as often as it is met; a slice's spare places count too). A statement '..UptoSaid' is the law's where the arguments, and the package variables that the reading takes, are together of bulk at most 1048576: NARROWER than '..Said'. Prove '..Said' where nothing that the law and all that it calls make is longer than what came in: it says more and counts as full. Else prove '..UptoSaid'. A law counts once. -/
mutual
def uptoBulk {H : Type} : DataW H → Nat
  | .lit (.string bytes) => bytes.length + 1
  | .lit _ => 1
  | .nil => 1
  | .ptr d => uptoBulk d + 1
  | .slice elems spare => uptoBulkAll elems + uptoBulkAll spare + 1
  | .agg parts => uptoBulkAll parts + 1
  | .iface _ d => uptoBulk d + 1
  | .map entries => uptoBulkEntries entries + 1
  | .held _ => 1
def uptoBulkAll {H : Type} : List (DataW H) → Nat
  | [] => 0
  | d :: r => uptoBulk d + uptoBulkAll r
def uptoBulkEntries {H : Type} : List (Lit × DataW H) → Nat
  | [] => 0
  | x :: r => uptoBulkEntry x + uptoBulkEntries r
def uptoBulkEntry {H : Type} : Lit × DataW H → Nat
  | (.string bytes, d) => bytes.length + uptoBulk d + 1
  | (_, d) => uptoBulk d + 1
 end
def uptoSmall : (H : Type) → List (DataW H) → Bool := fun _ ds => decide (uptoBulkAll ds ≤ 1048576)
def OpenSpec.upto (s : _root_.Go.ChangeSpec) : _root_.Go.OpenSpec := { _root_.Go.OpenSpec.ofChange s with cond := some uptoSmall }

/-- 'rubatolaw14.BagTells', WHERE WHAT IT READS IS OF BULK AT MOST 1048576: true; the input reads as it did. -/
def bagTellsUptoRow : OpenClaim := { program := "ytflnfdepklnlkaa", sum := "e3ebdc4df503eec9b6a6229ebd701a58f7c7360a48e5f859cb2e309b601fd1f9", func := "rubato/rubatolaw14.BagTells", spec := "bagTells", unfollowed := true, recurses := true, apart := false, narrowed := true }
def BagTellsUptoSaid : Prop := bagTellsUptoRow.holds Try.pinned (OpenSpec.upto bagTellsSpec)

/-- 'rubatolaw14.BagMoves', WHERE WHAT IT READS IS OF BULK AT MOST 1048576: true; the input reads as it did. -/
def bagMovesUptoRow : OpenClaim := { program := "ytflnfdepklnlkaa", sum := "e3ebdc4df503eec9b6a6229ebd701a58f7c7360a48e5f859cb2e309b601fd1f9", func := "rubato/rubatolaw14.BagMoves", spec := "bagMoves", unfollowed := true, recurses := true, apart := false, narrowed := true }
def BagMovesUptoSaid : Prop := bagMovesUptoRow.holds Try.pinned (OpenSpec.upto bagMovesSpec)

/-- 'rubatolaw14.BagCuts', WHERE WHAT IT READS IS OF BULK AT MOST 1048576: true; the input reads as it did. -/
def bagCutsUptoRow : OpenClaim := { program := "ytflnfdepklnlkaa", sum := "e3ebdc4df503eec9b6a6229ebd701a58f7c7360a48e5f859cb2e309b601fd1f9", func := "rubato/rubatolaw14.BagCuts", spec := "bagCuts", unfollowed := true, recurses := true, apart := false, narrowed := true }
def BagCutsUptoSaid : Prop := bagCutsUptoRow.holds Try.pinned (OpenSpec.upto bagCutsSpec)

end Rows
end Go.Proofs.Ytflnfdepklnlkaa
