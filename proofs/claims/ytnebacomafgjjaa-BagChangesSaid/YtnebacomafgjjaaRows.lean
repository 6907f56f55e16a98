/-
  No cell of these rows narrows 'for every input' (looked for: loops, veiled, ifaces, maps, wideKeys, modest, calm, conditions, laid).
  DERIVED. THE GIVEN ROWS OF THIS SEAT. 9 by the template 'for every input the law returns true; each argument reads behind the call as it read before'; 0 by the template 'total and deterministic' (their statements: YtnebacomafgjjaaTotals.lean).
  GIVEN WITH THE SEED: the statements are not yours to turn. If you find one false, say at which input.
  Laid BY PROGRAM, IN A SANDBOX (cutbox-rows.mjs): the forced cells as the released guide's own fill.sh prints them over the translation 3cece2c4e1c1ce9f… (all of the seat's roots in one cut). By AI agents, Wed Nov 11 2026. No macro, syntax, notation, axiom, sorry.
-/
import Derived.Test.YtnebacomafgjjaaChecked
import GoSem.Claim
import GoSem.ClaimJoined
import GoSem.ClaimMapViews
import Derived.JoinedTies
import Derived.KernelRfl
namespace Go.Proofs.Ytnebacomafgjjaa
/- THE CELL 'sum', in the pinned program and in every row, IS THE sha256 OF THE DUMP (.gsa) THAT YtnebacomafgjjaaProg.lean LOADS. Nothing in Lean hashes anything: it is a label: what it is worth is what the hold of that sum in a sandbox is worth. -/
noncomputable def Try.pinned : Pinned := { name := "ytnebacomafgjjaa", sum := "3cece2c4e1c1ce9fefed3eb2731ffeb467296910afd02ebeac875baebcac8725", checked := Try.checked }
namespace Rows
def none {H : Type} : Left H := { results := [], args := [] }

/-- 'rubatolaw19.PhaseTells': WHATEVER THE INPUT: true; the input reads as it did. -/
def phaseTellsSpec : ChangeSpec := { name := "phaseTells", fn := fun _ => fun
  | [d1, d2] => { results := [.lit (.bool true)], args := [d1, d2] }
  | _ => none }
def phaseTellsRow : OpenClaim := { program := "ytnebacomafgjjaa", sum := "3cece2c4e1c1ce9fefed3eb2731ffeb467296910afd02ebeac875baebcac8725", func := "rubato/rubatolaw19.PhaseTells", spec := "phaseTells", apart := false }
def PhaseTellsSaid : Prop := phaseTellsRow.holds Try.pinned (OpenSpec.ofChange phaseTellsSpec)

/-- ITS FALSE NEIGHBOUR: 'it returns false'. Refute it at one input. -/
def phaseTellsWrong : ChangeSpec := { name := "phaseTells", fn := fun _ => fun
  | [d1, d2] => { results := [.lit (.bool false)], args := [d1, d2] }
  | _ => none }
def PhaseTellsWrongFalsely : Prop := phaseTellsRow.holds Try.pinned (OpenSpec.ofChange phaseTellsWrong)

/-- 'rubatolaw19.PhaseOnce': WHATEVER THE INPUT: true; the input reads as it did. -/
def phaseOnceSpec : ChangeSpec := { name := "phaseOnce", fn := fun _ => fun
  | [d] => { results := [.lit (.bool true)], args := [d] }
  | _ => none }
def phaseOnceRow : OpenClaim := { program := "ytnebacomafgjjaa", sum := "3cece2c4e1c1ce9fefed3eb2731ffeb467296910afd02ebeac875baebcac8725", func := "rubato/rubatolaw19.PhaseOnce", spec := "phaseOnce", apart := false }
def PhaseOnceSaid : Prop := phaseOnceRow.holds Try.pinned (OpenSpec.ofChange phaseOnceSpec)

/-- ITS FALSE NEIGHBOUR: 'it returns false'. Refute it at one input. -/
def phaseOnceWrong : ChangeSpec := { name := "phaseOnce", fn := fun _ => fun
  | [d] => { results := [.lit (.bool false)], args := [d] }
  | _ => none }
def PhaseOnceWrongFalsely : Prop := phaseOnceRow.holds Try.pinned (OpenSpec.ofChange phaseOnceWrong)

/-- 'rubatolaw19.PhaseEnds': WHATEVER THE INPUT: true; the input reads as it did. -/
def phaseEndsSpec : ChangeSpec := { name := "phaseEnds", fn := fun _ => fun
  | [d1, d2] => { results := [.lit (.bool true)], args := [d1, d2] }
  | _ => none }
def phaseEndsRow : OpenClaim := { program := "ytnebacomafgjjaa", sum := "3cece2c4e1c1ce9fefed3eb2731ffeb467296910afd02ebeac875baebcac8725", func := "rubato/rubatolaw19.PhaseEnds", spec := "phaseEnds", apart := false }
def PhaseEndsSaid : Prop := phaseEndsRow.holds Try.pinned (OpenSpec.ofChange phaseEndsSpec)

/-- ITS FALSE NEIGHBOUR: 'it returns false'. Refute it at one input. -/
def phaseEndsWrong : ChangeSpec := { name := "phaseEnds", fn := fun _ => fun
  | [d1, d2] => { results := [.lit (.bool false)], args := [d1, d2] }
  | _ => none }
def PhaseEndsWrongFalsely : Prop := phaseEndsRow.holds Try.pinned (OpenSpec.ofChange phaseEndsWrong)

/-- 'rubatolaw15.ClockProposes': WHATEVER THE INPUT: true; the input reads as it did. -/
def clockProposesSpec : ChangeSpec := { name := "clockProposes", fn := fun _ => fun
  | [d1, d2, d3] => { results := [.lit (.bool true)], args := [d1, d2, d3] }
  | _ => none }
def clockProposesRow : OpenClaim := { program := "ytnebacomafgjjaa", sum := "3cece2c4e1c1ce9fefed3eb2731ffeb467296910afd02ebeac875baebcac8725", func := "rubato/rubatolaw15.ClockProposes", spec := "clockProposes", unfollowed := true, recurses := true, apart := false }
def ClockProposesSaid : Prop := clockProposesRow.holds Try.pinned (OpenSpec.ofChange clockProposesSpec)

/-- ITS FALSE NEIGHBOUR: 'it returns false'. Refute it at one input. -/
def clockProposesWrong : ChangeSpec := { name := "clockProposes", fn := fun _ => fun
  | [d1, d2, d3] => { results := [.lit (.bool false)], args := [d1, d2, d3] }
  | _ => none }
def ClockProposesWrongFalsely : Prop := clockProposesRow.holds Try.pinned (OpenSpec.ofChange clockProposesWrong)

/-- 'rubatolaw15.ClockOnce': WHATEVER THE INPUT: true; the input reads as it did. -/
def clockOnceSpec : ChangeSpec := { name := "clockOnce", fn := fun _ => fun
  | [d] => { results := [.lit (.bool true)], args := [d] }
  | _ => none }
def clockOnceRow : OpenClaim := { program := "ytnebacomafgjjaa", sum := "3cece2c4e1c1ce9fefed3eb2731ffeb467296910afd02ebeac875baebcac8725", func := "rubato/rubatolaw15.ClockOnce", spec := "clockOnce", unfollowed := true, recurses := true, apart := false }
def ClockOnceSaid : Prop := clockOnceRow.holds Try.pinned (OpenSpec.ofChange clockOnceSpec)

/-- ITS FALSE NEIGHBOUR: 'it returns false'. Refute it at one input. -/
def clockOnceWrong : ChangeSpec := { name := "clockOnce", fn := fun _ => fun
  | [d] => { results := [.lit (.bool false)], args := [d] }
  | _ => none }
def ClockOnceWrongFalsely : Prop := clockOnceRow.holds Try.pinned (OpenSpec.ofChange clockOnceWrong)

/-- 'rubatolaw14.BagChanges': WHATEVER THE INPUT: true; the input reads as it did. -/
def bagChangesSpec : ChangeSpec := { name := "bagChanges", fn := fun _ => fun
  | [d1, d2, d3] => { results := [.lit (.bool true)], args := [d1, d2, d3] }
  | _ => none }
def bagChangesRow : OpenClaim := { program := "ytnebacomafgjjaa", sum := "3cece2c4e1c1ce9fefed3eb2731ffeb467296910afd02ebeac875baebcac8725", func := "rubato/rubatolaw14.BagChanges", spec := "bagChanges", unfollowed := true, recurses := true, apart := false }
def BagChangesSaid : Prop := bagChangesRow.holds Try.pinned (OpenSpec.ofChange bagChangesSpec)

/-- ITS FALSE NEIGHBOUR: 'it returns false'. Refute it at one input. -/
def bagChangesWrong : ChangeSpec := { name := "bagChanges", fn := fun _ => fun
  | [d1, d2, d3] => { results := [.lit (.bool false)], args := [d1, d2, d3] }
  | _ => none }
def BagChangesWrongFalsely : Prop := bagChangesRow.holds Try.pinned (OpenSpec.ofChange bagChangesWrong)

/-- 'rubatolaw14.BagTells': WHATEVER THE INPUT: true; the input reads as it did. -/
def bagTellsSpec : ChangeSpec := { name := "bagTells", fn := fun _ => fun
  | [d1, d2, d3] => { results := [.lit (.bool true)], args := [d1, d2, d3] }
  | _ => none }
def bagTellsRow : OpenClaim := { program := "ytnebacomafgjjaa", sum := "3cece2c4e1c1ce9fefed3eb2731ffeb467296910afd02ebeac875baebcac8725", func := "rubato/rubatolaw14.BagTells", spec := "bagTells", unfollowed := true, recurses := true, apart := false }
def BagTellsSaid : Prop := bagTellsRow.holds Try.pinned (OpenSpec.ofChange bagTellsSpec)

/-- ITS FALSE NEIGHBOUR: 'it returns false'. Refute it at one input. -/
def bagTellsWrong : ChangeSpec := { name := "bagTells", fn := fun _ => fun
  | [d1, d2, d3] => { results := [.lit (.bool false)], args := [d1, d2, d3] }
  | _ => none }
def BagTellsWrongFalsely : Prop := bagTellsRow.holds Try.pinned (OpenSpec.ofChange bagTellsWrong)

/-- 'rubatolaw14.BagMoves': WHATEVER THE INPUT: true; the input reads as it did. -/
def bagMovesSpec : ChangeSpec := { name := "bagMoves", fn := fun _ => fun
  | [d1, d2, d3] => { results := [.lit (.bool true)], args := [d1, d2, d3] }
  | _ => none }
def bagMovesRow : OpenClaim := { program := "ytnebacomafgjjaa", sum := "3cece2c4e1c1ce9fefed3eb2731ffeb467296910afd02ebeac875baebcac8725", func := "rubato/rubatolaw14.BagMoves", spec := "bagMoves", unfollowed := true, recurses := true, apart := false }
def BagMovesSaid : Prop := bagMovesRow.holds Try.pinned (OpenSpec.ofChange bagMovesSpec)

/-- ITS FALSE NEIGHBOUR: 'it returns false'. Refute it at one input. -/
def bagMovesWrong : ChangeSpec := { name := "bagMoves", fn := fun _ => fun
  | [d1, d2, d3] => { results := [.lit (.bool false)], args := [d1, d2, d3] }
  | _ => none }
def BagMovesWrongFalsely : Prop := bagMovesRow.holds Try.pinned (OpenSpec.ofChange bagMovesWrong)

/-- 'rubatolaw14.BagCuts': WHATEVER THE INPUT: true; the input reads as it did. -/
def bagCutsSpec : ChangeSpec := { name := "bagCuts", fn := fun _ => fun
  | [d1, d2] => { results := [.lit (.bool true)], args := [d1, d2] }
  | _ => none }
def bagCutsRow : OpenClaim := { program := "ytnebacomafgjjaa", sum := "3cece2c4e1c1ce9fefed3eb2731ffeb467296910afd02ebeac875baebcac8725", func := "rubato/rubatolaw14.BagCuts", spec := "bagCuts", unfollowed := true, recurses := true, apart := false }
def BagCutsSaid : Prop := bagCutsRow.holds Try.pinned (OpenSpec.ofChange bagCutsSpec)

/-- ITS FALSE NEIGHBOUR: 'it returns false'. Refute it at one input. -/
def bagCutsWrong : ChangeSpec := { name := "bagCuts", fn := fun _ => fun
  | [d1, d2] => { results := [.lit (.bool false)], args := [d1, d2] }
  | _ => none }
def BagCutsWrongFalsely : Prop := bagCutsRow.holds Try.pinned (OpenSpec.ofChange bagCutsWrong)

/- THE SECOND FORM. 'bulk': how many values and letters a reading holds, each counted each time it is reached (what is shared counts as often as it is met; a slice's spare places count too). A statement '..UptoSaid' is the law's where the arguments, and the package variables that the reading takes, are together of bulk at most 1048576: NARROWER than '..Said'. Prove '..Said' where nothing that the law and all that it calls make is longer than what came in: it says more and counts as full. Else prove '..UptoSaid'. A law counts once. -/
mutual
def uptoBulk {H : Type} : DataW H → Nat
  | .lit (.string bytes) => bytes.length + 1
  | .lit _ => 1
  | .nil => 1
  | .ptr d => uptoBulk d + 1
  | .slice elems spare => uptoBulkAll elems + uptoBulkAll spare + 1
  | .agg parts => uptoBulkAll parts + 1
  | .iface _ d => uptoBulk d + 1
  | .map entries => uptoBulkEntries entries + 1
  | .held _ => 1
def uptoBulkAll {H : Type} : List (DataW H) → Nat
  | [] => 0
  | d :: r => uptoBulk d + uptoBulkAll r
def uptoBulkEntries {H : Type} : List (Lit × DataW H) → Nat
  | [] => 0
  | x :: r => uptoBulkEntry x + uptoBulkEntries r
def uptoBulkEntry {H : Type} : Lit × DataW H → Nat
  | (.string bytes, d) => bytes.length + uptoBulk d + 1
  | (_, d) => uptoBulk d + 1
 end
def uptoSmall : (H : Type) → List (DataW H) → Bool := fun _ ds => decide (uptoBulkAll ds ≤ 1048576)
def OpenSpec.upto (s : _root_.Go.ChangeSpec) : _root_.Go.OpenSpec := { _root_.Go.OpenSpec.ofChange s with cond := some uptoSmall }

/-- 'rubatolaw19.PhaseTells', WHERE WHAT IT READS IS OF BULK AT MOST 1048576: true; the input reads as it did. -/
def phaseTellsUptoRow : OpenClaim := { program := "ytnebacomafgjjaa", sum := "3cece2c4e1c1ce9fefed3eb2731ffeb467296910afd02ebeac875baebcac8725", func := "rubato/rubatolaw19.PhaseTells", spec := "phaseTells", apart := false, narrowed := true }
def PhaseTellsUptoSaid : Prop := phaseTellsUptoRow.holds Try.pinned (OpenSpec.upto phaseTellsSpec)

/-- 'rubatolaw19.PhaseOnce', WHERE WHAT IT READS IS OF BULK AT MOST 1048576: true; the input reads as it did. -/
def phaseOnceUptoRow : OpenClaim := { program := "ytnebacomafgjjaa", sum := "3cece2c4e1c1ce9fefed3eb2731ffeb467296910afd02ebeac875baebcac8725", func := "rubato/rubatolaw19.PhaseOnce", spec := "phaseOnce", apart := false, narrowed := true }
def PhaseOnceUptoSaid : Prop := phaseOnceUptoRow.holds Try.pinned (OpenSpec.upto phaseOnceSpec)

/-- 'rubatolaw19.PhaseEnds', WHERE WHAT IT READS IS OF BULK AT MOST 1048576: true; the input reads as it did. -/
def phaseEndsUptoRow : OpenClaim := { program := "ytnebacomafgjjaa", sum := "3cece2c4e1c1ce9fefed3eb2731ffeb467296910afd02ebeac875baebcac8725", func := "rubato/rubatolaw19.PhaseEnds", spec := "phaseEnds", apart := false, narrowed := true }
def PhaseEndsUptoSaid : Prop := phaseEndsUptoRow.holds Try.pinned (OpenSpec.upto phaseEndsSpec)

/-- 'rubatolaw15.ClockProposes', WHERE WHAT IT READS IS OF BULK AT MOST 1048576: true; the input reads as it did. -/
def clockProposesUptoRow : OpenClaim := { program := "ytnebacomafgjjaa", sum := "3cece2c4e1c1ce9fefed3eb2731ffeb467296910afd02ebeac875baebcac8725", func := "rubato/rubatolaw15.ClockProposes", spec := "clockProposes", unfollowed := true, recurses := true, apart := false, narrowed := true }
def ClockProposesUptoSaid : Prop := clockProposesUptoRow.holds Try.pinned (OpenSpec.upto clockProposesSpec)

/-- 'rubatolaw15.ClockOnce', WHERE WHAT IT READS IS OF BULK AT MOST 1048576: true; the input reads as it did. -/
def clockOnceUptoRow : OpenClaim := { program := "ytnebacomafgjjaa", sum := "3cece2c4e1c1ce9fefed3eb2731ffeb467296910afd02ebeac875baebcac8725", func := "rubato/rubatolaw15.ClockOnce", spec := "clockOnce", unfollowed := true, recurses := true, apart := false, narrowed := true }
def ClockOnceUptoSaid : Prop := clockOnceUptoRow.holds Try.pinned (OpenSpec.upto clockOnceSpec)

/-- 'rubatolaw14.BagChanges', WHERE WHAT IT READS IS OF BULK AT MOST 1048576: true; the input reads as it did. -/
def bagChangesUptoRow : OpenClaim := { program := "ytnebacomafgjjaa", sum := "3cece2c4e1c1ce9fefed3eb2731ffeb467296910afd02ebeac875baebcac8725", func := "rubato/rubatolaw14.BagChanges", spec := "bagChanges", unfollowed := true, recurses := true, apart := false, narrowed := true }
def BagChangesUptoSaid : Prop := bagChangesUptoRow.holds Try.pinned (OpenSpec.upto bagChangesSpec)

/-- 'rubatolaw14.BagTells', WHERE WHAT IT READS IS OF BULK AT MOST 1048576: true; the input reads as it did. -/
def bagTellsUptoRow : OpenClaim := { program := "ytnebacomafgjjaa", sum := "3cece2c4e1c1ce9fefed3eb2731ffeb467296910afd02ebeac875baebcac8725", func := "rubato/rubatolaw14.BagTells", spec := "bagTells", unfollowed := true, recurses := true, apart := false, narrowed := true }
def BagTellsUptoSaid : Prop := bagTellsUptoRow.holds Try.pinned (OpenSpec.upto bagTellsSpec)

/-- 'rubatolaw14.BagMoves', WHERE WHAT IT READS IS OF BULK AT MOST 1048576: true; the input reads as it did. -/
def bagMovesUptoRow : OpenClaim := { program := "ytnebacomafgjjaa", sum := "3cece2c4e1c1ce9fefed3eb2731ffeb467296910afd02ebeac875baebcac8725", func := "rubato/rubatolaw14.BagMoves", spec := "bagMoves", unfollowed := true, recurses := true, apart := false, narrowed := true }
def BagMovesUptoSaid : Prop := bagMovesUptoRow.holds Try.pinned (OpenSpec.upto bagMovesSpec)

/-- 'rubatolaw14.BagCuts', WHERE WHAT IT READS IS OF BULK AT MOST 1048576: true; the input reads as it did. -/
def bagCutsUptoRow : OpenClaim := { program := "ytnebacomafgjjaa", sum := "3cece2c4e1c1ce9fefed3eb2731ffeb467296910afd02ebeac875baebcac8725", func := "rubato/rubatolaw14.BagCuts", spec := "bagCuts", unfollowed := true, recurses := true, apart := false, narrowed := true }
def BagCutsUptoSaid : Prop := bagCutsUptoRow.holds Try.pinned (OpenSpec.upto bagCutsSpec)

end Rows
end Go.Proofs.Ytnebacomafgjjaa
