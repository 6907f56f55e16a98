/-
  No cell of these rows narrows 'for every input' (looked for: loops, veiled, ifaces, maps, wideKeys, modest, calm, conditions, laid).
  DERIVED. THE GIVEN ROWS OF THIS SEAT. 18 by the template 'for every input the law returns true; each argument reads behind the call as it read before'; 0 by the template 'total and deterministic' (their statements: YtlicjlahnbebcaaTotals.lean).
  GIVEN WITH THE SEED: the statements are not yours to turn. If you find one false, say at which input.
  Laid BY PROGRAM, IN A SANDBOX (cutbox-rows.mjs): the forced cells as the released guide's own fill.sh prints them over the translation d33349173bb5a411… (all of the seat's roots in one cut). By AI agents, Wed Nov 11 2026. No macro, syntax, notation, axiom, sorry.
-/
import Derived.Test.YtlicjlahnbebcaaChecked
import GoSem.Claim
import GoSem.ClaimJoined
import GoSem.ClaimMapViews
import Derived.JoinedTies
import Derived.KernelRfl
namespace Go.Proofs.Ytlicjlahnbebcaa
/- THE CELL 'sum', in the pinned program and in every row, IS THE sha256 OF THE DUMP (.gsa) THAT YtlicjlahnbebcaaProg.lean LOADS. Nothing in Lean hashes anything: it is a label: what it is worth is what the hold of that sum in a sandbox is worth. -/
noncomputable def Try.pinned : Pinned := { name := "ytlicjlahnbebcaa", sum := "d33349173bb5a4116a8a2e2beeec267ce751092b2d8359f48d2e4c618fd3db5d", checked := Try.checked }
namespace Rows
def none {H : Type} : Left H := { results := [], args := [] }

/-- 'rubatolaw22.FastMost': WHATEVER THE INPUT: true; the input reads as it did. -/
def fastMostSpec : ChangeSpec := { name := "fastMost", fn := fun _ => fun
  | [d1, d2, d3] => { results := [.lit (.bool true)], args := [d1, d2, d3] }
  | _ => none }
def fastMostRow : OpenClaim := { program := "ytlicjlahnbebcaa", sum := "d33349173bb5a4116a8a2e2beeec267ce751092b2d8359f48d2e4c618fd3db5d", func := "rubato/rubatolaw22.FastMost", spec := "fastMost", unfollowed := true, recurses := true, apart := false }
def FastMostSaid : Prop := fastMostRow.holds Try.pinned (OpenSpec.ofChange fastMostSpec)

/-- ITS FALSE NEIGHBOUR: 'it returns false'. Refute it at one input. -/
def fastMostWrong : ChangeSpec := { name := "fastMost", fn := fun _ => fun
  | [d1, d2, d3] => { results := [.lit (.bool false)], args := [d1, d2, d3] }
  | _ => none }
def FastMostWrongFalsely : Prop := fastMostRow.holds Try.pinned (OpenSpec.ofChange fastMostWrong)

/-- 'rubatolaw01.SizeTells': WHATEVER THE INPUT: true; the input reads as it did. -/
def sizeTellsSpec : ChangeSpec := { name := "sizeTells", fn := fun _ => fun
  | [d1, d2, d3] => { results := [.lit (.bool true)], args := [d1, d2, d3] }
  | _ => none }
def sizeTellsRow : OpenClaim := { program := "ytlicjlahnbebcaa", sum := "d33349173bb5a4116a8a2e2beeec267ce751092b2d8359f48d2e4c618fd3db5d", func := "rubato/rubatolaw01.SizeTells", spec := "sizeTells", unfollowed := true, recurses := true, apart := false }
def SizeTellsSaid : Prop := sizeTellsRow.holds Try.pinned (OpenSpec.ofChange sizeTellsSpec)

/-- ITS FALSE NEIGHBOUR: 'it returns false'. Refute it at one input. -/
def sizeTellsWrong : ChangeSpec := { name := "sizeTells", fn := fun _ => fun
  | [d1, d2, d3] => { results := [.lit (.bool false)], args := [d1, d2, d3] }
  | _ => none }
def SizeTellsWrongFalsely : Prop := sizeTellsRow.holds Try.pinned (OpenSpec.ofChange sizeTellsWrong)

/-- 'rubatolaw01.SizeSets': WHATEVER THE INPUT: true; the input reads as it did. -/
def sizeSetsSpec : ChangeSpec := { name := "sizeSets", fn := fun _ => fun
  | [d1, d2, d3] => { results := [.lit (.bool true)], args := [d1, d2, d3] }
  | _ => none }
def sizeSetsRow : OpenClaim := { program := "ytlicjlahnbebcaa", sum := "d33349173bb5a4116a8a2e2beeec267ce751092b2d8359f48d2e4c618fd3db5d", func := "rubato/rubatolaw01.SizeSets", spec := "sizeSets", unfollowed := true, recurses := true, apart := false }
def SizeSetsSaid : Prop := sizeSetsRow.holds Try.pinned (OpenSpec.ofChange sizeSetsSpec)

/-- ITS FALSE NEIGHBOUR: 'it returns false'. Refute it at one input. -/
def sizeSetsWrong : ChangeSpec := { name := "sizeSets", fn := fun _ => fun
  | [d1, d2, d3] => { results := [.lit (.bool false)], args := [d1, d2, d3] }
  | _ => none }
def SizeSetsWrongFalsely : Prop := sizeSetsRow.holds Try.pinned (OpenSpec.ofChange sizeSetsWrong)

/-- 'rubatolaw01.SizeMeet': WHATEVER THE INPUT: true; the input reads as it did. -/
def sizeMeetSpec : ChangeSpec := { name := "sizeMeet", fn := fun _ => fun
  | [d1, d2, d3] => { results := [.lit (.bool true)], args := [d1, d2, d3] }
  | _ => none }
def sizeMeetRow : OpenClaim := { program := "ytlicjlahnbebcaa", sum := "d33349173bb5a4116a8a2e2beeec267ce751092b2d8359f48d2e4c618fd3db5d", func := "rubato/rubatolaw01.SizeMeet", spec := "sizeMeet", unfollowed := true, recurses := true, apart := false }
def SizeMeetSaid : Prop := sizeMeetRow.holds Try.pinned (OpenSpec.ofChange sizeMeetSpec)

/-- ITS FALSE NEIGHBOUR: 'it returns false'. Refute it at one input. -/
def sizeMeetWrong : ChangeSpec := { name := "sizeMeet", fn := fun _ => fun
  | [d1, d2, d3] => { results := [.lit (.bool false)], args := [d1, d2, d3] }
  | _ => none }
def SizeMeetWrongFalsely : Prop := sizeMeetRow.holds Try.pinned (OpenSpec.ofChange sizeMeetWrong)

/-- 'rubatolaw01.SizeRing': WHATEVER THE INPUT: true; the input reads as it did. -/
def sizeRingSpec : ChangeSpec := { name := "sizeRing", fn := fun _ => fun
  | [d1, d2, d3] => { results := [.lit (.bool true)], args := [d1, d2, d3] }
  | _ => none }
def sizeRingRow : OpenClaim := { program := "ytlicjlahnbebcaa", sum := "d33349173bb5a4116a8a2e2beeec267ce751092b2d8359f48d2e4c618fd3db5d", func := "rubato/rubatolaw01.SizeRing", spec := "sizeRing", unfollowed := true, recurses := true, apart := false }
def SizeRingSaid : Prop := sizeRingRow.holds Try.pinned (OpenSpec.ofChange sizeRingSpec)

/-- ITS FALSE NEIGHBOUR: 'it returns false'. Refute it at one input. -/
def sizeRingWrong : ChangeSpec := { name := "sizeRing", fn := fun _ => fun
  | [d1, d2, d3] => { results := [.lit (.bool false)], args := [d1, d2, d3] }
  | _ => none }
def SizeRingWrongFalsely : Prop := sizeRingRow.holds Try.pinned (OpenSpec.ofChange sizeRingWrong)

/-- 'rubatolaw22.FastTold': WHATEVER THE INPUT: true; the input reads as it did. -/
def fastToldSpec : ChangeSpec := { name := "fastTold", fn := fun _ => fun
  | [d1, d2, d3] => { results := [.lit (.bool true)], args := [d1, d2, d3] }
  | _ => none }
def fastToldRow : OpenClaim := { program := "ytlicjlahnbebcaa", sum := "d33349173bb5a4116a8a2e2beeec267ce751092b2d8359f48d2e4c618fd3db5d", func := "rubato/rubatolaw22.FastTold", spec := "fastTold", unfollowed := true, recurses := true, apart := false }
def FastToldSaid : Prop := fastToldRow.holds Try.pinned (OpenSpec.ofChange fastToldSpec)

/-- ITS FALSE NEIGHBOUR: 'it returns false'. Refute it at one input. -/
def fastToldWrong : ChangeSpec := { name := "fastTold", fn := fun _ => fun
  | [d1, d2, d3] => { results := [.lit (.bool false)], args := [d1, d2, d3] }
  | _ => none }
def FastToldWrongFalsely : Prop := fastToldRow.holds Try.pinned (OpenSpec.ofChange fastToldWrong)

/-- 'rubatolaw24.RescueAgain': WHATEVER THE INPUT: true; the input reads as it did. -/
def rescueAgainSpec : ChangeSpec := { name := "rescueAgain", fn := fun _ => fun
  | [d1, d2] => { results := [.lit (.bool true)], args := [d1, d2] }
  | _ => none }
def rescueAgainRow : OpenClaim := { program := "ytlicjlahnbebcaa", sum := "d33349173bb5a4116a8a2e2beeec267ce751092b2d8359f48d2e4c618fd3db5d", func := "rubato/rubatolaw24.RescueAgain", spec := "rescueAgain", unfollowed := true, recurses := true, apart := false }
def RescueAgainSaid : Prop := rescueAgainRow.holds Try.pinned (OpenSpec.ofChange rescueAgainSpec)

/-- ITS FALSE NEIGHBOUR: 'it returns false'. Refute it at one input. -/
def rescueAgainWrong : ChangeSpec := { name := "rescueAgain", fn := fun _ => fun
  | [d1, d2] => { results := [.lit (.bool false)], args := [d1, d2] }
  | _ => none }
def RescueAgainWrongFalsely : Prop := rescueAgainRow.holds Try.pinned (OpenSpec.ofChange rescueAgainWrong)

/-- 'rubatolaw18.SweepTells': WHATEVER THE INPUT: true; the input reads as it did. -/
def sweepTellsSpec : ChangeSpec := { name := "sweepTells", fn := fun _ => fun
  | [d1, d2, d3] => { results := [.lit (.bool true)], args := [d1, d2, d3] }
  | _ => none }
def sweepTellsRow : OpenClaim := { program := "ytlicjlahnbebcaa", sum := "d33349173bb5a4116a8a2e2beeec267ce751092b2d8359f48d2e4c618fd3db5d", func := "rubato/rubatolaw18.SweepTells", spec := "sweepTells", unfollowed := true, recurses := true, apart := false }
def SweepTellsSaid : Prop := sweepTellsRow.holds Try.pinned (OpenSpec.ofChange sweepTellsSpec)

/-- ITS FALSE NEIGHBOUR: 'it returns false'. Refute it at one input. -/
def sweepTellsWrong : ChangeSpec := { name := "sweepTells", fn := fun _ => fun
  | [d1, d2, d3] => { results := [.lit (.bool false)], args := [d1, d2, d3] }
  | _ => none }
def SweepTellsWrongFalsely : Prop := sweepTellsRow.holds Try.pinned (OpenSpec.ofChange sweepTellsWrong)

/-- 'rubatolaw18.SweepFloor': WHATEVER THE INPUT: true; the input reads as it did. -/
def sweepFloorSpec : ChangeSpec := { name := "sweepFloor", fn := fun _ => fun
  | [d1, d2, d3] => { results := [.lit (.bool true)], args := [d1, d2, d3] }
  | _ => none }
def sweepFloorRow : OpenClaim := { program := "ytlicjlahnbebcaa", sum := "d33349173bb5a4116a8a2e2beeec267ce751092b2d8359f48d2e4c618fd3db5d", func := "rubato/rubatolaw18.SweepFloor", spec := "sweepFloor", unfollowed := true, recurses := true, apart := false }
def SweepFloorSaid : Prop := sweepFloorRow.holds Try.pinned (OpenSpec.ofChange sweepFloorSpec)

/-- ITS FALSE NEIGHBOUR: 'it returns false'. Refute it at one input. -/
def sweepFloorWrong : ChangeSpec := { name := "sweepFloor", fn := fun _ => fun
  | [d1, d2, d3] => { results := [.lit (.bool false)], args := [d1, d2, d3] }
  | _ => none }
def SweepFloorWrongFalsely : Prop := sweepFloorRow.holds Try.pinned (OpenSpec.ofChange sweepFloorWrong)

/-- 'rubatolaw18.SweepRises': WHATEVER THE INPUT: true; the input reads as it did. -/
def sweepRisesSpec : ChangeSpec := { name := "sweepRises", fn := fun _ => fun
  | [d1, d2, d3] => { results := [.lit (.bool true)], args := [d1, d2, d3] }
  | _ => none }
def sweepRisesRow : OpenClaim := { program := "ytlicjlahnbebcaa", sum := "d33349173bb5a4116a8a2e2beeec267ce751092b2d8359f48d2e4c618fd3db5d", func := "rubato/rubatolaw18.SweepRises", spec := "sweepRises", unfollowed := true, recurses := true, apart := false }
def SweepRisesSaid : Prop := sweepRisesRow.holds Try.pinned (OpenSpec.ofChange sweepRisesSpec)

/-- ITS FALSE NEIGHBOUR: 'it returns false'. Refute it at one input. -/
def sweepRisesWrong : ChangeSpec := { name := "sweepRises", fn := fun _ => fun
  | [d1, d2, d3] => { results := [.lit (.bool false)], args := [d1, d2, d3] }
  | _ => none }
def SweepRisesWrongFalsely : Prop := sweepRisesRow.holds Try.pinned (OpenSpec.ofChange sweepRisesWrong)

/-- 'rubatolaw20.EntryTells': WHATEVER THE INPUT: true; the input reads as it did. -/
def entryTellsSpec : ChangeSpec := { name := "entryTells", fn := fun _ => fun
  | [d1, d2] => { results := [.lit (.bool true)], args := [d1, d2] }
  | _ => none }
def entryTellsRow : OpenClaim := { program := "ytlicjlahnbebcaa", sum := "d33349173bb5a4116a8a2e2beeec267ce751092b2d8359f48d2e4c618fd3db5d", func := "rubato/rubatolaw20.EntryTells", spec := "entryTells", unfollowed := true, recurses := true, apart := false }
def EntryTellsSaid : Prop := entryTellsRow.holds Try.pinned (OpenSpec.ofChange entryTellsSpec)

/-- ITS FALSE NEIGHBOUR: 'it returns false'. Refute it at one input. -/
def entryTellsWrong : ChangeSpec := { name := "entryTells", fn := fun _ => fun
  | [d1, d2] => { results := [.lit (.bool false)], args := [d1, d2] }
  | _ => none }
def EntryTellsWrongFalsely : Prop := entryTellsRow.holds Try.pinned (OpenSpec.ofChange entryTellsWrong)

/-- 'rubatolaw20.EntrySame': WHATEVER THE INPUT: true; the input reads as it did. -/
def entrySameSpec : ChangeSpec := { name := "entrySame", fn := fun _ => fun
  | [d1, d2] => { results := [.lit (.bool true)], args := [d1, d2] }
  | _ => none }
def entrySameRow : OpenClaim := { program := "ytlicjlahnbebcaa", sum := "d33349173bb5a4116a8a2e2beeec267ce751092b2d8359f48d2e4c618fd3db5d", func := "rubato/rubatolaw20.EntrySame", spec := "entrySame", unfollowed := true, recurses := true, apart := false }
def EntrySameSaid : Prop := entrySameRow.holds Try.pinned (OpenSpec.ofChange entrySameSpec)

/-- ITS FALSE NEIGHBOUR: 'it returns false'. Refute it at one input. -/
def entrySameWrong : ChangeSpec := { name := "entrySame", fn := fun _ => fun
  | [d1, d2] => { results := [.lit (.bool false)], args := [d1, d2] }
  | _ => none }
def EntrySameWrongFalsely : Prop := entrySameRow.holds Try.pinned (OpenSpec.ofChange entrySameWrong)

/-- 'rubatolaw20.EntryAcks': WHATEVER THE INPUT: true; the input reads as it did. -/
def entryAcksSpec : ChangeSpec := { name := "entryAcks", fn := fun _ => fun
  | [d1, d2, d3] => { results := [.lit (.bool true)], args := [d1, d2, d3] }
  | _ => none }
def entryAcksRow : OpenClaim := { program := "ytlicjlahnbebcaa", sum := "d33349173bb5a4116a8a2e2beeec267ce751092b2d8359f48d2e4c618fd3db5d", func := "rubato/rubatolaw20.EntryAcks", spec := "entryAcks", unfollowed := true, recurses := true, apart := false }
def EntryAcksSaid : Prop := entryAcksRow.holds Try.pinned (OpenSpec.ofChange entryAcksSpec)

/-- ITS FALSE NEIGHBOUR: 'it returns false'. Refute it at one input. -/
def entryAcksWrong : ChangeSpec := { name := "entryAcks", fn := fun _ => fun
  | [d1, d2, d3] => { results := [.lit (.bool false)], args := [d1, d2, d3] }
  | _ => none }
def EntryAcksWrongFalsely : Prop := entryAcksRow.holds Try.pinned (OpenSpec.ofChange entryAcksWrong)

/-- 'rubatolaw20.EntryKeeps': WHATEVER THE INPUT: true; the input reads as it did. -/
def entryKeepsSpec : ChangeSpec := { name := "entryKeeps", fn := fun _ => fun
  | [d1, d2] => { results := [.lit (.bool true)], args := [d1, d2] }
  | _ => none }
def entryKeepsRow : OpenClaim := { program := "ytlicjlahnbebcaa", sum := "d33349173bb5a4116a8a2e2beeec267ce751092b2d8359f48d2e4c618fd3db5d", func := "rubato/rubatolaw20.EntryKeeps", spec := "entryKeeps", unfollowed := true, recurses := true, apart := false }
def EntryKeepsSaid : Prop := entryKeepsRow.holds Try.pinned (OpenSpec.ofChange entryKeepsSpec)

/-- ITS FALSE NEIGHBOUR: 'it returns false'. Refute it at one input. -/
def entryKeepsWrong : ChangeSpec := { name := "entryKeeps", fn := fun _ => fun
  | [d1, d2] => { results := [.lit (.bool false)], args := [d1, d2] }
  | _ => none }
def EntryKeepsWrongFalsely : Prop := entryKeepsRow.holds Try.pinned (OpenSpec.ofChange entryKeepsWrong)

/-- 'rubatolaw24.RescueMost': WHATEVER THE INPUT: true; the input reads as it did. -/
def rescueMostSpec : ChangeSpec := { name := "rescueMost", fn := fun _ => fun
  | [d1, d2] => { results := [.lit (.bool true)], args := [d1, d2] }
  | _ => none }
def rescueMostRow : OpenClaim := { program := "ytlicjlahnbebcaa", sum := "d33349173bb5a4116a8a2e2beeec267ce751092b2d8359f48d2e4c618fd3db5d", func := "rubato/rubatolaw24.RescueMost", spec := "rescueMost", unfollowed := true, recurses := true, apart := false }
def RescueMostSaid : Prop := rescueMostRow.holds Try.pinned (OpenSpec.ofChange rescueMostSpec)

/-- ITS FALSE NEIGHBOUR: 'it returns false'. Refute it at one input. -/
def rescueMostWrong : ChangeSpec := { name := "rescueMost", fn := fun _ => fun
  | [d1, d2] => { results := [.lit (.bool false)], args := [d1, d2] }
  | _ => none }
def RescueMostWrongFalsely : Prop := rescueMostRow.holds Try.pinned (OpenSpec.ofChange rescueMostWrong)

/-- 'rubatolaw24.RescueFast': WHATEVER THE INPUT: true; the input reads as it did. -/
def rescueFastSpec : ChangeSpec := { name := "rescueFast", fn := fun _ => fun
  | [d] => { results := [.lit (.bool true)], args := [d] }
  | _ => none }
def rescueFastRow : OpenClaim := { program := "ytlicjlahnbebcaa", sum := "d33349173bb5a4116a8a2e2beeec267ce751092b2d8359f48d2e4c618fd3db5d", func := "rubato/rubatolaw24.RescueFast", spec := "rescueFast", unfollowed := true, recurses := true, apart := false }
def RescueFastSaid : Prop := rescueFastRow.holds Try.pinned (OpenSpec.ofChange rescueFastSpec)

/-- ITS FALSE NEIGHBOUR: 'it returns false'. Refute it at one input. -/
def rescueFastWrong : ChangeSpec := { name := "rescueFast", fn := fun _ => fun
  | [d] => { results := [.lit (.bool false)], args := [d] }
  | _ => none }
def RescueFastWrongFalsely : Prop := rescueFastRow.holds Try.pinned (OpenSpec.ofChange rescueFastWrong)

/-- 'rubatolaw23.VoteBack': WHATEVER THE INPUT: true; the input reads as it did. -/
def voteBackSpec : ChangeSpec := { name := "voteBack", fn := fun _ => fun
  | [d1, d2] => { results := [.lit (.bool true)], args := [d1, d2] }
  | _ => none }
def voteBackRow : OpenClaim := { program := "ytlicjlahnbebcaa", sum := "d33349173bb5a4116a8a2e2beeec267ce751092b2d8359f48d2e4c618fd3db5d", func := "rubato/rubatolaw23.VoteBack", spec := "voteBack", unfollowed := true, recurses := true, apart := false }
def VoteBackSaid : Prop := voteBackRow.holds Try.pinned (OpenSpec.ofChange voteBackSpec)

/-- ITS FALSE NEIGHBOUR: 'it returns false'. Refute it at one input. -/
def voteBackWrong : ChangeSpec := { name := "voteBack", fn := fun _ => fun
  | [d1, d2] => { results := [.lit (.bool false)], args := [d1, d2] }
  | _ => none }
def VoteBackWrongFalsely : Prop := voteBackRow.holds Try.pinned (OpenSpec.ofChange voteBackWrong)

/-- 'rubatolaw23.VoteOnce': WHATEVER THE INPUT: true; the input reads as it did. -/
def voteOnceSpec : ChangeSpec := { name := "voteOnce", fn := fun _ => fun
  | [d] => { results := [.lit (.bool true)], args := [d] }
  | _ => none }
def voteOnceRow : OpenClaim := { program := "ytlicjlahnbebcaa", sum := "d33349173bb5a4116a8a2e2beeec267ce751092b2d8359f48d2e4c618fd3db5d", func := "rubato/rubatolaw23.VoteOnce", spec := "voteOnce", unfollowed := true, recurses := true, apart := false }
def VoteOnceSaid : Prop := voteOnceRow.holds Try.pinned (OpenSpec.ofChange voteOnceSpec)

/-- ITS FALSE NEIGHBOUR: 'it returns false'. Refute it at one input. -/
def voteOnceWrong : ChangeSpec := { name := "voteOnce", fn := fun _ => fun
  | [d] => { results := [.lit (.bool false)], args := [d] }
  | _ => none }
def VoteOnceWrongFalsely : Prop := voteOnceRow.holds Try.pinned (OpenSpec.ofChange voteOnceWrong)

/- THE SECOND FORM. 'bulk': how many values and letters a reading holds, each counted each time it is reached (what is shared counts as often as it is met; a slice's spare places count too). A statement '..UptoSaid' is the law's where the arguments, and the package variables that the reading takes, are together of bulk at most 1048576: NARROWER than '..Said'. Prove '..Said' where nothing that the law and all that it calls make is longer than what came in: it says more and counts as full. Else prove '..UptoSaid'. A law counts once. -/
mutual
def uptoBulk {H : Type} : DataW H → Nat
  | .lit (.string bytes) => bytes.length + 1
  | .lit _ => 1
  | .nil => 1
  | .ptr d => uptoBulk d + 1
  | .slice elems spare => uptoBulkAll elems + uptoBulkAll spare + 1
  | .agg parts => uptoBulkAll parts + 1
  | .iface _ d => uptoBulk d + 1
  | .map entries => uptoBulkEntries entries + 1
  | .held _ => 1
def uptoBulkAll {H : Type} : List (DataW H) → Nat
  | [] => 0
  | d :: r => uptoBulk d + uptoBulkAll r
def uptoBulkEntries {H : Type} : List (Lit × DataW H) → Nat
  | [] => 0
  | x :: r => uptoBulkEntry x + uptoBulkEntries r
def uptoBulkEntry {H : Type} : Lit × DataW H → Nat
  | (.string bytes, d) => bytes.length + uptoBulk d + 1
  | (_, d) => uptoBulk d + 1
 end
def uptoSmall : (H : Type) → List (DataW H) → Bool := fun _ ds => decide (uptoBulkAll ds ≤ 1048576)
def OpenSpec.upto (s : _root_.Go.ChangeSpec) : _root_.Go.OpenSpec := { _root_.Go.OpenSpec.ofChange s with cond := some uptoSmall }

/-- 'rubatolaw22.FastMost', WHERE WHAT IT READS IS OF BULK AT MOST 1048576: true; the input reads as it did. -/
def fastMostUptoRow : OpenClaim := { program := "ytlicjlahnbebcaa", sum := "d33349173bb5a4116a8a2e2beeec267ce751092b2d8359f48d2e4c618fd3db5d", func := "rubato/rubatolaw22.FastMost", spec := "fastMost", unfollowed := true, recurses := true, apart := false, narrowed := true }
def FastMostUptoSaid : Prop := fastMostUptoRow.holds Try.pinned (OpenSpec.upto fastMostSpec)

/-- 'rubatolaw01.SizeTells', WHERE WHAT IT READS IS OF BULK AT MOST 1048576: true; the input reads as it did. -/
def sizeTellsUptoRow : OpenClaim := { program := "ytlicjlahnbebcaa", sum := "d33349173bb5a4116a8a2e2beeec267ce751092b2d8359f48d2e4c618fd3db5d", func := "rubato/rubatolaw01.SizeTells", spec := "sizeTells", unfollowed := true, recurses := true, apart := false, narrowed := true }
def SizeTellsUptoSaid : Prop := sizeTellsUptoRow.holds Try.pinned (OpenSpec.upto sizeTellsSpec)

/-- 'rubatolaw01.SizeSets', WHERE WHAT IT READS IS OF BULK AT MOST 1048576: true; the input reads as it did. -/
def sizeSetsUptoRow : OpenClaim := { program := "ytlicjlahnbebcaa", sum := "d33349173bb5a4116a8a2e2beeec267ce751092b2d8359f48d2e4c618fd3db5d", func := "rubato/rubatolaw01.SizeSets", spec := "sizeSets", unfollowed := true, recurses := true, apart := false, narrowed := true }
def SizeSetsUptoSaid : Prop := sizeSetsUptoRow.holds Try.pinned (OpenSpec.upto sizeSetsSpec)

/-- 'rubatolaw01.SizeMeet', WHERE WHAT IT READS IS OF BULK AT MOST 1048576: true; the input reads as it did. -/
def sizeMeetUptoRow : OpenClaim := { program := "ytlicjlahnbebcaa", sum := "d33349173bb5a4116a8a2e2beeec267ce751092b2d8359f48d2e4c618fd3db5d", func := "rubato/rubatolaw01.SizeMeet", spec := "sizeMeet", unfollowed := true, recurses := true, apart := false, narrowed := true }
def SizeMeetUptoSaid : Prop := sizeMeetUptoRow.holds Try.pinned (OpenSpec.upto sizeMeetSpec)

/-- 'rubatolaw01.SizeRing', WHERE WHAT IT READS IS OF BULK AT MOST 1048576: true; the input reads as it did. -/
def sizeRingUptoRow : OpenClaim := { program := "ytlicjlahnbebcaa", sum := "d33349173bb5a4116a8a2e2beeec267ce751092b2d8359f48d2e4c618fd3db5d", func := "rubato/rubatolaw01.SizeRing", spec := "sizeRing", unfollowed := true, recurses := true, apart := false, narrowed := true }
def SizeRingUptoSaid : Prop := sizeRingUptoRow.holds Try.pinned (OpenSpec.upto sizeRingSpec)

/-- 'rubatolaw22.FastTold', WHERE WHAT IT READS IS OF BULK AT MOST 1048576: true; the input reads as it did. -/
def fastToldUptoRow : OpenClaim := { program := "ytlicjlahnbebcaa", sum := "d33349173bb5a4116a8a2e2beeec267ce751092b2d8359f48d2e4c618fd3db5d", func := "rubato/rubatolaw22.FastTold", spec := "fastTold", unfollowed := true, recurses := true, apart := false, narrowed := true }
def FastToldUptoSaid : Prop := fastToldUptoRow.holds Try.pinned (OpenSpec.upto fastToldSpec)

/-- 'rubatolaw24.RescueAgain', WHERE WHAT IT READS IS OF BULK AT MOST 1048576: true; the input reads as it did. -/
def rescueAgainUptoRow : OpenClaim := { program := "ytlicjlahnbebcaa", sum := "d33349173bb5a4116a8a2e2beeec267ce751092b2d8359f48d2e4c618fd3db5d", func := "rubato/rubatolaw24.RescueAgain", spec := "rescueAgain", unfollowed := true, recurses := true, apart := false, narrowed := true }
def RescueAgainUptoSaid : Prop := rescueAgainUptoRow.holds Try.pinned (OpenSpec.upto rescueAgainSpec)

/-- 'rubatolaw18.SweepTells', WHERE WHAT IT READS IS OF BULK AT MOST 1048576: true; the input reads as it did. -/
def sweepTellsUptoRow : OpenClaim := { program := "ytlicjlahnbebcaa", sum := "d33349173bb5a4116a8a2e2beeec267ce751092b2d8359f48d2e4c618fd3db5d", func := "rubato/rubatolaw18.SweepTells", spec := "sweepTells", unfollowed := true, recurses := true, apart := false, narrowed := true }
def SweepTellsUptoSaid : Prop := sweepTellsUptoRow.holds Try.pinned (OpenSpec.upto sweepTellsSpec)

/-- 'rubatolaw18.SweepFloor', WHERE WHAT IT READS IS OF BULK AT MOST 1048576: true; the input reads as it did. -/
def sweepFloorUptoRow : OpenClaim := { program := "ytlicjlahnbebcaa", sum := "d33349173bb5a4116a8a2e2beeec267ce751092b2d8359f48d2e4c618fd3db5d", func := "rubato/rubatolaw18.SweepFloor", spec := "sweepFloor", unfollowed := true, recurses := true, apart := false, narrowed := true }
def SweepFloorUptoSaid : Prop := sweepFloorUptoRow.holds Try.pinned (OpenSpec.upto sweepFloorSpec)

/-- 'rubatolaw18.SweepRises', WHERE WHAT IT READS IS OF BULK AT MOST 1048576: true; the input reads as it did. -/
def sweepRisesUptoRow : OpenClaim := { program := "ytlicjlahnbebcaa", sum := "d33349173bb5a4116a8a2e2beeec267ce751092b2d8359f48d2e4c618fd3db5d", func := "rubato/rubatolaw18.SweepRises", spec := "sweepRises", unfollowed := true, recurses := true, apart := false, narrowed := true }
def SweepRisesUptoSaid : Prop := sweepRisesUptoRow.holds Try.pinned (OpenSpec.upto sweepRisesSpec)

/-- 'rubatolaw20.EntryTells', WHERE WHAT IT READS IS OF BULK AT MOST 1048576: true; the input reads as it did. -/
def entryTellsUptoRow : OpenClaim := { program := "ytlicjlahnbebcaa", sum := "d33349173bb5a4116a8a2e2beeec267ce751092b2d8359f48d2e4c618fd3db5d", func := "rubato/rubatolaw20.EntryTells", spec := "entryTells", unfollowed := true, recurses := true, apart := false, narrowed := true }
def EntryTellsUptoSaid : Prop := entryTellsUptoRow.holds Try.pinned (OpenSpec.upto entryTellsSpec)

/-- 'rubatolaw20.EntrySame', WHERE WHAT IT READS IS OF BULK AT MOST 1048576: true; the input reads as it did. -/
def entrySameUptoRow : OpenClaim := { program := "ytlicjlahnbebcaa", sum := "d33349173bb5a4116a8a2e2beeec267ce751092b2d8359f48d2e4c618fd3db5d", func := "rubato/rubatolaw20.EntrySame", spec := "entrySame", unfollowed := true, recurses := true, apart := false, narrowed := true }
def EntrySameUptoSaid : Prop := entrySameUptoRow.holds Try.pinned (OpenSpec.upto entrySameSpec)

/-- 'rubatolaw20.EntryAcks', WHERE WHAT IT READS IS OF BULK AT MOST 1048576: true; the input reads as it did. -/
def entryAcksUptoRow : OpenClaim := { program := "ytlicjlahnbebcaa", sum := "d33349173bb5a4116a8a2e2beeec267ce751092b2d8359f48d2e4c618fd3db5d", func := "rubato/rubatolaw20.EntryAcks", spec := "entryAcks", unfollowed := true, recurses := true, apart := false, narrowed := true }
def EntryAcksUptoSaid : Prop := entryAcksUptoRow.holds Try.pinned (OpenSpec.upto entryAcksSpec)

/-- 'rubatolaw20.EntryKeeps', WHERE WHAT IT READS IS OF BULK AT MOST 1048576: true; the input reads as it did. -/
def entryKeepsUptoRow : OpenClaim := { program := "ytlicjlahnbebcaa", sum := "d33349173bb5a4116a8a2e2beeec267ce751092b2d8359f48d2e4c618fd3db5d", func := "rubato/rubatolaw20.EntryKeeps", spec := "entryKeeps", unfollowed := true, recurses := true, apart := false, narrowed := true }
def EntryKeepsUptoSaid : Prop := entryKeepsUptoRow.holds Try.pinned (OpenSpec.upto entryKeepsSpec)

/-- 'rubatolaw24.RescueMost', WHERE WHAT IT READS IS OF BULK AT MOST 1048576: true; the input reads as it did. -/
def rescueMostUptoRow : OpenClaim := { program := "ytlicjlahnbebcaa", sum := "d33349173bb5a4116a8a2e2beeec267ce751092b2d8359f48d2e4c618fd3db5d", func := "rubato/rubatolaw24.RescueMost", spec := "rescueMost", unfollowed := true, recurses := true, apart := false, narrowed := true }
def RescueMostUptoSaid : Prop := rescueMostUptoRow.holds Try.pinned (OpenSpec.upto rescueMostSpec)

/-- 'rubatolaw24.RescueFast', WHERE WHAT IT READS IS OF BULK AT MOST 1048576: true; the input reads as it did. -/
def rescueFastUptoRow : OpenClaim := { program := "ytlicjlahnbebcaa", sum := "d33349173bb5a4116a8a2e2beeec267ce751092b2d8359f48d2e4c618fd3db5d", func := "rubato/rubatolaw24.RescueFast", spec := "rescueFast", unfollowed := true, recurses := true, apart := false, narrowed := true }
def RescueFastUptoSaid : Prop := rescueFastUptoRow.holds Try.pinned (OpenSpec.upto rescueFastSpec)

/-- 'rubatolaw23.VoteBack', WHERE WHAT IT READS IS OF BULK AT MOST 1048576: true; the input reads as it did. -/
def voteBackUptoRow : OpenClaim := { program := "ytlicjlahnbebcaa", sum := "d33349173bb5a4116a8a2e2beeec267ce751092b2d8359f48d2e4c618fd3db5d", func := "rubato/rubatolaw23.VoteBack", spec := "voteBack", unfollowed := true, recurses := true, apart := false, narrowed := true }
def VoteBackUptoSaid : Prop := voteBackUptoRow.holds Try.pinned (OpenSpec.upto voteBackSpec)

/-- 'rubatolaw23.VoteOnce', WHERE WHAT IT READS IS OF BULK AT MOST 1048576: true; the input reads as it did. -/
def voteOnceUptoRow : OpenClaim := { program := "ytlicjlahnbebcaa", sum := "d33349173bb5a4116a8a2e2beeec267ce751092b2d8359f48d2e4c618fd3db5d", func := "rubato/rubatolaw23.VoteOnce", spec := "voteOnce", unfollowed := true, recurses := true, apart := false, narrowed := true }
def VoteOnceUptoSaid : Prop := voteOnceUptoRow.holds Try.pinned (OpenSpec.upto voteOnceSpec)

end Rows
end Go.Proofs.Ytlicjlahnbebcaa
