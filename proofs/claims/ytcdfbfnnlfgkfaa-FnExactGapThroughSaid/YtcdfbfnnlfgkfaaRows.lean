/-
  No cell of these rows narrows 'for every input' (looked for: loops, veiled, ifaces, maps, wideKeys, modest, calm, conditions, laid).
  DERIVED. THE GIVEN ROWS OF THIS SEAT. 12 by the template 'for every input the law returns true; each argument reads behind the call as it read before'; 0 by the template 'total and deterministic' (their statements: YtcdfbfnnlfgkfaaTotals.lean).
  GIVEN WITH THE SEED: the statements are not yours to turn. If you find one false, say at which input.
  Laid BY PROGRAM, IN A SANDBOX (cutbox-rows.mjs): the forced cells as the released guide's own fill.sh prints them over the translation cc509ebd7a8f52a6… (all of the seat's roots in one cut). By AI agents, Wed Nov 11 2026. No macro, syntax, notation, axiom, sorry.
-/
import Derived.Test.YtcdfbfnnlfgkfaaChecked
import GoSem.Claim
import GoSem.ClaimJoined
import GoSem.ClaimMapViews
import Derived.JoinedTies
import Derived.KernelRfl
namespace Go.Proofs.Ytcdfbfnnlfgkfaa
/- THE CELL 'sum', in the pinned program and in every row, IS THE sha256 OF THE DUMP (.gsa) THAT YtcdfbfnnlfgkfaaProg.lean LOADS. Nothing in Lean hashes anything: it is a label: what it is worth is what the hold of that sum in a sandbox is worth. -/
noncomputable def Try.pinned : Pinned := { name := "ytcdfbfnnlfgkfaa", sum := "cc509ebd7a8f52a6f8a603fb1f9aca8e641193b1979284eb201f61c0fed9d33e", checked := Try.checked }
namespace Rows
def none {H : Type} : Left H := { results := [], args := [] }

/-- 'laws.FnExactDensityWindows': WHATEVER THE INPUT: true; the input reads as it did. -/
def fnExactDensityWindowsSpec : ChangeSpec := { name := "fnExactDensityWindows", fn := fun _ => fun
  | [d] => { results := [.lit (.bool true)], args := [d] }
  | _ => none }
def fnExactDensityWindowsRow : OpenClaim := { program := "ytcdfbfnnlfgkfaa", sum := "cc509ebd7a8f52a6f8a603fb1f9aca8e641193b1979284eb201f61c0fed9d33e", func := "loop.example/g00890/laws.FnExactDensityWindows", spec := "fnExactDensityWindows", apart := false }
def FnExactDensityWindowsSaid : Prop := fnExactDensityWindowsRow.holds Try.pinned (OpenSpec.ofChange fnExactDensityWindowsSpec)

/-- ITS FALSE NEIGHBOUR: 'it returns false'. Refute it at one input. -/
def fnExactDensityWindowsWrong : ChangeSpec := { name := "fnExactDensityWindows", fn := fun _ => fun
  | [d] => { results := [.lit (.bool false)], args := [d] }
  | _ => none }
def FnExactDensityWindowsWrongFalsely : Prop := fnExactDensityWindowsRow.holds Try.pinned (OpenSpec.ofChange fnExactDensityWindowsWrong)

/-- 'laws.FnExactCoveredCells': WHATEVER THE INPUT: true; the input reads as it did. -/
def fnExactCoveredCellsSpec : ChangeSpec := { name := "fnExactCoveredCells", fn := fun _ => fun
  | [d1, d2] => { results := [.lit (.bool true)], args := [d1, d2] }
  | _ => none }
def fnExactCoveredCellsRow : OpenClaim := { program := "ytcdfbfnnlfgkfaa", sum := "cc509ebd7a8f52a6f8a603fb1f9aca8e641193b1979284eb201f61c0fed9d33e", func := "loop.example/g00890/laws.FnExactCoveredCells", spec := "fnExactCoveredCells", apart := false }
def FnExactCoveredCellsSaid : Prop := fnExactCoveredCellsRow.holds Try.pinned (OpenSpec.ofChange fnExactCoveredCellsSpec)

/-- ITS FALSE NEIGHBOUR: 'it returns false'. Refute it at one input. -/
def fnExactCoveredCellsWrong : ChangeSpec := { name := "fnExactCoveredCells", fn := fun _ => fun
  | [d1, d2] => { results := [.lit (.bool false)], args := [d1, d2] }
  | _ => none }
def FnExactCoveredCellsWrongFalsely : Prop := fnExactCoveredCellsRow.holds Try.pinned (OpenSpec.ofChange fnExactCoveredCellsWrong)

/-- 'laws.FnExactRunThrough': WHATEVER THE INPUT: true; the input reads as it did. -/
def fnExactRunThroughSpec : ChangeSpec := { name := "fnExactRunThrough", fn := fun _ => fun
  | [d1, d2, d3] => { results := [.lit (.bool true)], args := [d1, d2, d3] }
  | _ => none }
def fnExactRunThroughRow : OpenClaim := { program := "ytcdfbfnnlfgkfaa", sum := "cc509ebd7a8f52a6f8a603fb1f9aca8e641193b1979284eb201f61c0fed9d33e", func := "loop.example/g00890/laws.FnExactRunThrough", spec := "fnExactRunThrough", unfollowed := true, recurses := true, apart := false }
def FnExactRunThroughSaid : Prop := fnExactRunThroughRow.holds Try.pinned (OpenSpec.ofChange fnExactRunThroughSpec)

/-- ITS FALSE NEIGHBOUR: 'it returns false'. Refute it at one input. -/
def fnExactRunThroughWrong : ChangeSpec := { name := "fnExactRunThrough", fn := fun _ => fun
  | [d1, d2, d3] => { results := [.lit (.bool false)], args := [d1, d2, d3] }
  | _ => none }
def FnExactRunThroughWrongFalsely : Prop := fnExactRunThroughRow.holds Try.pinned (OpenSpec.ofChange fnExactRunThroughWrong)

/-- 'laws.FnExactEnclosureMargin': WHATEVER THE INPUT: true; the input reads as it did. -/
def fnExactEnclosureMarginSpec : ChangeSpec := { name := "fnExactEnclosureMargin", fn := fun _ => fun
  | [d1, d2] => { results := [.lit (.bool true)], args := [d1, d2] }
  | _ => none }
def fnExactEnclosureMarginRow : OpenClaim := { program := "ytcdfbfnnlfgkfaa", sum := "cc509ebd7a8f52a6f8a603fb1f9aca8e641193b1979284eb201f61c0fed9d33e", func := "loop.example/g00890/laws.FnExactEnclosureMargin", spec := "fnExactEnclosureMargin", unfollowed := true, recurses := true, apart := false }
def FnExactEnclosureMarginSaid : Prop := fnExactEnclosureMarginRow.holds Try.pinned (OpenSpec.ofChange fnExactEnclosureMarginSpec)

/-- ITS FALSE NEIGHBOUR: 'it returns false'. Refute it at one input. -/
def fnExactEnclosureMarginWrong : ChangeSpec := { name := "fnExactEnclosureMargin", fn := fun _ => fun
  | [d1, d2] => { results := [.lit (.bool false)], args := [d1, d2] }
  | _ => none }
def FnExactEnclosureMarginWrongFalsely : Prop := fnExactEnclosureMarginRow.holds Try.pinned (OpenSpec.ofChange fnExactEnclosureMarginWrong)

/-- 'laws.FnExactGapThrough': WHATEVER THE INPUT: true; the input reads as it did. -/
def fnExactGapThroughSpec : ChangeSpec := { name := "fnExactGapThrough", fn := fun _ => fun
  | [d1, d2, d3] => { results := [.lit (.bool true)], args := [d1, d2, d3] }
  | _ => none }
def fnExactGapThroughRow : OpenClaim := { program := "ytcdfbfnnlfgkfaa", sum := "cc509ebd7a8f52a6f8a603fb1f9aca8e641193b1979284eb201f61c0fed9d33e", func := "loop.example/g00890/laws.FnExactGapThrough", spec := "fnExactGapThrough", apart := false }
def FnExactGapThroughSaid : Prop := fnExactGapThroughRow.holds Try.pinned (OpenSpec.ofChange fnExactGapThroughSpec)

/-- ITS FALSE NEIGHBOUR: 'it returns false'. Refute it at one input. -/
def fnExactGapThroughWrong : ChangeSpec := { name := "fnExactGapThrough", fn := fun _ => fun
  | [d1, d2, d3] => { results := [.lit (.bool false)], args := [d1, d2, d3] }
  | _ => none }
def FnExactGapThroughWrongFalsely : Prop := fnExactGapThroughRow.holds Try.pinned (OpenSpec.ofChange fnExactGapThroughWrong)

/-- 'laws.FnExactMarkEnclosure': WHATEVER THE INPUT: true; the input reads as it did. -/
def fnExactMarkEnclosureSpec : ChangeSpec := { name := "fnExactMarkEnclosure", fn := fun _ => fun
  | [d1, d2, d3] => { results := [.lit (.bool true)], args := [d1, d2, d3] }
  | _ => none }
def fnExactMarkEnclosureRow : OpenClaim := { program := "ytcdfbfnnlfgkfaa", sum := "cc509ebd7a8f52a6f8a603fb1f9aca8e641193b1979284eb201f61c0fed9d33e", func := "loop.example/g00890/laws.FnExactMarkEnclosure", spec := "fnExactMarkEnclosure", unfollowed := true, recurses := true, apart := false }
def FnExactMarkEnclosureSaid : Prop := fnExactMarkEnclosureRow.holds Try.pinned (OpenSpec.ofChange fnExactMarkEnclosureSpec)

/-- ITS FALSE NEIGHBOUR: 'it returns false'. Refute it at one input. -/
def fnExactMarkEnclosureWrong : ChangeSpec := { name := "fnExactMarkEnclosure", fn := fun _ => fun
  | [d1, d2, d3] => { results := [.lit (.bool false)], args := [d1, d2, d3] }
  | _ => none }
def FnExactMarkEnclosureWrongFalsely : Prop := fnExactMarkEnclosureRow.holds Try.pinned (OpenSpec.ofChange fnExactMarkEnclosureWrong)

/-- 'laws.FnExactMinWidth': WHATEVER THE INPUT: true; the input reads as it did. -/
def fnExactMinWidthSpec : ChangeSpec := { name := "fnExactMinWidth", fn := fun _ => fun
  | [d] => { results := [.lit (.bool true)], args := [d] }
  | _ => none }
def fnExactMinWidthRow : OpenClaim := { program := "ytcdfbfnnlfgkfaa", sum := "cc509ebd7a8f52a6f8a603fb1f9aca8e641193b1979284eb201f61c0fed9d33e", func := "loop.example/g00890/laws.FnExactMinWidth", spec := "fnExactMinWidth", unfollowed := true, recurses := true, apart := false }
def FnExactMinWidthSaid : Prop := fnExactMinWidthRow.holds Try.pinned (OpenSpec.ofChange fnExactMinWidthSpec)

/-- ITS FALSE NEIGHBOUR: 'it returns false'. Refute it at one input. -/
def fnExactMinWidthWrong : ChangeSpec := { name := "fnExactMinWidth", fn := fun _ => fun
  | [d] => { results := [.lit (.bool false)], args := [d] }
  | _ => none }
def FnExactMinWidthWrongFalsely : Prop := fnExactMinWidthRow.holds Try.pinned (OpenSpec.ofChange fnExactMinWidthWrong)

/-- 'laws.FnExactWidthWitness': WHATEVER THE INPUT: true; the input reads as it did. -/
def fnExactWidthWitnessSpec : ChangeSpec := { name := "fnExactWidthWitness", fn := fun _ => fun
  | [d1, d2] => { results := [.lit (.bool true)], args := [d1, d2] }
  | _ => none }
def fnExactWidthWitnessRow : OpenClaim := { program := "ytcdfbfnnlfgkfaa", sum := "cc509ebd7a8f52a6f8a603fb1f9aca8e641193b1979284eb201f61c0fed9d33e", func := "loop.example/g00890/laws.FnExactWidthWitness", spec := "fnExactWidthWitness", unfollowed := true, recurses := true, apart := false }
def FnExactWidthWitnessSaid : Prop := fnExactWidthWitnessRow.holds Try.pinned (OpenSpec.ofChange fnExactWidthWitnessSpec)

/-- ITS FALSE NEIGHBOUR: 'it returns false'. Refute it at one input. -/
def fnExactWidthWitnessWrong : ChangeSpec := { name := "fnExactWidthWitness", fn := fun _ => fun
  | [d1, d2] => { results := [.lit (.bool false)], args := [d1, d2] }
  | _ => none }
def FnExactWidthWitnessWrongFalsely : Prop := fnExactWidthWitnessRow.holds Try.pinned (OpenSpec.ofChange fnExactWidthWitnessWrong)

/-- 'laws.FnExactHorizontalRuns': WHATEVER THE INPUT: true; the input reads as it did. -/
def fnExactHorizontalRunsSpec : ChangeSpec := { name := "fnExactHorizontalRuns", fn := fun _ => fun
  | [d] => { results := [.lit (.bool true)], args := [d] }
  | _ => none }
def fnExactHorizontalRunsRow : OpenClaim := { program := "ytcdfbfnnlfgkfaa", sum := "cc509ebd7a8f52a6f8a603fb1f9aca8e641193b1979284eb201f61c0fed9d33e", func := "loop.example/g00890/laws.FnExactHorizontalRuns", spec := "fnExactHorizontalRuns", unfollowed := true, recurses := true, apart := false }
def FnExactHorizontalRunsSaid : Prop := fnExactHorizontalRunsRow.holds Try.pinned (OpenSpec.ofChange fnExactHorizontalRunsSpec)

/-- ITS FALSE NEIGHBOUR: 'it returns false'. Refute it at one input. -/
def fnExactHorizontalRunsWrong : ChangeSpec := { name := "fnExactHorizontalRuns", fn := fun _ => fun
  | [d] => { results := [.lit (.bool false)], args := [d] }
  | _ => none }
def FnExactHorizontalRunsWrongFalsely : Prop := fnExactHorizontalRunsRow.holds Try.pinned (OpenSpec.ofChange fnExactHorizontalRunsWrong)

/-- 'laws.FnExactVerticalRuns': WHATEVER THE INPUT: true; the input reads as it did. -/
def fnExactVerticalRunsSpec : ChangeSpec := { name := "fnExactVerticalRuns", fn := fun _ => fun
  | [d] => { results := [.lit (.bool true)], args := [d] }
  | _ => none }
def fnExactVerticalRunsRow : OpenClaim := { program := "ytcdfbfnnlfgkfaa", sum := "cc509ebd7a8f52a6f8a603fb1f9aca8e641193b1979284eb201f61c0fed9d33e", func := "loop.example/g00890/laws.FnExactVerticalRuns", spec := "fnExactVerticalRuns", unfollowed := true, recurses := true, apart := false }
def FnExactVerticalRunsSaid : Prop := fnExactVerticalRunsRow.holds Try.pinned (OpenSpec.ofChange fnExactVerticalRunsSpec)

/-- ITS FALSE NEIGHBOUR: 'it returns false'. Refute it at one input. -/
def fnExactVerticalRunsWrong : ChangeSpec := { name := "fnExactVerticalRuns", fn := fun _ => fun
  | [d] => { results := [.lit (.bool false)], args := [d] }
  | _ => none }
def FnExactVerticalRunsWrongFalsely : Prop := fnExactVerticalRunsRow.holds Try.pinned (OpenSpec.ofChange fnExactVerticalRunsWrong)

/-- 'laws.FnExactIsWideEnough': WHATEVER THE INPUT: true; the input reads as it did. -/
def fnExactIsWideEnoughSpec : ChangeSpec := { name := "fnExactIsWideEnough", fn := fun _ => fun
  | [d1, d2] => { results := [.lit (.bool true)], args := [d1, d2] }
  | _ => none }
def fnExactIsWideEnoughRow : OpenClaim := { program := "ytcdfbfnnlfgkfaa", sum := "cc509ebd7a8f52a6f8a603fb1f9aca8e641193b1979284eb201f61c0fed9d33e", func := "loop.example/g00890/laws.FnExactIsWideEnough", spec := "fnExactIsWideEnough", unfollowed := true, recurses := true, apart := false }
def FnExactIsWideEnoughSaid : Prop := fnExactIsWideEnoughRow.holds Try.pinned (OpenSpec.ofChange fnExactIsWideEnoughSpec)

/-- ITS FALSE NEIGHBOUR: 'it returns false'. Refute it at one input. -/
def fnExactIsWideEnoughWrong : ChangeSpec := { name := "fnExactIsWideEnough", fn := fun _ => fun
  | [d1, d2] => { results := [.lit (.bool false)], args := [d1, d2] }
  | _ => none }
def FnExactIsWideEnoughWrongFalsely : Prop := fnExactIsWideEnoughRow.holds Try.pinned (OpenSpec.ofChange fnExactIsWideEnoughWrong)

/-- 'laws.FnExactMarkWidth': WHATEVER THE INPUT: true; the input reads as it did. -/
def fnExactMarkWidthSpec : ChangeSpec := { name := "fnExactMarkWidth", fn := fun _ => fun
  | [d1, d2] => { results := [.lit (.bool true)], args := [d1, d2] }
  | _ => none }
def fnExactMarkWidthRow : OpenClaim := { program := "ytcdfbfnnlfgkfaa", sum := "cc509ebd7a8f52a6f8a603fb1f9aca8e641193b1979284eb201f61c0fed9d33e", func := "loop.example/g00890/laws.FnExactMarkWidth", spec := "fnExactMarkWidth", unfollowed := true, recurses := true, apart := false }
def FnExactMarkWidthSaid : Prop := fnExactMarkWidthRow.holds Try.pinned (OpenSpec.ofChange fnExactMarkWidthSpec)

/-- ITS FALSE NEIGHBOUR: 'it returns false'. Refute it at one input. -/
def fnExactMarkWidthWrong : ChangeSpec := { name := "fnExactMarkWidth", fn := fun _ => fun
  | [d1, d2] => { results := [.lit (.bool false)], args := [d1, d2] }
  | _ => none }
def FnExactMarkWidthWrongFalsely : Prop := fnExactMarkWidthRow.holds Try.pinned (OpenSpec.ofChange fnExactMarkWidthWrong)

/- THE SECOND FORM. 'bulk': how many values and letters a reading holds, each counted each time it is reached (what is shared counts as often as it is met; a slice's spare places count too). A statement '..UptoSaid' is the law's where the arguments, and the package variables that the reading takes, are together of bulk at most 1048576: NARROWER than '..Said'. Prove '..Said' where nothing that the law and all that it calls make is longer than what came in: it says more and counts as full. Else prove '..UptoSaid'. A law counts once. -/
mutual
def uptoBulk {H : Type} : DataW H → Nat
  | .lit (.string bytes) => bytes.length + 1
  | .lit _ => 1
  | .nil => 1
  | .ptr d => uptoBulk d + 1
  | .slice elems spare => uptoBulkAll elems + uptoBulkAll spare + 1
  | .agg parts => uptoBulkAll parts + 1
  | .iface _ d => uptoBulk d + 1
  | .map entries => uptoBulkEntries entries + 1
  | .held _ => 1
def uptoBulkAll {H : Type} : List (DataW H) → Nat
  | [] => 0
  | d :: r => uptoBulk d + uptoBulkAll r
def uptoBulkEntries {H : Type} : List (Lit × DataW H) → Nat
  | [] => 0
  | x :: r => uptoBulkEntry x + uptoBulkEntries r
def uptoBulkEntry {H : Type} : Lit × DataW H → Nat
  | (.string bytes, d) => bytes.length + uptoBulk d + 1
  | (_, d) => uptoBulk d + 1
 end
def uptoSmall : (H : Type) → List (DataW H) → Bool := fun _ ds => decide (uptoBulkAll ds ≤ 1048576)
def OpenSpec.upto (s : _root_.Go.ChangeSpec) : _root_.Go.OpenSpec := { _root_.Go.OpenSpec.ofChange s with cond := some uptoSmall }

/-- 'laws.FnExactDensityWindows', WHERE WHAT IT READS IS OF BULK AT MOST 1048576: true; the input reads as it did. -/
def fnExactDensityWindowsUptoRow : OpenClaim := { program := "ytcdfbfnnlfgkfaa", sum := "cc509ebd7a8f52a6f8a603fb1f9aca8e641193b1979284eb201f61c0fed9d33e", func := "loop.example/g00890/laws.FnExactDensityWindows", spec := "fnExactDensityWindows", apart := false, narrowed := true }
def FnExactDensityWindowsUptoSaid : Prop := fnExactDensityWindowsUptoRow.holds Try.pinned (OpenSpec.upto fnExactDensityWindowsSpec)

/-- 'laws.FnExactCoveredCells', WHERE WHAT IT READS IS OF BULK AT MOST 1048576: true; the input reads as it did. -/
def fnExactCoveredCellsUptoRow : OpenClaim := { program := "ytcdfbfnnlfgkfaa", sum := "cc509ebd7a8f52a6f8a603fb1f9aca8e641193b1979284eb201f61c0fed9d33e", func := "loop.example/g00890/laws.FnExactCoveredCells", spec := "fnExactCoveredCells", apart := false, narrowed := true }
def FnExactCoveredCellsUptoSaid : Prop := fnExactCoveredCellsUptoRow.holds Try.pinned (OpenSpec.upto fnExactCoveredCellsSpec)

/-- 'laws.FnExactRunThrough', WHERE WHAT IT READS IS OF BULK AT MOST 1048576: true; the input reads as it did. -/
def fnExactRunThroughUptoRow : OpenClaim := { program := "ytcdfbfnnlfgkfaa", sum := "cc509ebd7a8f52a6f8a603fb1f9aca8e641193b1979284eb201f61c0fed9d33e", func := "loop.example/g00890/laws.FnExactRunThrough", spec := "fnExactRunThrough", unfollowed := true, recurses := true, apart := false, narrowed := true }
def FnExactRunThroughUptoSaid : Prop := fnExactRunThroughUptoRow.holds Try.pinned (OpenSpec.upto fnExactRunThroughSpec)

/-- 'laws.FnExactEnclosureMargin', WHERE WHAT IT READS IS OF BULK AT MOST 1048576: true; the input reads as it did. -/
def fnExactEnclosureMarginUptoRow : OpenClaim := { program := "ytcdfbfnnlfgkfaa", sum := "cc509ebd7a8f52a6f8a603fb1f9aca8e641193b1979284eb201f61c0fed9d33e", func := "loop.example/g00890/laws.FnExactEnclosureMargin", spec := "fnExactEnclosureMargin", unfollowed := true, recurses := true, apart := false, narrowed := true }
def FnExactEnclosureMarginUptoSaid : Prop := fnExactEnclosureMarginUptoRow.holds Try.pinned (OpenSpec.upto fnExactEnclosureMarginSpec)

/-- 'laws.FnExactGapThrough', WHERE WHAT IT READS IS OF BULK AT MOST 1048576: true; the input reads as it did. -/
def fnExactGapThroughUptoRow : OpenClaim := { program := "ytcdfbfnnlfgkfaa", sum := "cc509ebd7a8f52a6f8a603fb1f9aca8e641193b1979284eb201f61c0fed9d33e", func := "loop.example/g00890/laws.FnExactGapThrough", spec := "fnExactGapThrough", apart := false, narrowed := true }
def FnExactGapThroughUptoSaid : Prop := fnExactGapThroughUptoRow.holds Try.pinned (OpenSpec.upto fnExactGapThroughSpec)

/-- 'laws.FnExactMarkEnclosure', WHERE WHAT IT READS IS OF BULK AT MOST 1048576: true; the input reads as it did. -/
def fnExactMarkEnclosureUptoRow : OpenClaim := { program := "ytcdfbfnnlfgkfaa", sum := "cc509ebd7a8f52a6f8a603fb1f9aca8e641193b1979284eb201f61c0fed9d33e", func := "loop.example/g00890/laws.FnExactMarkEnclosure", spec := "fnExactMarkEnclosure", unfollowed := true, recurses := true, apart := false, narrowed := true }
def FnExactMarkEnclosureUptoSaid : Prop := fnExactMarkEnclosureUptoRow.holds Try.pinned (OpenSpec.upto fnExactMarkEnclosureSpec)

/-- 'laws.FnExactMinWidth', WHERE WHAT IT READS IS OF BULK AT MOST 1048576: true; the input reads as it did. -/
def fnExactMinWidthUptoRow : OpenClaim := { program := "ytcdfbfnnlfgkfaa", sum := "cc509ebd7a8f52a6f8a603fb1f9aca8e641193b1979284eb201f61c0fed9d33e", func := "loop.example/g00890/laws.FnExactMinWidth", spec := "fnExactMinWidth", unfollowed := true, recurses := true, apart := false, narrowed := true }
def FnExactMinWidthUptoSaid : Prop := fnExactMinWidthUptoRow.holds Try.pinned (OpenSpec.upto fnExactMinWidthSpec)

/-- 'laws.FnExactWidthWitness', WHERE WHAT IT READS IS OF BULK AT MOST 1048576: true; the input reads as it did. -/
def fnExactWidthWitnessUptoRow : OpenClaim := { program := "ytcdfbfnnlfgkfaa", sum := "cc509ebd7a8f52a6f8a603fb1f9aca8e641193b1979284eb201f61c0fed9d33e", func := "loop.example/g00890/laws.FnExactWidthWitness", spec := "fnExactWidthWitness", unfollowed := true, recurses := true, apart := false, narrowed := true }
def FnExactWidthWitnessUptoSaid : Prop := fnExactWidthWitnessUptoRow.holds Try.pinned (OpenSpec.upto fnExactWidthWitnessSpec)

/-- 'laws.FnExactHorizontalRuns', WHERE WHAT IT READS IS OF BULK AT MOST 1048576: true; the input reads as it did. -/
def fnExactHorizontalRunsUptoRow : OpenClaim := { program := "ytcdfbfnnlfgkfaa", sum := "cc509ebd7a8f52a6f8a603fb1f9aca8e641193b1979284eb201f61c0fed9d33e", func := "loop.example/g00890/laws.FnExactHorizontalRuns", spec := "fnExactHorizontalRuns", unfollowed := true, recurses := true, apart := false, narrowed := true }
def FnExactHorizontalRunsUptoSaid : Prop := fnExactHorizontalRunsUptoRow.holds Try.pinned (OpenSpec.upto fnExactHorizontalRunsSpec)

/-- 'laws.FnExactVerticalRuns', WHERE WHAT IT READS IS OF BULK AT MOST 1048576: true; the input reads as it did. -/
def fnExactVerticalRunsUptoRow : OpenClaim := { program := "ytcdfbfnnlfgkfaa", sum := "cc509ebd7a8f52a6f8a603fb1f9aca8e641193b1979284eb201f61c0fed9d33e", func := "loop.example/g00890/laws.FnExactVerticalRuns", spec := "fnExactVerticalRuns", unfollowed := true, recurses := true, apart := false, narrowed := true }
def FnExactVerticalRunsUptoSaid : Prop := fnExactVerticalRunsUptoRow.holds Try.pinned (OpenSpec.upto fnExactVerticalRunsSpec)

/-- 'laws.FnExactIsWideEnough', WHERE WHAT IT READS IS OF BULK AT MOST 1048576: true; the input reads as it did. -/
def fnExactIsWideEnoughUptoRow : OpenClaim := { program := "ytcdfbfnnlfgkfaa", sum := "cc509ebd7a8f52a6f8a603fb1f9aca8e641193b1979284eb201f61c0fed9d33e", func := "loop.example/g00890/laws.FnExactIsWideEnough", spec := "fnExactIsWideEnough", unfollowed := true, recurses := true, apart := false, narrowed := true }
def FnExactIsWideEnoughUptoSaid : Prop := fnExactIsWideEnoughUptoRow.holds Try.pinned (OpenSpec.upto fnExactIsWideEnoughSpec)

/-- 'laws.FnExactMarkWidth', WHERE WHAT IT READS IS OF BULK AT MOST 1048576: true; the input reads as it did. -/
def fnExactMarkWidthUptoRow : OpenClaim := { program := "ytcdfbfnnlfgkfaa", sum := "cc509ebd7a8f52a6f8a603fb1f9aca8e641193b1979284eb201f61c0fed9d33e", func := "loop.example/g00890/laws.FnExactMarkWidth", spec := "fnExactMarkWidth", unfollowed := true, recurses := true, apart := false, narrowed := true }
def FnExactMarkWidthUptoSaid : Prop := fnExactMarkWidthUptoRow.holds Try.pinned (OpenSpec.upto fnExactMarkWidthSpec)

end Rows
end Go.Proofs.Ytcdfbfnnlfgkfaa
