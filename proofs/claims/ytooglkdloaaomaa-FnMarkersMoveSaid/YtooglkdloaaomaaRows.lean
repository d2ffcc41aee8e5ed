/-
  No cell of these rows narrows 'for every input' (looked for: loops, veiled, ifaces, maps, wideKeys, modest, calm, conditions, laid).
  DERIVED. THE GIVEN ROWS OF THIS SEAT. 12 by the template 'for every input the law returns true; each argument reads behind the call as it read before'; 0 by the template 'total and deterministic' (their statements: YtooglkdloaaomaaTotals.lean).
  GIVEN WITH THE SEED: the statements are not yours to turn. If you find one false, say at which input.
  Laid BY PROGRAM, IN A SANDBOX (cutbox-rows.mjs): the forced cells as the released guide's own fill.sh prints them over the translation e9659b7d1e866348… (all of the seat's roots in one cut). By AI agents, Wed Nov 11 2026. No macro, syntax, notation, axiom, sorry.
-/
import Derived.Test.YtooglkdloaaomaaChecked
import GoSem.Claim
import GoSem.ClaimJoined
import GoSem.ClaimMapViews
import Derived.JoinedTies
import Derived.KernelRfl
namespace Go.Proofs.Ytooglkdloaaomaa
/- THE CELL 'sum', in the pinned program and in every row, IS THE sha256 OF THE DUMP (.gsa) THAT YtooglkdloaaomaaProg.lean LOADS. Nothing in Lean hashes anything: it is a label: what it is worth is what the hold of that sum in a sandbox is worth. -/
noncomputable def Try.pinned : Pinned := { name := "ytooglkdloaaomaa", sum := "e9659b7d1e86634886c7f21719bfe1dfbea333ad3fe0fa7e5021e5bf1f40e877", checked := Try.checked }
namespace Rows
def none {H : Type} : Left H := { results := [], args := [] }

/-- 'laws.FnDensity': WHATEVER THE INPUT: true; the input reads as it did. -/
def fnDensitySpec : ChangeSpec := { name := "fnDensity", fn := fun _ => fun
  | [d] => { results := [.lit (.bool true)], args := [d] }
  | _ => none }
def fnDensityRow : OpenClaim := { program := "ytooglkdloaaomaa", sum := "e9659b7d1e86634886c7f21719bfe1dfbea333ad3fe0fa7e5021e5bf1f40e877", func := "loop.example/g00890/laws.FnDensity", spec := "fnDensity", unfollowed := true, recurses := true, apart := false }
def FnDensitySaid : Prop := fnDensityRow.holds Try.pinned (OpenSpec.ofChange fnDensitySpec)

/-- ITS FALSE NEIGHBOUR: 'it returns false'. Refute it at one input. -/
def fnDensityWrong : ChangeSpec := { name := "fnDensity", fn := fun _ => fun
  | [d] => { results := [.lit (.bool false)], args := [d] }
  | _ => none }
def FnDensityWrongFalsely : Prop := fnDensityRow.holds Try.pinned (OpenSpec.ofChange fnDensityWrong)

/-- 'laws.FnWidthHistogram': WHATEVER THE INPUT: true; the input reads as it did. -/
def fnWidthHistogramSpec : ChangeSpec := { name := "fnWidthHistogram", fn := fun _ => fun
  | [d] => { results := [.lit (.bool true)], args := [d] }
  | _ => none }
def fnWidthHistogramRow : OpenClaim := { program := "ytooglkdloaaomaa", sum := "e9659b7d1e86634886c7f21719bfe1dfbea333ad3fe0fa7e5021e5bf1f40e877", func := "loop.example/g00890/laws.FnWidthHistogram", spec := "fnWidthHistogram", unfollowed := true, recurses := true, apart := false }
def FnWidthHistogramSaid : Prop := fnWidthHistogramRow.holds Try.pinned (OpenSpec.ofChange fnWidthHistogramSpec)

/-- ITS FALSE NEIGHBOUR: 'it returns false'. Refute it at one input. -/
def fnWidthHistogramWrong : ChangeSpec := { name := "fnWidthHistogram", fn := fun _ => fun
  | [d] => { results := [.lit (.bool false)], args := [d] }
  | _ => none }
def FnWidthHistogramWrongFalsely : Prop := fnWidthHistogramRow.holds Try.pinned (OpenSpec.ofChange fnWidthHistogramWrong)

/-- 'laws.FnEnclosure': WHATEVER THE INPUT: true; the input reads as it did. -/
def fnEnclosureSpec : ChangeSpec := { name := "fnEnclosure", fn := fun _ => fun
  | [d] => { results := [.lit (.bool true)], args := [d] }
  | _ => none }
def fnEnclosureRow : OpenClaim := { program := "ytooglkdloaaomaa", sum := "e9659b7d1e86634886c7f21719bfe1dfbea333ad3fe0fa7e5021e5bf1f40e877", func := "loop.example/g00890/laws.FnEnclosure", spec := "fnEnclosure", unfollowed := true, recurses := true, apart := false }
def FnEnclosureSaid : Prop := fnEnclosureRow.holds Try.pinned (OpenSpec.ofChange fnEnclosureSpec)

/-- ITS FALSE NEIGHBOUR: 'it returns false'. Refute it at one input. -/
def fnEnclosureWrong : ChangeSpec := { name := "fnEnclosure", fn := fun _ => fun
  | [d] => { results := [.lit (.bool false)], args := [d] }
  | _ => none }
def FnEnclosureWrongFalsely : Prop := fnEnclosureRow.holds Try.pinned (OpenSpec.ofChange fnEnclosureWrong)

/-- 'laws.FnRuns': WHATEVER THE INPUT: true; the input reads as it did. -/
def fnRunsSpec : ChangeSpec := { name := "fnRuns", fn := fun _ => fun
  | [d] => { results := [.lit (.bool true)], args := [d] }
  | _ => none }
def fnRunsRow : OpenClaim := { program := "ytooglkdloaaomaa", sum := "e9659b7d1e86634886c7f21719bfe1dfbea333ad3fe0fa7e5021e5bf1f40e877", func := "loop.example/g00890/laws.FnRuns", spec := "fnRuns", unfollowed := true, recurses := true, apart := false }
def FnRunsSaid : Prop := fnRunsRow.holds Try.pinned (OpenSpec.ofChange fnRunsSpec)

/-- ITS FALSE NEIGHBOUR: 'it returns false'. Refute it at one input. -/
def fnRunsWrong : ChangeSpec := { name := "fnRuns", fn := fun _ => fun
  | [d] => { results := [.lit (.bool false)], args := [d] }
  | _ => none }
def FnRunsWrongFalsely : Prop := fnRunsRow.holds Try.pinned (OpenSpec.ofChange fnRunsWrong)

/-- 'laws.FnWidthLimit': WHATEVER THE INPUT: true; the input reads as it did. -/
def fnWidthLimitSpec : ChangeSpec := { name := "fnWidthLimit", fn := fun _ => fun
  | [d] => { results := [.lit (.bool true)], args := [d] }
  | _ => none }
def fnWidthLimitRow : OpenClaim := { program := "ytooglkdloaaomaa", sum := "e9659b7d1e86634886c7f21719bfe1dfbea333ad3fe0fa7e5021e5bf1f40e877", func := "loop.example/g00890/laws.FnWidthLimit", spec := "fnWidthLimit", unfollowed := true, recurses := true, apart := false }
def FnWidthLimitSaid : Prop := fnWidthLimitRow.holds Try.pinned (OpenSpec.ofChange fnWidthLimitSpec)

/-- ITS FALSE NEIGHBOUR: 'it returns false'. Refute it at one input. -/
def fnWidthLimitWrong : ChangeSpec := { name := "fnWidthLimit", fn := fun _ => fun
  | [d] => { results := [.lit (.bool false)], args := [d] }
  | _ => none }
def FnWidthLimitWrongFalsely : Prop := fnWidthLimitRow.holds Try.pinned (OpenSpec.ofChange fnWidthLimitWrong)

/-- 'laws.FnWidthMarks': WHATEVER THE INPUT: true; the input reads as it did. -/
def fnWidthMarksSpec : ChangeSpec := { name := "fnWidthMarks", fn := fun _ => fun
  | [d] => { results := [.lit (.bool true)], args := [d] }
  | _ => none }
def fnWidthMarksRow : OpenClaim := { program := "ytooglkdloaaomaa", sum := "e9659b7d1e86634886c7f21719bfe1dfbea333ad3fe0fa7e5021e5bf1f40e877", func := "loop.example/g00890/laws.FnWidthMarks", spec := "fnWidthMarks", unfollowed := true, recurses := true, apart := false }
def FnWidthMarksSaid : Prop := fnWidthMarksRow.holds Try.pinned (OpenSpec.ofChange fnWidthMarksSpec)

/-- ITS FALSE NEIGHBOUR: 'it returns false'. Refute it at one input. -/
def fnWidthMarksWrong : ChangeSpec := { name := "fnWidthMarks", fn := fun _ => fun
  | [d] => { results := [.lit (.bool false)], args := [d] }
  | _ => none }
def FnWidthMarksWrongFalsely : Prop := fnWidthMarksRow.holds Try.pinned (OpenSpec.ofChange fnWidthMarksWrong)

/-- 'laws.FnSpacingMarks': WHATEVER THE INPUT: true; the input reads as it did. -/
def fnSpacingMarksSpec : ChangeSpec := { name := "fnSpacingMarks", fn := fun _ => fun
  | [d] => { results := [.lit (.bool true)], args := [d] }
  | _ => none }
def fnSpacingMarksRow : OpenClaim := { program := "ytooglkdloaaomaa", sum := "e9659b7d1e86634886c7f21719bfe1dfbea333ad3fe0fa7e5021e5bf1f40e877", func := "loop.example/g00890/laws.FnSpacingMarks", spec := "fnSpacingMarks", unfollowed := true, recurses := true, apart := false }
def FnSpacingMarksSaid : Prop := fnSpacingMarksRow.holds Try.pinned (OpenSpec.ofChange fnSpacingMarksSpec)

/-- ITS FALSE NEIGHBOUR: 'it returns false'. Refute it at one input. -/
def fnSpacingMarksWrong : ChangeSpec := { name := "fnSpacingMarks", fn := fun _ => fun
  | [d] => { results := [.lit (.bool false)], args := [d] }
  | _ => none }
def FnSpacingMarksWrongFalsely : Prop := fnSpacingMarksRow.holds Try.pinned (OpenSpec.ofChange fnSpacingMarksWrong)

/-- 'laws.FnSpacingBetween': WHATEVER THE INPUT: true; the input reads as it did. -/
def fnSpacingBetweenSpec : ChangeSpec := { name := "fnSpacingBetween", fn := fun _ => fun
  | [d] => { results := [.lit (.bool true)], args := [d] }
  | _ => none }
def fnSpacingBetweenRow : OpenClaim := { program := "ytooglkdloaaomaa", sum := "e9659b7d1e86634886c7f21719bfe1dfbea333ad3fe0fa7e5021e5bf1f40e877", func := "loop.example/g00890/laws.FnSpacingBetween", spec := "fnSpacingBetween", unfollowed := true, recurses := true, apart := false }
def FnSpacingBetweenSaid : Prop := fnSpacingBetweenRow.holds Try.pinned (OpenSpec.ofChange fnSpacingBetweenSpec)

/-- ITS FALSE NEIGHBOUR: 'it returns false'. Refute it at one input. -/
def fnSpacingBetweenWrong : ChangeSpec := { name := "fnSpacingBetween", fn := fun _ => fun
  | [d] => { results := [.lit (.bool false)], args := [d] }
  | _ => none }
def FnSpacingBetweenWrongFalsely : Prop := fnSpacingBetweenRow.holds Try.pinned (OpenSpec.ofChange fnSpacingBetweenWrong)

/-- 'laws.FnSpacingLimit': WHATEVER THE INPUT: true; the input reads as it did. -/
def fnSpacingLimitSpec : ChangeSpec := { name := "fnSpacingLimit", fn := fun _ => fun
  | [d] => { results := [.lit (.bool true)], args := [d] }
  | _ => none }
def fnSpacingLimitRow : OpenClaim := { program := "ytooglkdloaaomaa", sum := "e9659b7d1e86634886c7f21719bfe1dfbea333ad3fe0fa7e5021e5bf1f40e877", func := "loop.example/g00890/laws.FnSpacingLimit", spec := "fnSpacingLimit", unfollowed := true, recurses := true, apart := false }
def FnSpacingLimitSaid : Prop := fnSpacingLimitRow.holds Try.pinned (OpenSpec.ofChange fnSpacingLimitSpec)

/-- ITS FALSE NEIGHBOUR: 'it returns false'. Refute it at one input. -/
def fnSpacingLimitWrong : ChangeSpec := { name := "fnSpacingLimit", fn := fun _ => fun
  | [d] => { results := [.lit (.bool false)], args := [d] }
  | _ => none }
def FnSpacingLimitWrongFalsely : Prop := fnSpacingLimitRow.holds Try.pinned (OpenSpec.ofChange fnSpacingLimitWrong)

/-- 'laws.FnMarkersMove': WHATEVER THE INPUT: true; the input reads as it did. -/
def fnMarkersMoveSpec : ChangeSpec := { name := "fnMarkersMove", fn := fun _ => fun
  | [d] => { results := [.lit (.bool true)], args := [d] }
  | _ => none }
def fnMarkersMoveRow : OpenClaim := { program := "ytooglkdloaaomaa", sum := "e9659b7d1e86634886c7f21719bfe1dfbea333ad3fe0fa7e5021e5bf1f40e877", func := "loop.example/g00890/laws.FnMarkersMove", spec := "fnMarkersMove", unfollowed := true, recurses := true, apart := false }
def FnMarkersMoveSaid : Prop := fnMarkersMoveRow.holds Try.pinned (OpenSpec.ofChange fnMarkersMoveSpec)

/-- ITS FALSE NEIGHBOUR: 'it returns false'. Refute it at one input. -/
def fnMarkersMoveWrong : ChangeSpec := { name := "fnMarkersMove", fn := fun _ => fun
  | [d] => { results := [.lit (.bool false)], args := [d] }
  | _ => none }
def FnMarkersMoveWrongFalsely : Prop := fnMarkersMoveRow.holds Try.pinned (OpenSpec.ofChange fnMarkersMoveWrong)

/-- 'laws.FnWidthTurned': WHATEVER THE INPUT: true; the input reads as it did. -/
def fnWidthTurnedSpec : ChangeSpec := { name := "fnWidthTurned", fn := fun _ => fun
  | [d] => { results := [.lit (.bool true)], args := [d] }
  | _ => none }
def fnWidthTurnedRow : OpenClaim := { program := "ytooglkdloaaomaa", sum := "e9659b7d1e86634886c7f21719bfe1dfbea333ad3fe0fa7e5021e5bf1f40e877", func := "loop.example/g00890/laws.FnWidthTurned", spec := "fnWidthTurned", unfollowed := true, recurses := true, apart := false }
def FnWidthTurnedSaid : Prop := fnWidthTurnedRow.holds Try.pinned (OpenSpec.ofChange fnWidthTurnedSpec)

/-- ITS FALSE NEIGHBOUR: 'it returns false'. Refute it at one input. -/
def fnWidthTurnedWrong : ChangeSpec := { name := "fnWidthTurned", fn := fun _ => fun
  | [d] => { results := [.lit (.bool false)], args := [d] }
  | _ => none }
def FnWidthTurnedWrongFalsely : Prop := fnWidthTurnedRow.holds Try.pinned (OpenSpec.ofChange fnWidthTurnedWrong)

/-- 'laws.FnArea': WHATEVER THE INPUT: true; the input reads as it did. -/
def fnAreaSpec : ChangeSpec := { name := "fnArea", fn := fun _ => fun
  | [d] => { results := [.lit (.bool true)], args := [d] }
  | _ => none }
def fnAreaRow : OpenClaim := { program := "ytooglkdloaaomaa", sum := "e9659b7d1e86634886c7f21719bfe1dfbea333ad3fe0fa7e5021e5bf1f40e877", func := "loop.example/g00890/laws.FnArea", spec := "fnArea", unfollowed := true, recurses := true, apart := false }
def FnAreaSaid : Prop := fnAreaRow.holds Try.pinned (OpenSpec.ofChange fnAreaSpec)

/-- ITS FALSE NEIGHBOUR: 'it returns false'. Refute it at one input. -/
def fnAreaWrong : ChangeSpec := { name := "fnArea", fn := fun _ => fun
  | [d] => { results := [.lit (.bool false)], args := [d] }
  | _ => none }
def FnAreaWrongFalsely : Prop := fnAreaRow.holds Try.pinned (OpenSpec.ofChange fnAreaWrong)

/- THE SECOND FORM. 'bulk': how many values and letters a reading holds, each counted each time it is reached (what is shared counts as often as it is met; a slice's spare places count too). A statement '..UptoSaid' is the law's where the arguments, and the package variables that the reading takes, are together of bulk at most 1048576: NARROWER than '..Said'. Prove '..Said' where nothing that the law and all that it calls make is longer than what came in: it says more and counts as full. Else prove '..UptoSaid'. A law counts once. -/
mutual
def uptoBulk {H : Type} : DataW H → Nat
  | .lit (.string bytes) => bytes.length + 1
  | .lit _ => 1
  | .nil => 1
  | .ptr d => uptoBulk d + 1
  | .slice elems spare => uptoBulkAll elems + uptoBulkAll spare + 1
  | .agg parts => uptoBulkAll parts + 1
  | .iface _ d => uptoBulk d + 1
  | .map entries => uptoBulkEntries entries + 1
  | .held _ => 1
def uptoBulkAll {H : Type} : List (DataW H) → Nat
  | [] => 0
  | d :: r => uptoBulk d + uptoBulkAll r
def uptoBulkEntries {H : Type} : List (Lit × DataW H) → Nat
  | [] => 0
  | x :: r => uptoBulkEntry x + uptoBulkEntries r
def uptoBulkEntry {H : Type} : Lit × DataW H → Nat
  | (.string bytes, d) => bytes.length + uptoBulk d + 1
  | (_, d) => uptoBulk d + 1
 end
def uptoSmall : (H : Type) → List (DataW H) → Bool := fun _ ds => decide (uptoBulkAll ds ≤ 1048576)
def OpenSpec.upto (s : _root_.Go.ChangeSpec) : _root_.Go.OpenSpec := { _root_.Go.OpenSpec.ofChange s with cond := some uptoSmall }

/-- 'laws.FnDensity', WHERE WHAT IT READS IS OF BULK AT MOST 1048576: true; the input reads as it did. -/
def fnDensityUptoRow : OpenClaim := { program := "ytooglkdloaaomaa", sum := "e9659b7d1e86634886c7f21719bfe1dfbea333ad3fe0fa7e5021e5bf1f40e877", func := "loop.example/g00890/laws.FnDensity", spec := "fnDensity", unfollowed := true, recurses := true, apart := false, narrowed := true }
def FnDensityUptoSaid : Prop := fnDensityUptoRow.holds Try.pinned (OpenSpec.upto fnDensitySpec)

/-- 'laws.FnWidthHistogram', WHERE WHAT IT READS IS OF BULK AT MOST 1048576: true; the input reads as it did. -/
def fnWidthHistogramUptoRow : OpenClaim := { program := "ytooglkdloaaomaa", sum := "e9659b7d1e86634886c7f21719bfe1dfbea333ad3fe0fa7e5021e5bf1f40e877", func := "loop.example/g00890/laws.FnWidthHistogram", spec := "fnWidthHistogram", unfollowed := true, recurses := true, apart := false, narrowed := true }
def FnWidthHistogramUptoSaid : Prop := fnWidthHistogramUptoRow.holds Try.pinned (OpenSpec.upto fnWidthHistogramSpec)

/-- 'laws.FnEnclosure', WHERE WHAT IT READS IS OF BULK AT MOST 1048576: true; the input reads as it did. -/
def fnEnclosureUptoRow : OpenClaim := { program := "ytooglkdloaaomaa", sum := "e9659b7d1e86634886c7f21719bfe1dfbea333ad3fe0fa7e5021e5bf1f40e877", func := "loop.example/g00890/laws.FnEnclosure", spec := "fnEnclosure", unfollowed := true, recurses := true, apart := false, narrowed := true }
def FnEnclosureUptoSaid : Prop := fnEnclosureUptoRow.holds Try.pinned (OpenSpec.upto fnEnclosureSpec)

/-- 'laws.FnRuns', WHERE WHAT IT READS IS OF BULK AT MOST 1048576: true; the input reads as it did. -/
def fnRunsUptoRow : OpenClaim := { program := "ytooglkdloaaomaa", sum := "e9659b7d1e86634886c7f21719bfe1dfbea333ad3fe0fa7e5021e5bf1f40e877", func := "loop.example/g00890/laws.FnRuns", spec := "fnRuns", unfollowed := true, recurses := true, apart := false, narrowed := true }
def FnRunsUptoSaid : Prop := fnRunsUptoRow.holds Try.pinned (OpenSpec.upto fnRunsSpec)

/-- 'laws.FnWidthLimit', WHERE WHAT IT READS IS OF BULK AT MOST 1048576: true; the input reads as it did. -/
def fnWidthLimitUptoRow : OpenClaim := { program := "ytooglkdloaaomaa", sum := "e9659b7d1e86634886c7f21719bfe1dfbea333ad3fe0fa7e5021e5bf1f40e877", func := "loop.example/g00890/laws.FnWidthLimit", spec := "fnWidthLimit", unfollowed := true, recurses := true, apart := false, narrowed := true }
def FnWidthLimitUptoSaid : Prop := fnWidthLimitUptoRow.holds Try.pinned (OpenSpec.upto fnWidthLimitSpec)

/-- 'laws.FnWidthMarks', WHERE WHAT IT READS IS OF BULK AT MOST 1048576: true; the input reads as it did. -/
def fnWidthMarksUptoRow : OpenClaim := { program := "ytooglkdloaaomaa", sum := "e9659b7d1e86634886c7f21719bfe1dfbea333ad3fe0fa7e5021e5bf1f40e877", func := "loop.example/g00890/laws.FnWidthMarks", spec := "fnWidthMarks", unfollowed := true, recurses := true, apart := false, narrowed := true }
def FnWidthMarksUptoSaid : Prop := fnWidthMarksUptoRow.holds Try.pinned (OpenSpec.upto fnWidthMarksSpec)

/-- 'laws.FnSpacingMarks', WHERE WHAT IT READS IS OF BULK AT MOST 1048576: true; the input reads as it did. -/
def fnSpacingMarksUptoRow : OpenClaim := { program := "ytooglkdloaaomaa", sum := "e9659b7d1e86634886c7f21719bfe1dfbea333ad3fe0fa7e5021e5bf1f40e877", func := "loop.example/g00890/laws.FnSpacingMarks", spec := "fnSpacingMarks", unfollowed := true, recurses := true, apart := false, narrowed := true }
def FnSpacingMarksUptoSaid : Prop := fnSpacingMarksUptoRow.holds Try.pinned (OpenSpec.upto fnSpacingMarksSpec)

/-- 'laws.FnSpacingBetween', WHERE WHAT IT READS IS OF BULK AT MOST 1048576: true; the input reads as it did. -/
def fnSpacingBetweenUptoRow : OpenClaim := { program := "ytooglkdloaaomaa", sum := "e9659b7d1e86634886c7f21719bfe1dfbea333ad3fe0fa7e5021e5bf1f40e877", func := "loop.example/g00890/laws.FnSpacingBetween", spec := "fnSpacingBetween", unfollowed := true, recurses := true, apart := false, narrowed := true }
def FnSpacingBetweenUptoSaid : Prop := fnSpacingBetweenUptoRow.holds Try.pinned (OpenSpec.upto fnSpacingBetweenSpec)

/-- 'laws.FnSpacingLimit', WHERE WHAT IT READS IS OF BULK AT MOST 1048576: true; the input reads as it did. -/
def fnSpacingLimitUptoRow : OpenClaim := { program := "ytooglkdloaaomaa", sum := "e9659b7d1e86634886c7f21719bfe1dfbea333ad3fe0fa7e5021e5bf1f40e877", func := "loop.example/g00890/laws.FnSpacingLimit", spec := "fnSpacingLimit", unfollowed := true, recurses := true, apart := false, narrowed := true }
def FnSpacingLimitUptoSaid : Prop := fnSpacingLimitUptoRow.holds Try.pinned (OpenSpec.upto fnSpacingLimitSpec)

/-- 'laws.FnMarkersMove', WHERE WHAT IT READS IS OF BULK AT MOST 1048576: true; the input reads as it did. -/
def fnMarkersMoveUptoRow : OpenClaim := { program := "ytooglkdloaaomaa", sum := "e9659b7d1e86634886c7f21719bfe1dfbea333ad3fe0fa7e5021e5bf1f40e877", func := "loop.example/g00890/laws.FnMarkersMove", spec := "fnMarkersMove", unfollowed := true, recurses := true, apart := false, narrowed := true }
def FnMarkersMoveUptoSaid : Prop := fnMarkersMoveUptoRow.holds Try.pinned (OpenSpec.upto fnMarkersMoveSpec)

/-- 'laws.FnWidthTurned', WHERE WHAT IT READS IS OF BULK AT MOST 1048576: true; the input reads as it did. -/
def fnWidthTurnedUptoRow : OpenClaim := { program := "ytooglkdloaaomaa", sum := "e9659b7d1e86634886c7f21719bfe1dfbea333ad3fe0fa7e5021e5bf1f40e877", func := "loop.example/g00890/laws.FnWidthTurned", spec := "fnWidthTurned", unfollowed := true, recurses := true, apart := false, narrowed := true }
def FnWidthTurnedUptoSaid : Prop := fnWidthTurnedUptoRow.holds Try.pinned (OpenSpec.upto fnWidthTurnedSpec)

/-- 'laws.FnArea', WHERE WHAT IT READS IS OF BULK AT MOST 1048576: true; the input reads as it did. -/
def fnAreaUptoRow : OpenClaim := { program := "ytooglkdloaaomaa", sum := "e9659b7d1e86634886c7f21719bfe1dfbea333ad3fe0fa7e5021e5bf1f40e877", func := "loop.example/g00890/laws.FnArea", spec := "fnArea", unfollowed := true, recurses := true, apart := false, narrowed := true }
def FnAreaUptoSaid : Prop := fnAreaUptoRow.holds Try.pinned (OpenSpec.upto fnAreaSpec)

end Rows
end Go.Proofs.Ytooglkdloaaomaa
