/-
  No cell of these rows narrows 'for every input' (looked for: loops, veiled, ifaces, maps, wideKeys, modest, calm, conditions, laid).
  DERIVED. THE GIVEN ROWS OF THIS SEAT. 6 by the template 'for every input the law returns true; each argument reads behind the call as it read before'; 0 by the template 'total and deterministic' (their statements: YtbljapihmkmolaaGreatTotals.lean).
  GIVEN WITH THE SEED: the statements are not yours to turn. If you find one false, say at which input.
  Laid BY PROGRAM, IN A SANDBOX (cutbox-rows.mjs): the forced cells as the released guide's own fill.sh prints them over the translation 5ecc5df62890b74d… (all of the seat's roots in one cut). By AI agents, Wed Nov 11 2026. No macro, syntax, notation, axiom, sorry.
-/
import Derived.Test.YtbljapihmkmolaaGreatChecked
import GoSem.Claim
import GoSem.ClaimJoined
import GoSem.ClaimMapViews
import Derived.JoinedTies
import Derived.KernelRfl
namespace Go.Proofs.YtbljapihmkmolaaGreat
/- THE CELL 'sum', in the pinned program and in every row, IS THE sha256 OF THE DUMP (.gsa) THAT YtbljapihmkmolaaGreatProg.lean LOADS. Nothing in Lean hashes anything: it is a label: what it is worth is what the hold of that sum in a sandbox is worth. -/
noncomputable def Tryz.pinned : Pinned := { name := "ytbljapihmkmolaagreat", sum := "5ecc5df62890b74d71f7b27c60b5bc2614da9fa6aebdd9fe828aabbd28a916f9", checked := Tryz.checked }
namespace Rows
def none {H : Type} : Left H := { results := [], args := [] }

/-- 'laws.FnExactRuleMarkers': WHATEVER THE INPUT: true; the input reads as it did. -/
def fnExactRuleMarkersSpec : ChangeSpec := { name := "fnExactRuleMarkers", fn := fun _ => fun
  | [d1, d2] => { results := [.lit (.bool true)], args := [d1, d2] }
  | _ => none }
def fnExactRuleMarkersRow : OpenClaim := { program := "ytbljapihmkmolaagreat", sum := "5ecc5df62890b74d71f7b27c60b5bc2614da9fa6aebdd9fe828aabbd28a916f9", func := "loop.example/g00890/laws.FnExactRuleMarkers", spec := "fnExactRuleMarkers", unfollowed := true, recurses := true, apart := false }
def FnExactRuleMarkersSaid : Prop := fnExactRuleMarkersRow.holds Tryz.pinned (OpenSpec.ofChange fnExactRuleMarkersSpec)

/-- ITS FALSE NEIGHBOUR: 'it returns false'. Refute it at one input. -/
def fnExactRuleMarkersWrong : ChangeSpec := { name := "fnExactRuleMarkers", fn := fun _ => fun
  | [d1, d2] => { results := [.lit (.bool false)], args := [d1, d2] }
  | _ => none }
def FnExactRuleMarkersWrongFalsely : Prop := fnExactRuleMarkersRow.holds Tryz.pinned (OpenSpec.ofChange fnExactRuleMarkersWrong)

/-- 'laws.FnExactIsClean': WHATEVER THE INPUT: true; the input reads as it did. -/
def fnExactIsCleanSpec : ChangeSpec := { name := "fnExactIsClean", fn := fun _ => fun
  | [d1, d2] => { results := [.lit (.bool true)], args := [d1, d2] }
  | _ => none }
def fnExactIsCleanRow : OpenClaim := { program := "ytbljapihmkmolaagreat", sum := "5ecc5df62890b74d71f7b27c60b5bc2614da9fa6aebdd9fe828aabbd28a916f9", func := "loop.example/g00890/laws.FnExactIsClean", spec := "fnExactIsClean", unfollowed := true, recurses := true, apart := false }
def FnExactIsCleanSaid : Prop := fnExactIsCleanRow.holds Tryz.pinned (OpenSpec.ofChange fnExactIsCleanSpec)

/-- ITS FALSE NEIGHBOUR: 'it returns false'. Refute it at one input. -/
def fnExactIsCleanWrong : ChangeSpec := { name := "fnExactIsClean", fn := fun _ => fun
  | [d1, d2] => { results := [.lit (.bool false)], args := [d1, d2] }
  | _ => none }
def FnExactIsCleanWrongFalsely : Prop := fnExactIsCleanRow.holds Tryz.pinned (OpenSpec.ofChange fnExactIsCleanWrong)

/-- 'laws.FnExactCheckLayout': WHATEVER THE INPUT: true; the input reads as it did. -/
def fnExactCheckLayoutSpec : ChangeSpec := { name := "fnExactCheckLayout", fn := fun _ => fun
  | [d1, d2] => { results := [.lit (.bool true)], args := [d1, d2] }
  | _ => none }
def fnExactCheckLayoutRow : OpenClaim := { program := "ytbljapihmkmolaagreat", sum := "5ecc5df62890b74d71f7b27c60b5bc2614da9fa6aebdd9fe828aabbd28a916f9", func := "loop.example/g00890/laws.FnExactCheckLayout", spec := "fnExactCheckLayout", unfollowed := true, recurses := true, apart := false }
def FnExactCheckLayoutSaid : Prop := fnExactCheckLayoutRow.holds Tryz.pinned (OpenSpec.ofChange fnExactCheckLayoutSpec)

/-- ITS FALSE NEIGHBOUR: 'it returns false'. Refute it at one input. -/
def fnExactCheckLayoutWrong : ChangeSpec := { name := "fnExactCheckLayout", fn := fun _ => fun
  | [d1, d2] => { results := [.lit (.bool false)], args := [d1, d2] }
  | _ => none }
def FnExactCheckLayoutWrongFalsely : Prop := fnExactCheckLayoutRow.holds Tryz.pinned (OpenSpec.ofChange fnExactCheckLayoutWrong)

/-- 'laws.FnReport': WHATEVER THE INPUT: true; the input reads as it did. -/
def fnReportSpec : ChangeSpec := { name := "fnReport", fn := fun _ => fun
  | [d] => { results := [.lit (.bool true)], args := [d] }
  | _ => none }
def fnReportRow : OpenClaim := { program := "ytbljapihmkmolaagreat", sum := "5ecc5df62890b74d71f7b27c60b5bc2614da9fa6aebdd9fe828aabbd28a916f9", func := "loop.example/g00890/laws.FnReport", spec := "fnReport", unfollowed := true, recurses := true, apart := false }
def FnReportSaid : Prop := fnReportRow.holds Tryz.pinned (OpenSpec.ofChange fnReportSpec)

/-- ITS FALSE NEIGHBOUR: 'it returns false'. Refute it at one input. -/
def fnReportWrong : ChangeSpec := { name := "fnReport", fn := fun _ => fun
  | [d] => { results := [.lit (.bool false)], args := [d] }
  | _ => none }
def FnReportWrongFalsely : Prop := fnReportRow.holds Tryz.pinned (OpenSpec.ofChange fnReportWrong)

/-- 'laws.FnMarkersTurned': WHATEVER THE INPUT: true; the input reads as it did. -/
def fnMarkersTurnedSpec : ChangeSpec := { name := "fnMarkersTurned", fn := fun _ => fun
  | [d] => { results := [.lit (.bool true)], args := [d] }
  | _ => none }
def fnMarkersTurnedRow : OpenClaim := { program := "ytbljapihmkmolaagreat", sum := "5ecc5df62890b74d71f7b27c60b5bc2614da9fa6aebdd9fe828aabbd28a916f9", func := "loop.example/g00890/laws.FnMarkersTurned", spec := "fnMarkersTurned", unfollowed := true, recurses := true, apart := false }
def FnMarkersTurnedSaid : Prop := fnMarkersTurnedRow.holds Tryz.pinned (OpenSpec.ofChange fnMarkersTurnedSpec)

/-- ITS FALSE NEIGHBOUR: 'it returns false'. Refute it at one input. -/
def fnMarkersTurnedWrong : ChangeSpec := { name := "fnMarkersTurned", fn := fun _ => fun
  | [d] => { results := [.lit (.bool false)], args := [d] }
  | _ => none }
def FnMarkersTurnedWrongFalsely : Prop := fnMarkersTurnedRow.holds Tryz.pinned (OpenSpec.ofChange fnMarkersTurnedWrong)

/-- 'laws.FnLocality': WHATEVER THE INPUT: true; the input reads as it did. -/
def fnLocalitySpec : ChangeSpec := { name := "fnLocality", fn := fun _ => fun
  | [d] => { results := [.lit (.bool true)], args := [d] }
  | _ => none }
def fnLocalityRow : OpenClaim := { program := "ytbljapihmkmolaagreat", sum := "5ecc5df62890b74d71f7b27c60b5bc2614da9fa6aebdd9fe828aabbd28a916f9", func := "loop.example/g00890/laws.FnLocality", spec := "fnLocality", unfollowed := true, recurses := true, apart := false }
def FnLocalitySaid : Prop := fnLocalityRow.holds Tryz.pinned (OpenSpec.ofChange fnLocalitySpec)

/-- ITS FALSE NEIGHBOUR: 'it returns false'. Refute it at one input. -/
def fnLocalityWrong : ChangeSpec := { name := "fnLocality", fn := fun _ => fun
  | [d] => { results := [.lit (.bool false)], args := [d] }
  | _ => none }
def FnLocalityWrongFalsely : Prop := fnLocalityRow.holds Tryz.pinned (OpenSpec.ofChange fnLocalityWrong)

/- THE SECOND FORM. 'bulk': how many values and letters a reading holds, each counted each time it is reached (what is shared counts as often as it is met; a slice's spare places count too). A statement '..UptoSaid' is the law's where the arguments, and the package variables that the reading takes, are together of bulk at most 1048576: NARROWER than '..Said'. Prove '..Said' where nothing that the law and all that it calls make is longer than what came in: it says more and counts as full. Else prove '..UptoSaid'. A law counts once. -/
mutual
def uptoBulk {H : Type} : DataW H → Nat
  | .lit (.string bytes) => bytes.length + 1
  | .lit _ => 1
  | .nil => 1
  | .ptr d => uptoBulk d + 1
  | .slice elems spare => uptoBulkAll elems + uptoBulkAll spare + 1
  | .agg parts => uptoBulkAll parts + 1
  | .iface _ d => uptoBulk d + 1
  | .map entries => uptoBulkEntries entries + 1
  | .held _ => 1
def uptoBulkAll {H : Type} : List (DataW H) → Nat
  | [] => 0
  | d :: r => uptoBulk d + uptoBulkAll r
def uptoBulkEntries {H : Type} : List (Lit × DataW H) → Nat
  | [] => 0
  | x :: r => uptoBulkEntry x + uptoBulkEntries r
def uptoBulkEntry {H : Type} : Lit × DataW H → Nat
  | (.string bytes, d) => bytes.length + uptoBulk d + 1
  | (_, d) => uptoBulk d + 1
 end
def uptoSmall : (H : Type) → List (DataW H) → Bool := fun _ ds => decide (uptoBulkAll ds ≤ 1048576)
def OpenSpec.upto (s : _root_.Go.ChangeSpec) : _root_.Go.OpenSpec := { _root_.Go.OpenSpec.ofChange s with cond := some uptoSmall }

/-- 'laws.FnExactRuleMarkers', WHERE WHAT IT READS IS OF BULK AT MOST 1048576: true; the input reads as it did. -/
def fnExactRuleMarkersUptoRow : OpenClaim := { program := "ytbljapihmkmolaagreat", sum := "5ecc5df62890b74d71f7b27c60b5bc2614da9fa6aebdd9fe828aabbd28a916f9", func := "loop.example/g00890/laws.FnExactRuleMarkers", spec := "fnExactRuleMarkers", unfollowed := true, recurses := true, apart := false, narrowed := true }
def FnExactRuleMarkersUptoSaid : Prop := fnExactRuleMarkersUptoRow.holds Tryz.pinned (OpenSpec.upto fnExactRuleMarkersSpec)

/-- 'laws.FnExactIsClean', WHERE WHAT IT READS IS OF BULK AT MOST 1048576: true; the input reads as it did. -/
def fnExactIsCleanUptoRow : OpenClaim := { program := "ytbljapihmkmolaagreat", sum := "5ecc5df62890b74d71f7b27c60b5bc2614da9fa6aebdd9fe828aabbd28a916f9", func := "loop.example/g00890/laws.FnExactIsClean", spec := "fnExactIsClean", unfollowed := true, recurses := true, apart := false, narrowed := true }
def FnExactIsCleanUptoSaid : Prop := fnExactIsCleanUptoRow.holds Tryz.pinned (OpenSpec.upto fnExactIsCleanSpec)

/-- 'laws.FnExactCheckLayout', WHERE WHAT IT READS IS OF BULK AT MOST 1048576: true; the input reads as it did. -/
def fnExactCheckLayoutUptoRow : OpenClaim := { program := "ytbljapihmkmolaagreat", sum := "5ecc5df62890b74d71f7b27c60b5bc2614da9fa6aebdd9fe828aabbd28a916f9", func := "loop.example/g00890/laws.FnExactCheckLayout", spec := "fnExactCheckLayout", unfollowed := true, recurses := true, apart := false, narrowed := true }
def FnExactCheckLayoutUptoSaid : Prop := fnExactCheckLayoutUptoRow.holds Tryz.pinned (OpenSpec.upto fnExactCheckLayoutSpec)

/-- 'laws.FnReport', WHERE WHAT IT READS IS OF BULK AT MOST 1048576: true; the input reads as it did. -/
def fnReportUptoRow : OpenClaim := { program := "ytbljapihmkmolaagreat", sum := "5ecc5df62890b74d71f7b27c60b5bc2614da9fa6aebdd9fe828aabbd28a916f9", func := "loop.example/g00890/laws.FnReport", spec := "fnReport", unfollowed := true, recurses := true, apart := false, narrowed := true }
def FnReportUptoSaid : Prop := fnReportUptoRow.holds Tryz.pinned (OpenSpec.upto fnReportSpec)

/-- 'laws.FnMarkersTurned', WHERE WHAT IT READS IS OF BULK AT MOST 1048576: true; the input reads as it did. -/
def fnMarkersTurnedUptoRow : OpenClaim := { program := "ytbljapihmkmolaagreat", sum := "5ecc5df62890b74d71f7b27c60b5bc2614da9fa6aebdd9fe828aabbd28a916f9", func := "loop.example/g00890/laws.FnMarkersTurned", spec := "fnMarkersTurned", unfollowed := true, recurses := true, apart := false, narrowed := true }
def FnMarkersTurnedUptoSaid : Prop := fnMarkersTurnedUptoRow.holds Tryz.pinned (OpenSpec.upto fnMarkersTurnedSpec)

/-- 'laws.FnLocality', WHERE WHAT IT READS IS OF BULK AT MOST 1048576: true; the input reads as it did. -/
def fnLocalityUptoRow : OpenClaim := { program := "ytbljapihmkmolaagreat", sum := "5ecc5df62890b74d71f7b27c60b5bc2614da9fa6aebdd9fe828aabbd28a916f9", func := "loop.example/g00890/laws.FnLocality", spec := "fnLocality", unfollowed := true, recurses := true, apart := false, narrowed := true }
def FnLocalityUptoSaid : Prop := fnLocalityUptoRow.holds Tryz.pinned (OpenSpec.upto fnLocalitySpec)

end Rows
end Go.Proofs.YtbljapihmkmolaaGreat
