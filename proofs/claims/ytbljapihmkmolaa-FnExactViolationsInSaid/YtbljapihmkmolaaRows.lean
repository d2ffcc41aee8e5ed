/-
  No cell of these rows narrows 'for every input' (looked for: loops, veiled, ifaces, maps, wideKeys, modest, calm, conditions, laid).
  DERIVED. THE GIVEN ROWS OF THIS SEAT. 6 by the template 'for every input the law returns true; each argument reads behind the call as it read before'; 0 by the template 'total and deterministic' (their statements: YtbljapihmkmolaaTotals.lean).
  GIVEN WITH THE SEED: the statements are not yours to turn. If you find one false, say at which input.
  Laid BY PROGRAM, IN A SANDBOX (cutbox-rows.mjs): the forced cells as the released guide's own fill.sh prints them over the translation efe4680e1a98882b… (all of the seat's roots in one cut). By AI agents, Wed Nov 11 2026. No macro, syntax, notation, axiom, sorry.
-/
import Derived.Test.YtbljapihmkmolaaChecked
import GoSem.Claim
import GoSem.ClaimJoined
import GoSem.ClaimMapViews
import Derived.JoinedTies
import Derived.KernelRfl
namespace Go.Proofs.Ytbljapihmkmolaa
/- THE CELL 'sum', in the pinned program and in every row, IS THE sha256 OF THE DUMP (.gsa) THAT YtbljapihmkmolaaProg.lean LOADS. Nothing in Lean hashes anything: it is a label: what it is worth is what the hold of that sum in a sandbox is worth. -/
noncomputable def Try.pinned : Pinned := { name := "ytbljapihmkmolaa", sum := "efe4680e1a98882b4a47335b58bca082f5c4aa92c9ae230e9d931343aa61ecdb", checked := Try.checked }
namespace Rows
def none {H : Type} : Left H := { results := [], args := [] }

/-- 'laws.FnExactIsValidViolation': WHATEVER THE INPUT: true; the input reads as it did. -/
def fnExactIsValidViolationSpec : ChangeSpec := { name := "fnExactIsValidViolation", fn := fun _ => fun
  | [d] => { results := [.lit (.bool true)], args := [d] }
  | _ => none }
def fnExactIsValidViolationRow : OpenClaim := { program := "ytbljapihmkmolaa", sum := "efe4680e1a98882b4a47335b58bca082f5c4aa92c9ae230e9d931343aa61ecdb", func := "loop.example/g00890/laws.FnExactIsValidViolation", spec := "fnExactIsValidViolation", unfollowed := true, recurses := true, apart := false }
def FnExactIsValidViolationSaid : Prop := fnExactIsValidViolationRow.holds Try.pinned (OpenSpec.ofChange fnExactIsValidViolationSpec)

/-- ITS FALSE NEIGHBOUR: 'it returns false'. Refute it at one input. -/
def fnExactIsValidViolationWrong : ChangeSpec := { name := "fnExactIsValidViolation", fn := fun _ => fun
  | [d] => { results := [.lit (.bool false)], args := [d] }
  | _ => none }
def FnExactIsValidViolationWrongFalsely : Prop := fnExactIsValidViolationRow.holds Try.pinned (OpenSpec.ofChange fnExactIsValidViolationWrong)

/-- 'laws.FnExactViolationBox': WHATEVER THE INPUT: true; the input reads as it did. -/
def fnExactViolationBoxSpec : ChangeSpec := { name := "fnExactViolationBox", fn := fun _ => fun
  | [d] => { results := [.lit (.bool true)], args := [d] }
  | _ => none }
def fnExactViolationBoxRow : OpenClaim := { program := "ytbljapihmkmolaa", sum := "efe4680e1a98882b4a47335b58bca082f5c4aa92c9ae230e9d931343aa61ecdb", func := "loop.example/g00890/laws.FnExactViolationBox", spec := "fnExactViolationBox", unfollowed := true, recurses := true, apart := false }
def FnExactViolationBoxSaid : Prop := fnExactViolationBoxRow.holds Try.pinned (OpenSpec.ofChange fnExactViolationBoxSpec)

/-- ITS FALSE NEIGHBOUR: 'it returns false'. Refute it at one input. -/
def fnExactViolationBoxWrong : ChangeSpec := { name := "fnExactViolationBox", fn := fun _ => fun
  | [d] => { results := [.lit (.bool false)], args := [d] }
  | _ => none }
def FnExactViolationBoxWrongFalsely : Prop := fnExactViolationBoxRow.holds Try.pinned (OpenSpec.ofChange fnExactViolationBoxWrong)

/-- 'laws.FnExactIsReport': WHATEVER THE INPUT: true; the input reads as it did. -/
def fnExactIsReportSpec : ChangeSpec := { name := "fnExactIsReport", fn := fun _ => fun
  | [d] => { results := [.lit (.bool true)], args := [d] }
  | _ => none }
def fnExactIsReportRow : OpenClaim := { program := "ytbljapihmkmolaa", sum := "efe4680e1a98882b4a47335b58bca082f5c4aa92c9ae230e9d931343aa61ecdb", func := "loop.example/g00890/laws.FnExactIsReport", spec := "fnExactIsReport", unfollowed := true, recurses := true, apart := false }
def FnExactIsReportSaid : Prop := fnExactIsReportRow.holds Try.pinned (OpenSpec.ofChange fnExactIsReportSpec)

/-- ITS FALSE NEIGHBOUR: 'it returns false'. Refute it at one input. -/
def fnExactIsReportWrong : ChangeSpec := { name := "fnExactIsReport", fn := fun _ => fun
  | [d] => { results := [.lit (.bool false)], args := [d] }
  | _ => none }
def FnExactIsReportWrongFalsely : Prop := fnExactIsReportRow.holds Try.pinned (OpenSpec.ofChange fnExactIsReportWrong)

/-- 'laws.FnExactCountByRule': WHATEVER THE INPUT: true; the input reads as it did. -/
def fnExactCountByRuleSpec : ChangeSpec := { name := "fnExactCountByRule", fn := fun _ => fun
  | [d1, d2] => { results := [.lit (.bool true)], args := [d1, d2] }
  | _ => none }
def fnExactCountByRuleRow : OpenClaim := { program := "ytbljapihmkmolaa", sum := "efe4680e1a98882b4a47335b58bca082f5c4aa92c9ae230e9d931343aa61ecdb", func := "loop.example/g00890/laws.FnExactCountByRule", spec := "fnExactCountByRule", unfollowed := true, recurses := true, apart := false }
def FnExactCountByRuleSaid : Prop := fnExactCountByRuleRow.holds Try.pinned (OpenSpec.ofChange fnExactCountByRuleSpec)

/-- ITS FALSE NEIGHBOUR: 'it returns false'. Refute it at one input. -/
def fnExactCountByRuleWrong : ChangeSpec := { name := "fnExactCountByRule", fn := fun _ => fun
  | [d1, d2] => { results := [.lit (.bool false)], args := [d1, d2] }
  | _ => none }
def FnExactCountByRuleWrongFalsely : Prop := fnExactCountByRuleRow.holds Try.pinned (OpenSpec.ofChange fnExactCountByRuleWrong)

/-- 'laws.FnExactMarkerUnion': WHATEVER THE INPUT: true; the input reads as it did. -/
def fnExactMarkerUnionSpec : ChangeSpec := { name := "fnExactMarkerUnion", fn := fun _ => fun
  | [d1, d2] => { results := [.lit (.bool true)], args := [d1, d2] }
  | _ => none }
def fnExactMarkerUnionRow : OpenClaim := { program := "ytbljapihmkmolaa", sum := "efe4680e1a98882b4a47335b58bca082f5c4aa92c9ae230e9d931343aa61ecdb", func := "loop.example/g00890/laws.FnExactMarkerUnion", spec := "fnExactMarkerUnion", unfollowed := true, recurses := true, apart := false }
def FnExactMarkerUnionSaid : Prop := fnExactMarkerUnionRow.holds Try.pinned (OpenSpec.ofChange fnExactMarkerUnionSpec)

/-- ITS FALSE NEIGHBOUR: 'it returns false'. Refute it at one input. -/
def fnExactMarkerUnionWrong : ChangeSpec := { name := "fnExactMarkerUnion", fn := fun _ => fun
  | [d1, d2] => { results := [.lit (.bool false)], args := [d1, d2] }
  | _ => none }
def FnExactMarkerUnionWrongFalsely : Prop := fnExactMarkerUnionRow.holds Try.pinned (OpenSpec.ofChange fnExactMarkerUnionWrong)

/-- 'laws.FnExactViolationsIn': WHATEVER THE INPUT: true; the input reads as it did. -/
def fnExactViolationsInSpec : ChangeSpec := { name := "fnExactViolationsIn", fn := fun _ => fun
  | [d1, d2] => { results := [.lit (.bool true)], args := [d1, d2] }
  | _ => none }
def fnExactViolationsInRow : OpenClaim := { program := "ytbljapihmkmolaa", sum := "efe4680e1a98882b4a47335b58bca082f5c4aa92c9ae230e9d931343aa61ecdb", func := "loop.example/g00890/laws.FnExactViolationsIn", spec := "fnExactViolationsIn", unfollowed := true, recurses := true, apart := false }
def FnExactViolationsInSaid : Prop := fnExactViolationsInRow.holds Try.pinned (OpenSpec.ofChange fnExactViolationsInSpec)

/-- ITS FALSE NEIGHBOUR: 'it returns false'. Refute it at one input. -/
def fnExactViolationsInWrong : ChangeSpec := { name := "fnExactViolationsIn", fn := fun _ => fun
  | [d1, d2] => { results := [.lit (.bool false)], args := [d1, d2] }
  | _ => none }
def FnExactViolationsInWrongFalsely : Prop := fnExactViolationsInRow.holds Try.pinned (OpenSpec.ofChange fnExactViolationsInWrong)

/- THE SECOND FORM. 'bulk': how many values and letters a reading holds, each counted each time it is reached (what is shared counts as often as it is met; a slice's spare places count too). A statement '..UptoSaid' is the law's where the arguments, and the package variables that the reading takes, are together of bulk at most 1048576: NARROWER than '..Said'. Prove '..Said' where nothing that the law and all that it calls make is longer than what came in: it says more and counts as full. Else prove '..UptoSaid'. A law counts once. -/
mutual
def uptoBulk {H : Type} : DataW H → Nat
  | .lit (.string bytes) => bytes.length + 1
  | .lit _ => 1
  | .nil => 1
  | .ptr d => uptoBulk d + 1
  | .slice elems spare => uptoBulkAll elems + uptoBulkAll spare + 1
  | .agg parts => uptoBulkAll parts + 1
  | .iface _ d => uptoBulk d + 1
  | .map entries => uptoBulkEntries entries + 1
  | .held _ => 1
def uptoBulkAll {H : Type} : List (DataW H) → Nat
  | [] => 0
  | d :: r => uptoBulk d + uptoBulkAll r
def uptoBulkEntries {H : Type} : List (Lit × DataW H) → Nat
  | [] => 0
  | x :: r => uptoBulkEntry x + uptoBulkEntries r
def uptoBulkEntry {H : Type} : Lit × DataW H → Nat
  | (.string bytes, d) => bytes.length + uptoBulk d + 1
  | (_, d) => uptoBulk d + 1
 end
def uptoSmall : (H : Type) → List (DataW H) → Bool := fun _ ds => decide (uptoBulkAll ds ≤ 1048576)
def OpenSpec.upto (s : _root_.Go.ChangeSpec) : _root_.Go.OpenSpec := { _root_.Go.OpenSpec.ofChange s with cond := some uptoSmall }

/-- 'laws.FnExactIsValidViolation', WHERE WHAT IT READS IS OF BULK AT MOST 1048576: true; the input reads as it did. -/
def fnExactIsValidViolationUptoRow : OpenClaim := { program := "ytbljapihmkmolaa", sum := "efe4680e1a98882b4a47335b58bca082f5c4aa92c9ae230e9d931343aa61ecdb", func := "loop.example/g00890/laws.FnExactIsValidViolation", spec := "fnExactIsValidViolation", unfollowed := true, recurses := true, apart := false, narrowed := true }
def FnExactIsValidViolationUptoSaid : Prop := fnExactIsValidViolationUptoRow.holds Try.pinned (OpenSpec.upto fnExactIsValidViolationSpec)

/-- 'laws.FnExactViolationBox', WHERE WHAT IT READS IS OF BULK AT MOST 1048576: true; the input reads as it did. -/
def fnExactViolationBoxUptoRow : OpenClaim := { program := "ytbljapihmkmolaa", sum := "efe4680e1a98882b4a47335b58bca082f5c4aa92c9ae230e9d931343aa61ecdb", func := "loop.example/g00890/laws.FnExactViolationBox", spec := "fnExactViolationBox", unfollowed := true, recurses := true, apart := false, narrowed := true }
def FnExactViolationBoxUptoSaid : Prop := fnExactViolationBoxUptoRow.holds Try.pinned (OpenSpec.upto fnExactViolationBoxSpec)

/-- 'laws.FnExactIsReport', WHERE WHAT IT READS IS OF BULK AT MOST 1048576: true; the input reads as it did. -/
def fnExactIsReportUptoRow : OpenClaim := { program := "ytbljapihmkmolaa", sum := "efe4680e1a98882b4a47335b58bca082f5c4aa92c9ae230e9d931343aa61ecdb", func := "loop.example/g00890/laws.FnExactIsReport", spec := "fnExactIsReport", unfollowed := true, recurses := true, apart := false, narrowed := true }
def FnExactIsReportUptoSaid : Prop := fnExactIsReportUptoRow.holds Try.pinned (OpenSpec.upto fnExactIsReportSpec)

/-- 'laws.FnExactCountByRule', WHERE WHAT IT READS IS OF BULK AT MOST 1048576: true; the input reads as it did. -/
def fnExactCountByRuleUptoRow : OpenClaim := { program := "ytbljapihmkmolaa", sum := "efe4680e1a98882b4a47335b58bca082f5c4aa92c9ae230e9d931343aa61ecdb", func := "loop.example/g00890/laws.FnExactCountByRule", spec := "fnExactCountByRule", unfollowed := true, recurses := true, apart := false, narrowed := true }
def FnExactCountByRuleUptoSaid : Prop := fnExactCountByRuleUptoRow.holds Try.pinned (OpenSpec.upto fnExactCountByRuleSpec)

/-- 'laws.FnExactMarkerUnion', WHERE WHAT IT READS IS OF BULK AT MOST 1048576: true; the input reads as it did. -/
def fnExactMarkerUnionUptoRow : OpenClaim := { program := "ytbljapihmkmolaa", sum := "efe4680e1a98882b4a47335b58bca082f5c4aa92c9ae230e9d931343aa61ecdb", func := "loop.example/g00890/laws.FnExactMarkerUnion", spec := "fnExactMarkerUnion", unfollowed := true, recurses := true, apart := false, narrowed := true }
def FnExactMarkerUnionUptoSaid : Prop := fnExactMarkerUnionUptoRow.holds Try.pinned (OpenSpec.upto fnExactMarkerUnionSpec)

/-- 'laws.FnExactViolationsIn', WHERE WHAT IT READS IS OF BULK AT MOST 1048576: true; the input reads as it did. -/
def fnExactViolationsInUptoRow : OpenClaim := { program := "ytbljapihmkmolaa", sum := "efe4680e1a98882b4a47335b58bca082f5c4aa92c9ae230e9d931343aa61ecdb", func := "loop.example/g00890/laws.FnExactViolationsIn", spec := "fnExactViolationsIn", unfollowed := true, recurses := true, apart := false, narrowed := true }
def FnExactViolationsInUptoSaid : Prop := fnExactViolationsInUptoRow.holds Try.pinned (OpenSpec.upto fnExactViolationsInSpec)

end Rows
end Go.Proofs.Ytbljapihmkmolaa
