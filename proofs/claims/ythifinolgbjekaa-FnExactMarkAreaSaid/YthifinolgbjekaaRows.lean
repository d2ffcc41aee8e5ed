/-
  No cell of these rows narrows 'for every input' (looked for: loops, veiled, ifaces, maps, wideKeys, modest, calm, conditions, laid).
  DERIVED. THE GIVEN ROWS OF THIS SEAT. 11 by the template 'for every input the law returns true; each argument reads behind the call as it read before'; 0 by the template 'total and deterministic' (their statements: YthifinolgbjekaaTotals.lean).
  GIVEN WITH THE SEED: the statements are not yours to turn. If you find one false, say at which input.
  Laid BY PROGRAM, IN A SANDBOX (cutbox-rows.mjs): the forced cells as the released guide's own fill.sh prints them over the translation 83fedaaacfded051… (all of the seat's roots in one cut). By AI agents, Wed Nov 11 2026. No macro, syntax, notation, axiom, sorry.
-/
import Derived.Test.YthifinolgbjekaaChecked
import GoSem.Claim
import GoSem.ClaimJoined
import GoSem.ClaimMapViews
import Derived.JoinedTies
import Derived.KernelRfl
namespace Go.Proofs.Ythifinolgbjekaa
/- THE CELL 'sum', in the pinned program and in every row, IS THE sha256 OF THE DUMP (.gsa) THAT YthifinolgbjekaaProg.lean LOADS. Nothing in Lean hashes anything: it is a label: what it is worth is what the hold of that sum in a sandbox is worth. -/
noncomputable def Try.pinned : Pinned := { name := "ythifinolgbjekaa", sum := "83fedaaacfded0516a3aecabdc8c20cd0953a5d3d97762edc4cc993d6cbede7a", checked := Try.checked }
namespace Rows
def none {H : Type} : Left H := { results := [], args := [] }

/-- 'laws.FnExactMarkDensity': WHATEVER THE INPUT: true; the input reads as it did. -/
def fnExactMarkDensitySpec : ChangeSpec := { name := "fnExactMarkDensity", fn := fun _ => fun
  | [d1, d2, d3] => { results := [.lit (.bool true)], args := [d1, d2, d3] }
  | _ => none }
def fnExactMarkDensityRow : OpenClaim := { program := "ythifinolgbjekaa", sum := "83fedaaacfded0516a3aecabdc8c20cd0953a5d3d97762edc4cc993d6cbede7a", func := "loop.example/g00890/laws.FnExactMarkDensity", spec := "fnExactMarkDensity", unfollowed := true, recurses := true, apart := false }
def FnExactMarkDensitySaid : Prop := fnExactMarkDensityRow.holds Try.pinned (OpenSpec.ofChange fnExactMarkDensitySpec)

/-- ITS FALSE NEIGHBOUR: 'it returns false'. Refute it at one input. -/
def fnExactMarkDensityWrong : ChangeSpec := { name := "fnExactMarkDensity", fn := fun _ => fun
  | [d1, d2, d3] => { results := [.lit (.bool false)], args := [d1, d2, d3] }
  | _ => none }
def FnExactMarkDensityWrongFalsely : Prop := fnExactMarkDensityRow.holds Try.pinned (OpenSpec.ofChange fnExactMarkDensityWrong)

/-- 'laws.FnExactWidthHistogram': WHATEVER THE INPUT: true; the input reads as it did. -/
def fnExactWidthHistogramSpec : ChangeSpec := { name := "fnExactWidthHistogram", fn := fun _ => fun
  | [d] => { results := [.lit (.bool true)], args := [d] }
  | _ => none }
def fnExactWidthHistogramRow : OpenClaim := { program := "ythifinolgbjekaa", sum := "83fedaaacfded0516a3aecabdc8c20cd0953a5d3d97762edc4cc993d6cbede7a", func := "loop.example/g00890/laws.FnExactWidthHistogram", spec := "fnExactWidthHistogram", unfollowed := true, recurses := true, apart := false }
def FnExactWidthHistogramSaid : Prop := fnExactWidthHistogramRow.holds Try.pinned (OpenSpec.ofChange fnExactWidthHistogramSpec)

/-- ITS FALSE NEIGHBOUR: 'it returns false'. Refute it at one input. -/
def fnExactWidthHistogramWrong : ChangeSpec := { name := "fnExactWidthHistogram", fn := fun _ => fun
  | [d] => { results := [.lit (.bool false)], args := [d] }
  | _ => none }
def FnExactWidthHistogramWrongFalsely : Prop := fnExactWidthHistogramRow.holds Try.pinned (OpenSpec.ofChange fnExactWidthHistogramWrong)

/-- 'laws.FnExactMinSpacing': WHATEVER THE INPUT: true; the input reads as it did. -/
def fnExactMinSpacingSpec : ChangeSpec := { name := "fnExactMinSpacing", fn := fun _ => fun
  | [d] => { results := [.lit (.bool true)], args := [d] }
  | _ => none }
def fnExactMinSpacingRow : OpenClaim := { program := "ythifinolgbjekaa", sum := "83fedaaacfded0516a3aecabdc8c20cd0953a5d3d97762edc4cc993d6cbede7a", func := "loop.example/g00890/laws.FnExactMinSpacing", spec := "fnExactMinSpacing", unfollowed := true, recurses := true, apart := false }
def FnExactMinSpacingSaid : Prop := fnExactMinSpacingRow.holds Try.pinned (OpenSpec.ofChange fnExactMinSpacingSpec)

/-- ITS FALSE NEIGHBOUR: 'it returns false'. Refute it at one input. -/
def fnExactMinSpacingWrong : ChangeSpec := { name := "fnExactMinSpacing", fn := fun _ => fun
  | [d] => { results := [.lit (.bool false)], args := [d] }
  | _ => none }
def FnExactMinSpacingWrongFalsely : Prop := fnExactMinSpacingRow.holds Try.pinned (OpenSpec.ofChange fnExactMinSpacingWrong)

/-- 'laws.FnExactSpacingWitness': WHATEVER THE INPUT: true; the input reads as it did. -/
def fnExactSpacingWitnessSpec : ChangeSpec := { name := "fnExactSpacingWitness", fn := fun _ => fun
  | [d1, d2] => { results := [.lit (.bool true)], args := [d1, d2] }
  | _ => none }
def fnExactSpacingWitnessRow : OpenClaim := { program := "ythifinolgbjekaa", sum := "83fedaaacfded0516a3aecabdc8c20cd0953a5d3d97762edc4cc993d6cbede7a", func := "loop.example/g00890/laws.FnExactSpacingWitness", spec := "fnExactSpacingWitness", unfollowed := true, recurses := true, apart := false }
def FnExactSpacingWitnessSaid : Prop := fnExactSpacingWitnessRow.holds Try.pinned (OpenSpec.ofChange fnExactSpacingWitnessSpec)

/-- ITS FALSE NEIGHBOUR: 'it returns false'. Refute it at one input. -/
def fnExactSpacingWitnessWrong : ChangeSpec := { name := "fnExactSpacingWitness", fn := fun _ => fun
  | [d1, d2] => { results := [.lit (.bool false)], args := [d1, d2] }
  | _ => none }
def FnExactSpacingWitnessWrongFalsely : Prop := fnExactSpacingWitnessRow.holds Try.pinned (OpenSpec.ofChange fnExactSpacingWitnessWrong)

/-- 'laws.FnExactHorizontalGaps': WHATEVER THE INPUT: true; the input reads as it did. -/
def fnExactHorizontalGapsSpec : ChangeSpec := { name := "fnExactHorizontalGaps", fn := fun _ => fun
  | [d] => { results := [.lit (.bool true)], args := [d] }
  | _ => none }
def fnExactHorizontalGapsRow : OpenClaim := { program := "ythifinolgbjekaa", sum := "83fedaaacfded0516a3aecabdc8c20cd0953a5d3d97762edc4cc993d6cbede7a", func := "loop.example/g00890/laws.FnExactHorizontalGaps", spec := "fnExactHorizontalGaps", unfollowed := true, recurses := true, apart := false }
def FnExactHorizontalGapsSaid : Prop := fnExactHorizontalGapsRow.holds Try.pinned (OpenSpec.ofChange fnExactHorizontalGapsSpec)

/-- ITS FALSE NEIGHBOUR: 'it returns false'. Refute it at one input. -/
def fnExactHorizontalGapsWrong : ChangeSpec := { name := "fnExactHorizontalGaps", fn := fun _ => fun
  | [d] => { results := [.lit (.bool false)], args := [d] }
  | _ => none }
def FnExactHorizontalGapsWrongFalsely : Prop := fnExactHorizontalGapsRow.holds Try.pinned (OpenSpec.ofChange fnExactHorizontalGapsWrong)

/-- 'laws.FnExactVerticalGaps': WHATEVER THE INPUT: true; the input reads as it did. -/
def fnExactVerticalGapsSpec : ChangeSpec := { name := "fnExactVerticalGaps", fn := fun _ => fun
  | [d] => { results := [.lit (.bool true)], args := [d] }
  | _ => none }
def fnExactVerticalGapsRow : OpenClaim := { program := "ythifinolgbjekaa", sum := "83fedaaacfded0516a3aecabdc8c20cd0953a5d3d97762edc4cc993d6cbede7a", func := "loop.example/g00890/laws.FnExactVerticalGaps", spec := "fnExactVerticalGaps", unfollowed := true, recurses := true, apart := false }
def FnExactVerticalGapsSaid : Prop := fnExactVerticalGapsRow.holds Try.pinned (OpenSpec.ofChange fnExactVerticalGapsSpec)

/-- ITS FALSE NEIGHBOUR: 'it returns false'. Refute it at one input. -/
def fnExactVerticalGapsWrong : ChangeSpec := { name := "fnExactVerticalGaps", fn := fun _ => fun
  | [d] => { results := [.lit (.bool false)], args := [d] }
  | _ => none }
def FnExactVerticalGapsWrongFalsely : Prop := fnExactVerticalGapsRow.holds Try.pinned (OpenSpec.ofChange fnExactVerticalGapsWrong)

/-- 'laws.FnExactMarkSpacing': WHATEVER THE INPUT: true; the input reads as it did. -/
def fnExactMarkSpacingSpec : ChangeSpec := { name := "fnExactMarkSpacing", fn := fun _ => fun
  | [d1, d2] => { results := [.lit (.bool true)], args := [d1, d2] }
  | _ => none }
def fnExactMarkSpacingRow : OpenClaim := { program := "ythifinolgbjekaa", sum := "83fedaaacfded0516a3aecabdc8c20cd0953a5d3d97762edc4cc993d6cbede7a", func := "loop.example/g00890/laws.FnExactMarkSpacing", spec := "fnExactMarkSpacing", unfollowed := true, recurses := true, apart := false }
def FnExactMarkSpacingSaid : Prop := fnExactMarkSpacingRow.holds Try.pinned (OpenSpec.ofChange fnExactMarkSpacingSpec)

/-- ITS FALSE NEIGHBOUR: 'it returns false'. Refute it at one input. -/
def fnExactMarkSpacingWrong : ChangeSpec := { name := "fnExactMarkSpacing", fn := fun _ => fun
  | [d1, d2] => { results := [.lit (.bool false)], args := [d1, d2] }
  | _ => none }
def FnExactMarkSpacingWrongFalsely : Prop := fnExactMarkSpacingRow.holds Try.pinned (OpenSpec.ofChange fnExactMarkSpacingWrong)

/-- 'laws.FnExactMinSpacingBetween': WHATEVER THE INPUT: true; the input reads as it did. -/
def fnExactMinSpacingBetweenSpec : ChangeSpec := { name := "fnExactMinSpacingBetween", fn := fun _ => fun
  | [d1, d2] => { results := [.lit (.bool true)], args := [d1, d2] }
  | _ => none }
def fnExactMinSpacingBetweenRow : OpenClaim := { program := "ythifinolgbjekaa", sum := "83fedaaacfded0516a3aecabdc8c20cd0953a5d3d97762edc4cc993d6cbede7a", func := "loop.example/g00890/laws.FnExactMinSpacingBetween", spec := "fnExactMinSpacingBetween", unfollowed := true, recurses := true, apart := false }
def FnExactMinSpacingBetweenSaid : Prop := fnExactMinSpacingBetweenRow.holds Try.pinned (OpenSpec.ofChange fnExactMinSpacingBetweenSpec)

/-- ITS FALSE NEIGHBOUR: 'it returns false'. Refute it at one input. -/
def fnExactMinSpacingBetweenWrong : ChangeSpec := { name := "fnExactMinSpacingBetween", fn := fun _ => fun
  | [d1, d2] => { results := [.lit (.bool false)], args := [d1, d2] }
  | _ => none }
def FnExactMinSpacingBetweenWrongFalsely : Prop := fnExactMinSpacingBetweenRow.holds Try.pinned (OpenSpec.ofChange fnExactMinSpacingBetweenWrong)

/-- 'laws.FnExactMarkSpacingBetween': WHATEVER THE INPUT: true; the input reads as it did. -/
def fnExactMarkSpacingBetweenSpec : ChangeSpec := { name := "fnExactMarkSpacingBetween", fn := fun _ => fun
  | [d1, d2, d3] => { results := [.lit (.bool true)], args := [d1, d2, d3] }
  | _ => none }
def fnExactMarkSpacingBetweenRow : OpenClaim := { program := "ythifinolgbjekaa", sum := "83fedaaacfded0516a3aecabdc8c20cd0953a5d3d97762edc4cc993d6cbede7a", func := "loop.example/g00890/laws.FnExactMarkSpacingBetween", spec := "fnExactMarkSpacingBetween", unfollowed := true, recurses := true, apart := false }
def FnExactMarkSpacingBetweenSaid : Prop := fnExactMarkSpacingBetweenRow.holds Try.pinned (OpenSpec.ofChange fnExactMarkSpacingBetweenSpec)

/-- ITS FALSE NEIGHBOUR: 'it returns false'. Refute it at one input. -/
def fnExactMarkSpacingBetweenWrong : ChangeSpec := { name := "fnExactMarkSpacingBetween", fn := fun _ => fun
  | [d1, d2, d3] => { results := [.lit (.bool false)], args := [d1, d2, d3] }
  | _ => none }
def FnExactMarkSpacingBetweenWrongFalsely : Prop := fnExactMarkSpacingBetweenRow.holds Try.pinned (OpenSpec.ofChange fnExactMarkSpacingBetweenWrong)

/-- 'laws.FnExactSmallestComponent': WHATEVER THE INPUT: true; the input reads as it did. -/
def fnExactSmallestComponentSpec : ChangeSpec := { name := "fnExactSmallestComponent", fn := fun _ => fun
  | [d] => { results := [.lit (.bool true)], args := [d] }
  | _ => none }
def fnExactSmallestComponentRow : OpenClaim := { program := "ythifinolgbjekaa", sum := "83fedaaacfded0516a3aecabdc8c20cd0953a5d3d97762edc4cc993d6cbede7a", func := "loop.example/g00890/laws.FnExactSmallestComponent", spec := "fnExactSmallestComponent", unfollowed := true, recurses := true, apart := false }
def FnExactSmallestComponentSaid : Prop := fnExactSmallestComponentRow.holds Try.pinned (OpenSpec.ofChange fnExactSmallestComponentSpec)

/-- ITS FALSE NEIGHBOUR: 'it returns false'. Refute it at one input. -/
def fnExactSmallestComponentWrong : ChangeSpec := { name := "fnExactSmallestComponent", fn := fun _ => fun
  | [d] => { results := [.lit (.bool false)], args := [d] }
  | _ => none }
def FnExactSmallestComponentWrongFalsely : Prop := fnExactSmallestComponentRow.holds Try.pinned (OpenSpec.ofChange fnExactSmallestComponentWrong)

/-- 'laws.FnExactMarkArea': WHATEVER THE INPUT: true; the input reads as it did. -/
def fnExactMarkAreaSpec : ChangeSpec := { name := "fnExactMarkArea", fn := fun _ => fun
  | [d1, d2] => { results := [.lit (.bool true)], args := [d1, d2] }
  | _ => none }
def fnExactMarkAreaRow : OpenClaim := { program := "ythifinolgbjekaa", sum := "83fedaaacfded0516a3aecabdc8c20cd0953a5d3d97762edc4cc993d6cbede7a", func := "loop.example/g00890/laws.FnExactMarkArea", spec := "fnExactMarkArea", unfollowed := true, recurses := true, apart := false }
def FnExactMarkAreaSaid : Prop := fnExactMarkAreaRow.holds Try.pinned (OpenSpec.ofChange fnExactMarkAreaSpec)

/-- ITS FALSE NEIGHBOUR: 'it returns false'. Refute it at one input. -/
def fnExactMarkAreaWrong : ChangeSpec := { name := "fnExactMarkArea", fn := fun _ => fun
  | [d1, d2] => { results := [.lit (.bool false)], args := [d1, d2] }
  | _ => none }
def FnExactMarkAreaWrongFalsely : Prop := fnExactMarkAreaRow.holds Try.pinned (OpenSpec.ofChange fnExactMarkAreaWrong)

/- THE SECOND FORM. 'bulk': how many values and letters a reading holds, each counted each time it is reached (what is shared counts as often as it is met; a slice's spare places count too). A statement '..UptoSaid' is the law's where the arguments, and the package variables that the reading takes, are together of bulk at most 1048576: NARROWER than '..Said'. Prove '..Said' where nothing that the law and all that it calls make is longer than what came in: it says more and counts as full. Else prove '..UptoSaid'. A law counts once. -/
mutual
def uptoBulk {H : Type} : DataW H → Nat
  | .lit (.string bytes) => bytes.length + 1
  | .lit _ => 1
  | .nil => 1
  | .ptr d => uptoBulk d + 1
  | .slice elems spare => uptoBulkAll elems + uptoBulkAll spare + 1
  | .agg parts => uptoBulkAll parts + 1
  | .iface _ d => uptoBulk d + 1
  | .map entries => uptoBulkEntries entries + 1
  | .held _ => 1
def uptoBulkAll {H : Type} : List (DataW H) → Nat
  | [] => 0
  | d :: r => uptoBulk d + uptoBulkAll r
def uptoBulkEntries {H : Type} : List (Lit × DataW H) → Nat
  | [] => 0
  | x :: r => uptoBulkEntry x + uptoBulkEntries r
def uptoBulkEntry {H : Type} : Lit × DataW H → Nat
  | (.string bytes, d) => bytes.length + uptoBulk d + 1
  | (_, d) => uptoBulk d + 1
 end
def uptoSmall : (H : Type) → List (DataW H) → Bool := fun _ ds => decide (uptoBulkAll ds ≤ 1048576)
def OpenSpec.upto (s : _root_.Go.ChangeSpec) : _root_.Go.OpenSpec := { _root_.Go.OpenSpec.ofChange s with cond := some uptoSmall }

/-- 'laws.FnExactMarkDensity', WHERE WHAT IT READS IS OF BULK AT MOST 1048576: true; the input reads as it did. -/
def fnExactMarkDensityUptoRow : OpenClaim := { program := "ythifinolgbjekaa", sum := "83fedaaacfded0516a3aecabdc8c20cd0953a5d3d97762edc4cc993d6cbede7a", func := "loop.example/g00890/laws.FnExactMarkDensity", spec := "fnExactMarkDensity", unfollowed := true, recurses := true, apart := false, narrowed := true }
def FnExactMarkDensityUptoSaid : Prop := fnExactMarkDensityUptoRow.holds Try.pinned (OpenSpec.upto fnExactMarkDensitySpec)

/-- 'laws.FnExactWidthHistogram', WHERE WHAT IT READS IS OF BULK AT MOST 1048576: true; the input reads as it did. -/
def fnExactWidthHistogramUptoRow : OpenClaim := { program := "ythifinolgbjekaa", sum := "83fedaaacfded0516a3aecabdc8c20cd0953a5d3d97762edc4cc993d6cbede7a", func := "loop.example/g00890/laws.FnExactWidthHistogram", spec := "fnExactWidthHistogram", unfollowed := true, recurses := true, apart := false, narrowed := true }
def FnExactWidthHistogramUptoSaid : Prop := fnExactWidthHistogramUptoRow.holds Try.pinned (OpenSpec.upto fnExactWidthHistogramSpec)

/-- 'laws.FnExactMinSpacing', WHERE WHAT IT READS IS OF BULK AT MOST 1048576: true; the input reads as it did. -/
def fnExactMinSpacingUptoRow : OpenClaim := { program := "ythifinolgbjekaa", sum := "83fedaaacfded0516a3aecabdc8c20cd0953a5d3d97762edc4cc993d6cbede7a", func := "loop.example/g00890/laws.FnExactMinSpacing", spec := "fnExactMinSpacing", unfollowed := true, recurses := true, apart := false, narrowed := true }
def FnExactMinSpacingUptoSaid : Prop := fnExactMinSpacingUptoRow.holds Try.pinned (OpenSpec.upto fnExactMinSpacingSpec)

/-- 'laws.FnExactSpacingWitness', WHERE WHAT IT READS IS OF BULK AT MOST 1048576: true; the input reads as it did. -/
def fnExactSpacingWitnessUptoRow : OpenClaim := { program := "ythifinolgbjekaa", sum := "83fedaaacfded0516a3aecabdc8c20cd0953a5d3d97762edc4cc993d6cbede7a", func := "loop.example/g00890/laws.FnExactSpacingWitness", spec := "fnExactSpacingWitness", unfollowed := true, recurses := true, apart := false, narrowed := true }
def FnExactSpacingWitnessUptoSaid : Prop := fnExactSpacingWitnessUptoRow.holds Try.pinned (OpenSpec.upto fnExactSpacingWitnessSpec)

/-- 'laws.FnExactHorizontalGaps', WHERE WHAT IT READS IS OF BULK AT MOST 1048576: true; the input reads as it did. -/
def fnExactHorizontalGapsUptoRow : OpenClaim := { program := "ythifinolgbjekaa", sum := "83fedaaacfded0516a3aecabdc8c20cd0953a5d3d97762edc4cc993d6cbede7a", func := "loop.example/g00890/laws.FnExactHorizontalGaps", spec := "fnExactHorizontalGaps", unfollowed := true, recurses := true, apart := false, narrowed := true }
def FnExactHorizontalGapsUptoSaid : Prop := fnExactHorizontalGapsUptoRow.holds Try.pinned (OpenSpec.upto fnExactHorizontalGapsSpec)

/-- 'laws.FnExactVerticalGaps', WHERE WHAT IT READS IS OF BULK AT MOST 1048576: true; the input reads as it did. -/
def fnExactVerticalGapsUptoRow : OpenClaim := { program := "ythifinolgbjekaa", sum := "83fedaaacfded0516a3aecabdc8c20cd0953a5d3d97762edc4cc993d6cbede7a", func := "loop.example/g00890/laws.FnExactVerticalGaps", spec := "fnExactVerticalGaps", unfollowed := true, recurses := true, apart := false, narrowed := true }
def FnExactVerticalGapsUptoSaid : Prop := fnExactVerticalGapsUptoRow.holds Try.pinned (OpenSpec.upto fnExactVerticalGapsSpec)

/-- 'laws.FnExactMarkSpacing', WHERE WHAT IT READS IS OF BULK AT MOST 1048576: true; the input reads as it did. -/
def fnExactMarkSpacingUptoRow : OpenClaim := { program := "ythifinolgbjekaa", sum := "83fedaaacfded0516a3aecabdc8c20cd0953a5d3d97762edc4cc993d6cbede7a", func := "loop.example/g00890/laws.FnExactMarkSpacing", spec := "fnExactMarkSpacing", unfollowed := true, recurses := true, apart := false, narrowed := true }
def FnExactMarkSpacingUptoSaid : Prop := fnExactMarkSpacingUptoRow.holds Try.pinned (OpenSpec.upto fnExactMarkSpacingSpec)

/-- 'laws.FnExactMinSpacingBetween', WHERE WHAT IT READS IS OF BULK AT MOST 1048576: true; the input reads as it did. -/
def fnExactMinSpacingBetweenUptoRow : OpenClaim := { program := "ythifinolgbjekaa", sum := "83fedaaacfded0516a3aecabdc8c20cd0953a5d3d97762edc4cc993d6cbede7a", func := "loop.example/g00890/laws.FnExactMinSpacingBetween", spec := "fnExactMinSpacingBetween", unfollowed := true, recurses := true, apart := false, narrowed := true }
def FnExactMinSpacingBetweenUptoSaid : Prop := fnExactMinSpacingBetweenUptoRow.holds Try.pinned (OpenSpec.upto fnExactMinSpacingBetweenSpec)

/-- 'laws.FnExactMarkSpacingBetween', WHERE WHAT IT READS IS OF BULK AT MOST 1048576: true; the input reads as it did. -/
def fnExactMarkSpacingBetweenUptoRow : OpenClaim := { program := "ythifinolgbjekaa", sum := "83fedaaacfded0516a3aecabdc8c20cd0953a5d3d97762edc4cc993d6cbede7a", func := "loop.example/g00890/laws.FnExactMarkSpacingBetween", spec := "fnExactMarkSpacingBetween", unfollowed := true, recurses := true, apart := false, narrowed := true }
def FnExactMarkSpacingBetweenUptoSaid : Prop := fnExactMarkSpacingBetweenUptoRow.holds Try.pinned (OpenSpec.upto fnExactMarkSpacingBetweenSpec)

/-- 'laws.FnExactSmallestComponent', WHERE WHAT IT READS IS OF BULK AT MOST 1048576: true; the input reads as it did. -/
def fnExactSmallestComponentUptoRow : OpenClaim := { program := "ythifinolgbjekaa", sum := "83fedaaacfded0516a3aecabdc8c20cd0953a5d3d97762edc4cc993d6cbede7a", func := "loop.example/g00890/laws.FnExactSmallestComponent", spec := "fnExactSmallestComponent", unfollowed := true, recurses := true, apart := false, narrowed := true }
def FnExactSmallestComponentUptoSaid : Prop := fnExactSmallestComponentUptoRow.holds Try.pinned (OpenSpec.upto fnExactSmallestComponentSpec)

/-- 'laws.FnExactMarkArea', WHERE WHAT IT READS IS OF BULK AT MOST 1048576: true; the input reads as it did. -/
def fnExactMarkAreaUptoRow : OpenClaim := { program := "ythifinolgbjekaa", sum := "83fedaaacfded0516a3aecabdc8c20cd0953a5d3d97762edc4cc993d6cbede7a", func := "loop.example/g00890/laws.FnExactMarkArea", spec := "fnExactMarkArea", unfollowed := true, recurses := true, apart := false, narrowed := true }
def FnExactMarkAreaUptoSaid : Prop := fnExactMarkAreaUptoRow.holds Try.pinned (OpenSpec.upto fnExactMarkAreaSpec)

end Rows
end Go.Proofs.Ythifinolgbjekaa
