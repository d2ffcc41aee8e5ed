/- Contracts: which cells and libraries are valid: the program's functions and the reference's. Conditions: lists in memory; names no longer than a string may be. -/
import Derived.Test.YtljfpeipcfankaaGreatDoorValC
import Derived.Test.YtljfpeipcfankaaGreatDoorLibC
import Derived.StillTailTactics
namespace Go.Proofs.YtljfpeipcfankaaGreatDoor
open Go.RowKit

def badS (xs : List ShapeD) : Bool := xs.any fun x => !(shapeB x)
def badL (xs : List LabelD) : Bool := xs.any fun x => !(labelB x)
def badI (xs : List InstD) (k : Int) : Bool := xs.any fun x => !(instB x k)
def cellB (c : CellD) (k : Int) : Bool := nameB c.name && decide ((c.shapes.length : Int) ≤ 24) && decide ((c.labels.length : Int) ≤ 8) && decide ((c.insts.length : Int) ≤ 8) && !(badS c.shapes) && !(badL c.labels) && !(badI c.insts k)
/-- What is asked of a cell's names. -/
def NmOk (c : CellD) : Prop := c.name.size ≤ maxLen ∧ ∀ l ∈ c.labels, l.name.size ≤ maxLen
theorem cell_badS {c : CellD} {k : Int} (h : badS c.shapes = true) : cellB c k = false := by unfold cellB; rw [h]; simp
theorem cell_badL {c : CellD} {k : Int} (h : badL c.labels = true) : cellB c k = false := by unfold cellB; rw [h]; simp
theorem cell_badI {c : CellD} {k : Int} (h : badI c.insts k = true) : cellB c k = false := by unfold cellB; rw [h]; simp


end Go.Proofs.YtljfpeipcfankaaGreatDoor
