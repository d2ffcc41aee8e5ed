/- Contracts: HorizontalRuns and VerticalRuns of the reference and of the program. No conditions. -/
import Derived.Test.YthifinolgbjekaaAllRuns
import Derived.Test.YthifinolgbjekaaOk
namespace Go.Proofs.Ythifinolgbjekaa
open Go.RowKit

/-- The runs of a region. -/
def runsV (vert : Bool) (rs : List Rc) : List Rc := if isReg rs = true then runsG (cellsG rs) vert else []
theorem runsV_yes {vert : Bool} {rs : List Rc} (h : isReg rs = true) : runsV vert rs = runsG (cellsG rs) vert := if_pos h
theorem runsV_no {vert : Bool} {rs : List Rc} (h : isReg rs = false) : runsV vert rs = [] := if_neg (by rw [h]; simp)
theorem runsV_length (vert : Bool) (rs : List Rc) : (runsV vert rs).length ≤ 1000000 := by
  unfold runsV
  split
  · exact Nat.le_trans (runsG_length _ _) (by omega)
  · simp
theorem okAll_reg {rs : List Rc} (h : isReg rs = true) : okAll rs = true := ((isReg_iff rs).1 h).2.1

end Go.Proofs.Ythifinolgbjekaa
