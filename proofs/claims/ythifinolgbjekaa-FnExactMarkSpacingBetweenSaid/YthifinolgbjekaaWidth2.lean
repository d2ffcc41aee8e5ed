/- Contracts: MinWidth of the reference and of the program. No conditions. -/
import Derived.Test.YthifinolgbjekaaShort1
import Derived.Test.YthifinolgbjekaaWidth1
namespace Go.Proofs.Ythifinolgbjekaa
open Go.RowKit

/-- The least width of a region. -/
def minV (rs : List Rc) : Int := if isReg rs = true then minA (allG (cellsG rs)) else -1
theorem minV_yes {rs : List Rc} (h : isReg rs = true) : minV rs = minA (allG (cellsG rs)) := if_pos h
theorem minV_no {rs : List Rc} (h : isReg rs = false) : minV rs = -1 := if_neg (by rw [h]; simp)

end Go.Proofs.Ythifinolgbjekaa
