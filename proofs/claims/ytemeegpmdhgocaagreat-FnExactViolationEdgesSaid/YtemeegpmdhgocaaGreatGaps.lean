/- Contracts: the gaps of a set in rows or columns, as the program and the reference list them. No conditions. -/
import Derived.Test.YtemeegpmdhgocaaGreatCombA
import Derived.Test.YtemeegpmdhgocaaGreatAllRuns
import Derived.Test.YtemeegpmdhgocaaGreatSets
import Derived.Test.YtemeegpmdhgocaaGreatThruA
namespace Go.Proofs.YtemeegpmdhgocaaGreat
open Go.RowKit

theorem inner_v {x0 y0 x1 y1 : Int} : innerR true ⟨x0, y0, x1, y1⟩ = decide (-40 < y0 ∧ y1 < 40) := rfl
theorem inner_h {x0 y0 x1 y1 : Int} : innerR false ⟨x0, y0, x1, y1⟩ = decide (-40 < x0 ∧ x1 < 40) := rfl

theorem ends_v (G H : Gr) (x0 y0 x1 y1 : Int) : endsG G H true ⟨x0, y0, x1, y1⟩ = ((hasG G (x0) (y0 - 1) && hasG H (x0) (y1)) || (hasG H (x0) (y0 - 1) && hasG G (x0) (y1))) := rfl

theorem ends_h (G H : Gr) (x0 y0 x1 y1 : Int) : endsG G H false ⟨x0, y0, x1, y1⟩ = ((hasG G (x0 - 1) (y0) && hasG H (x1) (y0)) || (hasG H (x0 - 1) (y0) && hasG G (x1) (y0))) := rfl

end Go.Proofs.YtemeegpmdhgocaaGreat
