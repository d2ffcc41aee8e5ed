/- Contract: the reference's l19Visit. Condition: a cell of the chip. -/
import Derived.Test.YtemeegpmdhgocaaGreatCompKit
import Derived.Test.YtemeegpmdhgocaaGreatCombA
import Derived.Test.YtemeegpmdhgocaaGreatMemA
import Derived.Test.YtemeegpmdhgocaaGreatAllRuns
import Derived.Deep.CutRange
import Derived.BigRegion
namespace Go.Proofs.YtemeegpmdhgocaaGreat
open Go.RowKit

def pairI (j : Nat) : Int × Int := (((j % 80 : Nat) : Int) - 40, ((j / 80 : Nat) : Int) - 40)
theorem pairI_ix {x y : Int} (h : onC x y = true) : pairI (ix x y).toNat = (x, y) := by
  rw [onC_iff] at h
  unfold pairI ix
  simp only [Prod.mk.injEq]
  omega
theorem GB.keptQ {w w' : World} {g : Nat} {t e : TypeId} {G : Gr} {B s n : Nat} {v : Value} {xs : List Value} (h : GB w g t G) (ho : w.ownsRow B e s v n xs) (hne : t ≠ e) (hg : w.grownBy w' v.ownBlock) : GB w' g t G := by
  obtain ⟨cs, hb, hr⟩ := h
  exact ⟨cs, hb.grown hg (hb.apart' ho hne), hr⟩

end Go.Proofs.YtemeegpmdhgocaaGreat
