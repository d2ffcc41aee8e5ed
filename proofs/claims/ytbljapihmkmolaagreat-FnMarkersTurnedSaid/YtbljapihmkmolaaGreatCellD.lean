/- Contract: the laws' w9Cell: a unit cell of the chip. Condition: a region. -/
import Derived.Test.YtbljapihmkmolaaGreatDice
import Derived.Test.YtbljapihmkmolaaGreatDrawK
import Derived.Deep.RegionHeld3
namespace Go.Proofs.YtbljapihmkmolaaGreat
open Go.RowKit

theorem DiceL.other {w : World} {g : Nat} (h : DiceL w g) {p : Addr} (hp : g < p.block) (x : Value) : DiceL (w.setCell p x) g := h.below (B := g + 1) ((Below.refl _ _).setCell (p := p) hp x) (by omega)
/-- Two stores into a block of one's own, behind the dice. -/
theorem diceL_two {w wb : World} {g b : Nat} (hD : DiceL wb g) (hg : g < b) (hwb : w.heap.size ≤ b) (hG : w.grownBy wb (some g)) (x0 x1 : Value) :
    DiceL ((wb.setCell ⟨b, 0, none⟩ x0).setCell ⟨b, 1, none⟩ x1) g ∧ w.grownBy ((wb.setCell ⟨b, 0, none⟩ x0).setCell ⟨b, 1, none⟩ x1) (some g) :=
  ⟨(hD.other (p := ⟨b, 0, none⟩) hg x0).other (p := ⟨b, 1, none⟩) hg x1, only_above hG (((Below.refl w.heap.size wb).setCell (p := ⟨b, 0, none⟩) hwb x0).setCell (p := ⟨b, 1, none⟩) hwb x1)⟩

end Go.Proofs.YtbljapihmkmolaaGreat
