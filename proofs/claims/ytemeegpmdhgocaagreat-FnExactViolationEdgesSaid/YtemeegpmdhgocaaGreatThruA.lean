/- Contracts: the program's runThrough on a set. Condition: the cell lies on the chip. Contract: the program's RegionContains. No conditions. Contracts: RunThrough of the reference and of the program. No conditions. Contracts: GapThrough of the reference and of the program. No conditions. -/
import Derived.Test.YtemeegpmdhgocaaGreatCanonA
import Derived.Test.YtemeegpmdhgocaaGreatMathA
import Derived.Test.YtemeegpmdhgocaaGreatWidthA
import Derived.Deep.RegionHeld3
import Derived.Test.YtemeegpmdhgocaaGreatCombA
namespace Go.Proofs.YtemeegpmdhgocaaGreat
open Go.RowKit

/-- The number in a cell. -/
def cellI (w : World) (g i : Nat) : Int := match w.cell? ⟨g, i, none⟩ with | some v => intOf v | none => 0
theorem cellI_of {w : World} {g i : Nat} {n : Int} (h : w.cell? ⟨g, i, none⟩ = some (.int .i64 n)) : cellI w g i = n := by unfold cellI; rw [h]; rfl
theorem set2 {w : World} {b : Nat} {t : TypeId} {a0 a1 : Value} (h : Bk w b t #[a0, a1]) (x0 x1 : Value) : Bk ((w.setCell ⟨b, 0, none⟩ x0).setCell ⟨b, 1, none⟩ x1) b t #[x0, x1] := (h.store 0 x0).store 1 x1
theorem other2 {w : World} {g b : Nat} {t : TypeId} {cs : Array Value} (h : Bk w g t cs) (hne : g ≠ b) (x0 x1 : Value) : Bk ((w.setCell ⟨b, 0, none⟩ x0).setCell ⟨b, 1, none⟩ x1) g t cs := (h.other (p := ⟨b, 0, none⟩) hne x0).other (p := ⟨b, 1, none⟩) hne x1
theorem below2 {B b : Nat} {a w : World} (h : Below B a w) (hb : B ≤ b) (x0 x1 : Value) : Below B a ((w.setCell ⟨b, 0, none⟩ x0).setCell ⟨b, 1, none⟩ x1) := (h.setCell hb x0).setCell hb x1
theorem below4 {B b : Nat} {a w : World} (h : Below B a w) (hb : B ≤ b) (x0 x1 x2 x3 : Value) : Below B a ((((w.setCell ⟨b, 0, none⟩ x0).setCell ⟨b, 1, none⟩ x1).setCell ⟨b, 2, none⟩ x2).setCell ⟨b, 3, none⟩ x3) := (((h.setCell hb x0).setCell hb x1).setCell hb x2).setCell hb x3
theorem set4of {w : World} {b : Nat} {t : TypeId} {a0 a1 a2 a3 : Value} (h : Bk w b t #[a0, a1, a2, a3]) (x0 x1 x2 x3 : Value) :
    (w.setCell ⟨b, 0, none⟩ x0).cell? ⟨b, 0, none⟩ = some x0 ∧ ((w.setCell ⟨b, 0, none⟩ x0).setCell ⟨b, 1, none⟩ x1).cell? ⟨b, 1, none⟩ = some x1 ∧
    (((w.setCell ⟨b, 0, none⟩ x0).setCell ⟨b, 1, none⟩ x1).setCell ⟨b, 2, none⟩ x2).cell? ⟨b, 2, none⟩ = some x2 ∧
    ((((w.setCell ⟨b, 0, none⟩ x0).setCell ⟨b, 1, none⟩ x1).setCell ⟨b, 2, none⟩ x2).setCell ⟨b, 3, none⟩ x3).cell? ⟨b, 3, none⟩ = some x3 :=
  ⟨(h.store 0 x0).cell 0, ((h.store 0 x0).store 1 x1).cell 1, (((h.store 0 x0).store 1 x1).store 2 x2).cell 2, ((((h.store 0 x0).store 1 x1).store 2 x2).store 3 x3).cell 3⟩

end Go.Proofs.YtemeegpmdhgocaaGreat

namespace Go.Proofs.YtemeegpmdhgocaaGreat
open Go.RowKit

/-- A valid rectangle has the cell (x, y). -/
def containsR (x y : Int) (r : Rc) : Bool := okRc r && decide (r.x0 ≤ x ∧ x < r.x1 ∧ r.y0 ≤ y ∧ y < r.y1)
theorem contains_no {x y : Int} {r : Rc} (h : okRc r = false) : containsR x y r = false := by unfold containsR; rw [h]; rfl
theorem contains_yes {x y : Int} {r : Rc} (h : okRc r = true) : containsR x y r = decide (r.x0 ≤ x ∧ x < r.x1 ∧ r.y0 ≤ y ∧ y < r.y1) := by unfold containsR; rw [h]; rfl
theorem inR_ix {r : Rc} {x y : Int} (hc : onC x y = true) : inR r (ix x y).toNat = decide (r.x0 ≤ x ∧ x < r.x1 ∧ r.y0 ≤ y ∧ y < r.y1) := by
  have h := (onC_iff x y).1 hc
  obtain ⟨e, _⟩ := ix_nat hc
  rw [Bool.eq_iff_iff, inR_iff, decide_eq_true_iff, e]
  have e1 : ((y + 40).toNat * 80 + (x + 40).toNat) / 80 = (y + 40).toNat ∧ ((y + 40).toNat * 80 + (x + 40).toNat) % 80 = (x + 40).toNat := by omega
  rw [e1.1, e1.2]
  omega
theorem any_contains {rs : List Rc} (hok : okAll rs = true) (x y : Int) : rs.any (containsR x y) = hasG (cellsG rs) x y := by
  rw [okAll, List.all_eq_true] at hok
  by_cases hc : onC x y = true
  · rw [hasG_on hc, Bool.eq_iff_iff]
    unfold cellsG
    rw [List.any_eq_true, List.any_eq_true]
    constructor
    · rintro ⟨r, hr, h⟩
      rw [contains_yes (hok r hr), ← inR_ix hc] at h
      exact ⟨r, hr, h⟩
    · rintro ⟨r, hr, h⟩
      refine ⟨r, hr, ?_⟩
      rw [contains_yes (hok r hr), ← inR_ix hc]
      exact h
  · have hc' : onC x y = false := by simpa using hc
    rw [hasG_off hc', Bool.eq_false_iff]
    intro h
    rw [List.any_eq_true] at h
    obtain ⟨r, hr, h⟩ := h
    rw [contains_yes (hok r hr), decide_eq_true_iff] at h
    have h2 := (okRc_iff r).1 (hok r hr)
    exact hc ((onC_iff x y).2 (by omega))

theorem any_first {α : Type} {p : α → Bool} {l : List α} {k : Nat} {a : α} (h : l[k]? = some a) (hp : p a = true) : (l.drop k).any p = true := by
  rw [List.any_eq_true]
  obtain ⟨hk, he⟩ := List.getElem?_eq_some_iff.1 h
  exact ⟨a, by rw [List.drop_eq_getElem_cons hk, he]; simp, hp⟩
theorem any_next {α : Type} {p : α → Bool} {l : List α} {k : Nat} {a : α} (h : l[k]? = some a) (hp : p a = false) : (l.drop k).any p = (l.drop (k + 1)).any p := by
  obtain ⟨hk, he⟩ := List.getElem?_eq_some_iff.1 h
  rw [List.drop_eq_getElem_cons hk, he, List.any_cons, hp, Bool.false_or]
theorem any_last {α : Type} {p : α → Bool} {l : List α} {k : Nat} (h : l.length ≤ k) : (l.drop k).any p = false := by rw [List.drop_eq_nil_of_le h]; rfl

end Go.Proofs.YtemeegpmdhgocaaGreat

namespace Go.Proofs.YtemeegpmdhgocaaGreat
open Go.RowKit

/-- The run through a cell. -/
def rtV (rs : List Rc) (x y : Int) (vert : Bool) : Option Rc := if isReg rs = true ∧ hasG (cellsG rs) x y = true then some (runR (cellsG rs) x y vert) else none
theorem rtV_yes {rs : List Rc} {x y : Int} {vert : Bool} (h : isReg rs = true) (hc : hasG (cellsG rs) x y = true) : rtV rs x y vert = some (runR (cellsG rs) x y vert) := if_pos ⟨h, hc⟩
theorem rtV_no1 {rs : List Rc} {x y : Int} {vert : Bool} (h : isReg rs = false) : rtV rs x y vert = none := if_neg (by rw [h]; simp)
theorem rtV_no2 {rs : List Rc} {x y : Int} {vert : Bool} (h : hasG (cellsG rs) x y = false) : rtV rs x y vert = none := if_neg (by rw [h]; simp)

end Go.Proofs.YtemeegpmdhgocaaGreat

namespace Go.Proofs.YtemeegpmdhgocaaGreat
open Go.RowKit

/-- The gap through a cell. -/
def gtV (rs : List Rc) (x y : Int) (vert : Bool) : Option Rc := if isReg rs = true ∧ hasG (notG (cellsG rs)) x y = true then some (runR (notG (cellsG rs)) x y vert) else none
theorem gtV_yes {rs : List Rc} {x y : Int} {vert : Bool} (h : isReg rs = true) (hc : hasG (notG (cellsG rs)) x y = true) : gtV rs x y vert = some (runR (notG (cellsG rs)) x y vert) := if_pos ⟨h, hc⟩
theorem gtV_no1 {rs : List Rc} {x y : Int} {vert : Bool} (h : isReg rs = false) : gtV rs x y vert = none := if_neg (by rw [h]; simp)
theorem gtV_no2 {rs : List Rc} {x y : Int} {vert : Bool} (h : hasG (notG (cellsG rs)) x y = false) : gtV rs x y vert = none := if_neg (by rw [h]; simp)

end Go.Proofs.YtemeegpmdhgocaaGreat
