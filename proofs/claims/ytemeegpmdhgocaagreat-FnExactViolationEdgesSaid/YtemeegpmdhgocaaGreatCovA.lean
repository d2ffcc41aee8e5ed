/- Contracts: common, coveredCells, l19Covered. Conditions: valid rectangles. Contracts: coveredCells; CoveredCells of the reference and of the program. No conditions. Contracts: CoveredCells of the reference and of the program. No conditions. -/
import Derived.Test.YtemeegpmdhgocaaGreatMathA
import Derived.Test.YtemeegpmdhgocaaGreatWidthA
import Derived.Test.YtemeegpmdhgocaaGreatAllRuns
import Derived.Deep.RegionHeld3
namespace Go.Proofs.YtemeegpmdhgocaaGreat
open Go.RowKit

theorem ret_intC {a b : Int} (h : a = b) : Ending.returned (.int .i64 a) = .returned (.int .i64 b) := by rw [h]
theorem oneG_yes {G : Gr} {i : Nat} (h : G i = true) : oneG G i = 1 := if_pos h
theorem oneG_no {G : Gr} {i : Nat} (h : G i = false) : oneG G i = 0 := if_neg (by rw [h]; simp)
theorem oneG_bounds (G : Gr) (i : Nat) : 0 ≤ oneG G i ∧ oneG G i ≤ 1 := by unfold oneG; split <;> omega
/-- What has been counted: m rows of n cells and k cells of one more. -/
def gotC (G : Gr) (b : Rc) (m k : Nat) : Int := sumI (fun y => rowC (oneG G) b.x0 y (b.x1 - b.x0).toNat) b.y0 m + rowC (oneG G) b.x0 (b.y0 + m) k
theorem rowC_bounds (G : Gr) (x0 y : Int) (n : Nat) : 0 ≤ rowC (oneG G) x0 y n ∧ rowC (oneG G) x0 y n ≤ 1 * n := sumI_bounds (by omega) n fun x => oneG_bounds G _
theorem gotC_bounds (G : Gr) {b : Rc} (hb : okRc b = true) {m k : Nat} (hm : m ≤ 80) (hk : k ≤ 80) : 0 ≤ gotC G b m k ∧ gotC G b m k ≤ 10000 := by
  rw [okRc_iff] at hb
  have h1 := sumI_bounds (f := fun y => rowC (oneG G) b.x0 y (b.x1 - b.x0).toNat) (a := b.y0) (m := 80) (by omega) m (fun y => by have := rowC_bounds G b.x0 y (b.x1 - b.x0).toNat; omega)
  have h2 := rowC_bounds G b.x0 (b.y0 + m) k
  unfold gotC
  omega
theorem gotC_zero (G : Gr) (b : Rc) (m : Nat) : gotC G b m 0 = sumI (fun y => rowC (oneG G) b.x0 y (b.x1 - b.x0).toNat) b.y0 m := by simp [gotC, rowC, sumI]
theorem gotC_start (G : Gr) (b : Rc) : gotC G b 0 0 = 0 := by simp [gotC, rowC, sumI]
theorem gotC_yes {G : Gr} {b : Rc} {m k : Nat} (h : G (ix (b.x0 + k) (b.y0 + m)).toNat = true) : gotC G b m (k + 1) = gotC G b m k + 1 := by
  simp only [gotC, rowC, sumI, oneG_yes h]
  omega
theorem gotC_no {G : Gr} {b : Rc} {m k : Nat} (h : G (ix (b.x0 + k) (b.y0 + m)).toNat = false) : gotC G b m (k + 1) = gotC G b m k := by
  simp only [gotC, rowC, sumI, oneG_no h]
  omega
theorem gotC_row {G : Gr} {b : Rc} {m k : Nat} (hk : (b.x1 - b.x0).toNat = k) : gotC G b m k = gotC G b (m + 1) 0 := by
  rw [gotC_zero, gotC, hk]; rfl
theorem gotC_all {G : Gr} {b : Rc} {m : Nat} (hm : (b.y1 - b.y0).toNat = m) : gotC G b m 0 = coverG G b := by
  rw [gotC_zero, coverG, boxC, hm]

end Go.Proofs.YtemeegpmdhgocaaGreat

namespace Go.Proofs.YtemeegpmdhgocaaGreat
open Go.RowKit

end Go.Proofs.YtemeegpmdhgocaaGreat

namespace Go.Proofs.YtemeegpmdhgocaaGreat
open Go.RowKit

/-- The covered cells of a box. -/
def covV (rs : List Rc) (b : Rc) : Int := if isReg rs = true ∧ okRc b = true then coverG (cellsG rs) b else -1
theorem covV_yes {rs : List Rc} {b : Rc} (h : isReg rs = true) (hb : okRc b = true) : covV rs b = coverG (cellsG rs) b := if_pos ⟨h, hb⟩
theorem covV_no {rs : List Rc} {b : Rc} (h : isReg rs = false) : covV rs b = -1 := if_neg (by rw [h]; simp)
theorem covV_bad {rs : List Rc} {b : Rc} (h : okRc b = false) : covV rs b = -1 := if_neg (by rw [h]; simp)
theorem len_reg {rs : List Rc} (h : isReg rs = true) : rs.length ≤ 100000 := Nat.le_trans ((isReg_iff rs).1 h).1 (by omega)

end Go.Proofs.YtemeegpmdhgocaaGreat
