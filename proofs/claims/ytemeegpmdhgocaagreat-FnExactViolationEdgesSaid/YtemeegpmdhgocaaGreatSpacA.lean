/- Contracts: HorizontalGaps, VerticalGaps, MinSpacing, SpacingWitness, MarkSpacing of the reference and of the program. No conditions. Contracts: MinSpacingBetween, MarkSpacingBetween of the reference and of the program. No conditions. -/
import Derived.Test.YtemeegpmdhgocaaGreatGaps
import Derived.Test.YtemeegpmdhgocaaGreatWidthA
import Derived.Test.YtemeegpmdhgocaaGreatThruA
import Derived.Test.YtemeegpmdhgocaaGreatGapsB
namespace Go.Proofs.YtemeegpmdhgocaaGreat
open Go.RowKit

def gapsV (vert : Bool) (rs : List Rc) : List Rc := if isReg rs = true then gapsG (cellsG rs) vert else []
theorem gapsV_yes {vert : Bool} {rs : List Rc} (h : isReg rs = true) : gapsV vert rs = gapsG (cellsG rs) vert := if_pos h
theorem gapsV_no {vert : Bool} {rs : List Rc} (h : isReg rs = false) : gapsV vert rs = [] := if_neg (by rw [h]; simp)
theorem gapsV_length (vert : Bool) (rs : List Rc) : (gapsV vert rs).length ≤ 1000000 := by
  unfold gapsV
  split
  · exact Nat.le_trans (gapsG_length _ _) (by omega)
  · simp
def minsV (rs : List Rc) : Int := if isReg rs = true then minA (allGaps (cellsG rs)) else -1
theorem minsV_yes {rs : List Rc} (h : isReg rs = true) : minsV rs = minA (allGaps (cellsG rs)) := if_pos h
theorem minsV_no {rs : List Rc} (h : isReg rs = false) : minsV rs = -1 := if_neg (by rw [h]; simp)
def swV (rs : List Rc) (x : Int) : Option Rc := if chkV rs x = true then firstA (allGaps (cellsG rs)) x else none
theorem swV_yes {rs : List Rc} {x : Int} (h : chkV rs x = true) : swV rs x = firstA (allGaps (cellsG rs)) x := if_pos h
theorem swV_no {rs : List Rc} {x : Int} (h : chkV rs x = false) : swV rs x = none := if_neg (by rw [h]; simp)
def markgV (rs : List Rc) (x : Int) : List Rc := if chkV rs x = true then canon (shortG (allGaps (cellsG rs)) x) else []
theorem markgV_yes {rs : List Rc} {x : Int} (h : chkV rs x = true) : markgV rs x = canon (shortG (allGaps (cellsG rs)) x) := if_pos h
theorem markgV_no {rs : List Rc} {x : Int} (h : chkV rs x = false) : markgV rs x = [] := if_neg (by rw [h]; simp)
theorem markgV_length (rs : List Rc) (x : Int) : (markgV rs x).length ≤ 1000000 := by
  unfold markgV
  split
  · exact Nat.le_trans (canon_few _) (by omega)
  · simp

end Go.Proofs.YtemeegpmdhgocaaGreat

namespace Go.Proofs.YtemeegpmdhgocaaGreat
open Go.RowKit

theorem minStep_pos {m : Int} {r : Rc} (hr : okRc r = true) (hm : 0 ≤ m) : 1 ≤ minStep m r := by
  have h := areaR_bounds hr
  unfold minStep
  split <;> omega
theorem min_fold {rs : List Rc} : ∀ {m : Int}, okAll rs = true → 1 ≤ m → 1 ≤ rs.foldl minStep m := by
  induction rs with
  | nil => intro m _ h; exact h
  | cons r rs ih =>
    intro m hok hm
    rw [okAll, List.all_cons, Bool.and_eq_true] at hok
    exact ih hok.2 (minStep_pos hok.1 (by omega))
theorem minA_nz {rs : List Rc} (hok : okAll rs = true) (h : rs.length ≠ 0) : minA rs ≠ 0 := by
  cases rs with
  | nil => simp at h
  | cons r rs =>
    rw [okAll, List.all_cons, Bool.and_eq_true] at hok
    have := min_fold hok.2 (minStep_pos (m := 0) hok.1 (by omega))
    unfold minA
    rw [List.foldl_cons]
    omega
theorem union_canons (F G : Gr) : canon (cellsG [canon F, canon G].flatten) = canon (unionG F G) := by
  refine canon_congr fun i hi => ?_
  rw [show [canon F, canon G].flatten = canon F ++ canon G by simp, cellsG_append]
  unfold unionG
  rw [cells_canon F i hi, cells_canon G i hi]
def msbV (rs qs : List Rc) : Int := if isReg rs = true ∧ isReg qs = true then (if meetG (cellsG rs) (cellsG qs) = true then 0 else if (allBtw (cellsG rs) (cellsG qs)).length = 0 then -1 else minA (allBtw (cellsG rs) (cellsG qs))) else -1
def mkbG (rs qs : List Rc) (x : Int) : Gr := unionG (shortG (allBtw (cellsG rs) (cellsG qs)) x) (interG (cellsG rs) (cellsG qs))
def mkbV (rs qs : List Rc) (x : Int) : List Rc := if (isReg rs && isReg qs && inB 1 x 8) = true then canon (mkbG rs qs x) else []
theorem mkbV_length (rs qs : List Rc) (x : Int) : (mkbV rs qs x).length ≤ 1000000 := by
  unfold mkbV
  split
  · exact Nat.le_trans (canon_few _) (by omega)
  · simp

end Go.Proofs.YtemeegpmdhgocaaGreat
