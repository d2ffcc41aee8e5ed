/- Contract: the reference's l19Near. Condition: 0 ≤ k ≤ 8. Contracts: the program's grown and grow. Conditions: rectangles of the chip, 0 ≤ k ≤ 1000. Contracts: MarkEnclosure and EnclosureMargin of the program and of the reference. No conditions. Contracts: EnclosureMargin of the program and of the reference. No conditions. -/
import Derived.Test.YtemeegpmdhgocaaGreatMathA
import Derived.Test.YtemeegpmdhgocaaGreatMemA
import Derived.Test.YtemeegpmdhgocaaGreatAllRuns
import Derived.Test.YtemeegpmdhgocaaGreatCanonA
import Derived.Test.YtemeegpmdhgocaaGreatCombA
import Derived.Test.YtemeegpmdhgocaaGreatWidthA
namespace Go.Proofs.YtemeegpmdhgocaaGreat
open Go.RowKit

theorem flat_xy {a b : Nat} (hb : b < 80) : (a * 80 + b) % 80 = b ∧ (a * 80 + b) / 80 = a := by omega
theorem ix_flat {a b : Nat} : (ix ((b : Int) - 40) ((a : Int) - 40)).toNat = a * 80 + b := by unfold ix; omega
/-- The segment of a cell, begun. -/
theorem hseg_start (G : Gr) (k x y : Int) : orR G ⟨x - k, y, x + -k, y + 1⟩ = G := orR_empty _ _ (.inl (by dsimp only; omega))
theorem vseg_start (G : Gr) (k x y : Int) : orR G ⟨x, y - k, x + 1, y + -k⟩ = G := orR_empty _ _ (.inr (by dsimp only; omega))
theorem hseg_end {a b : Nat} (hb : b < 80) (k : Int) : hseg k (a * 80 + b) = ⟨(b : Int) - 40 - k, (a : Int) - 40, (b : Int) - 40 + (k + 1), (a : Int) - 40 + 1⟩ := by
  obtain ⟨e1, e2⟩ := flat_xy (a := a) hb
  unfold hseg
  rw [e1, e2]
theorem vseg_end {a b : Nat} (hb : b < 80) (k : Int) : vseg k (a * 80 + b) = ⟨(b : Int) - 40, (a : Int) - 40 - k, (b : Int) - 40 + 1, (a : Int) - 40 + (k + 1)⟩ := by
  obtain ⟨e1, e2⟩ := flat_xy (a := a) hb
  unfold vseg
  rw [e1, e2]

end Go.Proofs.YtemeegpmdhgocaaGreat

namespace Go.Proofs.YtemeegpmdhgocaaGreat
open Go.RowKit

theorem cellsG_map_succ {rs : List Rc} {f : Rc → Rc} {k : Nat} {r : Rc} (h : rs[k]? = some r) : cellsG ((rs.take (k + 1)).map f) = orR (cellsG ((rs.take k).map f)) (f r) := by
  rw [List.take_add_one, h, Option.toList, List.map_append, List.map_cons, List.map_nil, cellsG_snoc]

end Go.Proofs.YtemeegpmdhgocaaGreat

namespace Go.Proofs.YtemeegpmdhgocaaGreat
open Go.RowKit

/-- The cells around a region that another one leaves. -/
def encV (rs qs : List Rc) (k : Int) : List Rc := if (isReg rs = true ∧ isReg qs = true) ∧ inB 0 k 8 = true then encL rs qs k else []
theorem encV_yes {rs qs : List Rc} {k : Int} (h1 : isReg rs = true) (h2 : isReg qs = true) (hk : inB 0 k 8 = true) : encV rs qs k = encL rs qs k := if_pos ⟨⟨h1, h2⟩, hk⟩
theorem encV_no1 {rs qs : List Rc} {k : Int} (h : isReg rs = false) : encV rs qs k = [] := if_neg (by rw [h]; simp)
theorem encV_no2 {rs qs : List Rc} {k : Int} (h : isReg qs = false) : encV rs qs k = [] := if_neg (by rw [h]; simp)
theorem encV_no3 {rs qs : List Rc} {k : Int} (h : inB 0 k 8 = false) : encV rs qs k = [] := if_neg (by rw [h]; simp)
theorem encV_length (rs qs : List Rc) (k : Int) : (encV rs qs k).length ≤ 1000000 := by
  unfold encV
  split
  · exact Nat.le_trans (canon_few _) (by omega)
  · simp

end Go.Proofs.YtemeegpmdhgocaaGreat

namespace Go.Proofs.YtemeegpmdhgocaaGreat
open Go.RowKit

/-- The greatest margin below n within which nothing is left, or -1. -/
def bestD (rs qs : List Rc) : Nat → Int
  | 0 => -1
  | n + 1 => if encL rs qs n = [] then n else bestD rs qs n
theorem bestD_yes {rs qs : List Rc} {n : Nat} (h : encL rs qs n = []) : bestD rs qs (n + 1) = n := if_pos h
theorem bestD_no {rs qs : List Rc} {n : Nat} (h : ¬ encL rs qs n = []) : bestD rs qs (n + 1) = bestD rs qs n := if_neg h
theorem bestD_up {rs qs : List Rc} {k : Nat} (h : ¬ encL rs qs k = []) : ∀ d, bestD rs qs (k + d) = bestD rs qs k
  | 0 => rfl
  | d + 1 => by
    rw [← Nat.add_assoc, bestD_no, bestD_up h d]
    intro hc
    apply h
    have e : ((k + d : Nat) : Int) = (k : Int) + (d : Int) := by omega
    rw [e] at hc
    exact enc_below d hc
/-- The margin. -/
def marginV (rs qs : List Rc) : Int := if isReg rs = true ∧ isReg qs = true then bestD rs qs 9 else -1
theorem marginV_yes {rs qs : List Rc} (h1 : isReg rs = true) (h2 : isReg qs = true) : marginV rs qs = bestD rs qs 9 := if_pos ⟨h1, h2⟩
theorem marginV_no1 {rs qs : List Rc} (h : isReg rs = false) : marginV rs qs = -1 := if_neg (by rw [h]; simp)
theorem marginV_no2 {rs qs : List Rc} (h : isReg qs = false) : marginV rs qs = -1 := if_neg (by rw [h]; simp)
theorem ret_intE {a b : Int} (h : a = b) : Ending.returned (.int .i64 a) = .returned (.int .i64 b) := by rw [h]
/-- Where the reference stops. -/
theorem bestD_stop {rs qs : List Rc} {k : Nat} (hk : k ≤ 9) (hall : ∀ j : Nat, j < k → encL rs qs j = []) (hend : k = 9 ∨ ¬ encL rs qs k = []) : bestD rs qs 9 = (k : Int) - 1 := by
  have e : bestD rs qs 9 = bestD rs qs k := by
    rcases hend with h | h
    · rw [h]
    · have := bestD_up h (9 - k)
      rw [show k + (9 - k) = 9 by omega] at this
      exact this
  rw [e]
  cases k with
  | zero => rfl
  | succ k => rw [bestD_yes (hall k (Nat.lt_succ_self k))]; omega

end Go.Proofs.YtemeegpmdhgocaaGreat
