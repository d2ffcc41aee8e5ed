/- Contracts: the reference's small operations on sets: l19Count, l19Or, l18Meet. No conditions. -/
import Derived.Test.YtemeegpmdhgocaaGreatMathA
import Derived.Test.YtemeegpmdhgocaaGreatCombA
import Derived.Test.YtemeegpmdhgocaaGreatAllRuns
namespace Go.Proofs.YtemeegpmdhgocaaGreat
open Go.RowKit

theorem ret_intS {a b : Int} (h : a = b) : Ending.returned (.int .i64 a) = .returned (.int .i64 b) := by rw [h]
/-- Two sets have a common cell. -/
def meetG (G H : Gr) : Bool := (List.range 6400).any fun i => G i && H i
theorem meet_yes {G H : Gr} {i : Nat} (hi : i < 6400) (h1 : G i = true) (h2 : H i = true) : meetG G H = true := by
  unfold meetG
  rw [List.any_eq_true]
  exact ⟨i, List.mem_range.2 hi, by rw [h1, h2]; rfl⟩
theorem meet_no {G H : Gr} (h : ∀ i, i < 6400 → (G i && H i) = false) : meetG G H = false := by
  unfold meetG
  rw [Bool.eq_false_iff]
  intro hc
  rw [List.any_eq_true] at hc
  obtain ⟨i, hi, hc⟩ := hc
  rw [h i (List.mem_range.1 hi)] at hc
  cases hc

end Go.Proofs.YtemeegpmdhgocaaGreat
