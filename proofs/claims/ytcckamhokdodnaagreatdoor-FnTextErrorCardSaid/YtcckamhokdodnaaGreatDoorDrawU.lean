/- Contract: l01Next, of one or more. Condition: a well-formed source. -/
import Derived.Test.YtcckamhokdodnaaGreatDoorDrawK
namespace Go.Proofs.YtcckamhokdodnaaGreatDoor
open Go.RowKit

set_option maxHeartbeats 400000 in
/-- l01Next of one. -/
theorem next_one (g : Nat) (w : World) : Calls Tryz.prog 44 #[.pointer (some ⟨g, 0, none⟩), .int .i64 1] w fun e w' => e = .returned (.int .i64 0) ∧ w = w' := by
  go_enter Tryz.func44, Tryz.ntmps44
  go_wp2
  go_ret
  exact ⟨rfl, rfl⟩
theorem next_ge1 (g : Nat) (n : Int) (w : World) (hD : Dice w g) (hn : 1 ≤ n ∧ n ≤ 1000000) : Calls Tryz.prog 44 #[.pointer (some ⟨g, 0, none⟩), .int .i64 n] w fun e w' => ∃ k : Int, e = .returned (.int .i64 k) ∧ (0 ≤ k ∧ k < n) ∧ Dice w' g ∧ w.grownBy w' (some g) := by
  by_cases h : n = 1
  · subst h
    refine (next_one g w).mono ?_
    rintro e w' ⟨rfl, rfl⟩
    exact ⟨0, rfl, by omega, hD, only_refl _ _⟩
  · exact next_any g n w hD (by omega)

end Go.Proofs.YtcckamhokdodnaaGreatDoor
