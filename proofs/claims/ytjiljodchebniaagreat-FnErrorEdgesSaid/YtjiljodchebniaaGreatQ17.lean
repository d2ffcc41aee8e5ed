/- Contracts: the reference's sides of a set (l06Is, l06Less, l06Sides, l06Whole). Conditions: a set of cells in memory. -/
import Derived.Test.YtjiljodchebniaaGreatQ11
import Derived.Deep.CutRange
import Derived.Deep.CutBlock

namespace Go.Proofs.YtjiljodchebniaaGreat
open Go.RowKit

set_option maxHeartbeats 800000 in
set_option maxRecDepth 100000 in
/-- l06Is. -/
theorem is_any (v : Value) (G : Gr) (x y dx dy : Int) (w : World) (hG : GS w 0 v G) (hx : -1000 ≤ x ∧ x ≤ 1000) (hy : -1000 ≤ y ∧ y ≤ 1000) :
    Calls Tryz.prog 137 #[v, .int .i64 x, .int .i64 y, .int .i64 dx, .int .i64 dy] w fun e w' => e = .returned (.bool (isSide G x y dx dy)) ∧ w = w' := by
  have e1 := Go.IntWalk.i64_in (x - 1) (by omega)
  have e2 := Go.IntWalk.i64_in (y - 1) (by omega)
  have HG := Lib.hid hG
  have HQ : Hid (∀ (a b : Int), Calls Tryz.prog 103 #[v, .int .i64 a, .int .i64 b] w fun e w' => e = .returned (.bool (hasG G a b)) ∧ w = w') := Lib.hid fun a b => l03Has_any v G a b w HG.out
  clear hG
  by_cases h1 : dx = 1
  · subst h1
    have hr : isSide G x y 1 dy = (hasG G x y && !hasG G x (y - 1)) := by simp [isSide]
    rw [hr]
    go_enter Tryz.func137, Tryz.ntmps137
    cases hc : hasG G x y
    all_goals
      go_wp2_with (go_at_call 103; (with_reducible refine (HQ.out _ _).mono ?_); rintro e w1 ⟨he, rfl⟩; (try rw [hc] at he); subst he)
      go_ret
      exact ⟨rfl, rfl⟩
  have b1 : (dx == 1) = false := by simpa using h1
  by_cases h2 : dx = -1
  · subst h2
    have hr : isSide G x y (-1) dy = (hasG G (x - 1) (y - 1) && !hasG G (x - 1) y) := by simp [isSide]
    rw [hr]
    go_enter Tryz.func137, Tryz.ntmps137
    cases hc : hasG G (x - 1) (y - 1)
    all_goals
      go_wp2_with (go_at_call 103; (with_reducible refine (HQ.out _ _).mono ?_); rintro e w1 ⟨he, rfl⟩; (try rw [hc] at he); subst he)
      go_ret
      exact ⟨rfl, rfl⟩
  have b2 : (dx == -1) = false := by simpa using h2
  by_cases h3 : dy = 1
  · subst h3
    have hr : isSide G x y dx 1 = (hasG G (x - 1) y && !hasG G x y) := by simp [isSide, h1, h2]
    rw [hr]
    go_enter Tryz.func137, Tryz.ntmps137
    cases hc : hasG G (x - 1) y
    all_goals
      go_wp2_with (go_at_call 103; (with_reducible refine (HQ.out _ _).mono ?_); rintro e w1 ⟨he, rfl⟩; (try rw [hc] at he); subst he)
      go_ret
      exact ⟨rfl, rfl⟩
  have b3 : (dy == 1) = false := by simpa using h3
  have hr : isSide G x y dx dy = (hasG G x (y - 1) && !hasG G (x - 1) (y - 1)) := by simp [isSide, h1, h2, h3]
  rw [hr]
  go_enter Tryz.func137, Tryz.ntmps137
  cases hc : hasG G x (y - 1)
  all_goals
    go_wp2_with (go_at_call 103; (with_reducible refine (HQ.out _ _).mono ?_); rintro e w1 ⟨he, rfl⟩; (try rw [hc] at he); subst he)
    go_ret
    exact ⟨rfl, rfl⟩

set_option maxHeartbeats 800000 in
set_option maxRecDepth 100000 in
/-- l06Less. -/
theorem less_any (a b : Ed) (w : World) : Calls Tryz.prog 136 #[a.val, b.val] w fun e w' => e = .returned (.bool (edLt a b)) ∧ Below w.heap.size w w' := by
  obtain ⟨x0, y0, x1, y1⟩ := a
  obtain ⟨u0, v0, u1, v1⟩ := b
  have bb : Below w.heap.size w ((w.alloc (.cells #[.int .i64 x0, .int .i64 y0, .int .i64 x1, .int .i64 y1] 48)).alloc (.cells #[.int .i64 u0, .int .i64 v0, .int .i64 u1, .int .i64 v1] 48)) := ((Below.refl _ _).alloc (Nat.le_refl _) _).alloc (by simp) _
  unfold Ed.val edLt
  dsimp only
  go_enter Tryz.func136, Tryz.ntmps136
  by_cases h1 : y0 = v0
  · subst h1
    by_cases h2 : x0 = u0
    · subst h2
      by_cases h3 : y1 = v1
      · subst h3
        go_wp2
        go_ret
        exact ⟨ret_bool (by simp), bb⟩
      · have b3 : (y1 == v1) = false := by simpa using h3
        go_wp2
        go_ret
        exact ⟨ret_bool (by simp), bb⟩
    · have b2 : (x0 == u0) = false := by simpa using h2
      go_wp2
      go_ret
      exact ⟨ret_bool (by simp), bb⟩
  · have b1 : (y0 == v0) = false := by simpa using h1
    go_wp2
    go_ret
    exact ⟨ret_bool (by simp), bb⟩

theorem sidesTo_row (G : Gr) (n m : Nat) (hm : m < 80) : sidesTo G (80 * n + m + 1) = sidesTo G (80 * n + m) ++ sidesAt G ((m : Int) - 40) ((n : Int) - 40) := by
  rw [sidesTo_succ, show (80 * n + m) % 80 = m by omega, show (80 * n + m) / 80 = n by omega]
end Go.Proofs.YtjiljodchebniaaGreat
