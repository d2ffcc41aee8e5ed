/- FnExactDensityWindows returns true for every side. No conditions. -/
import Derived.Test.YtcdfbfnnlfgkfaaDens
import Derived.Test.YtcdfbfnnlfgkfaaCmp
import Derived.Test.YtcdfbfnnlfgkfaaArgs
namespace Go.Proofs.Ytcdfbfnnlfgkfaa
open Go.RowKit

theorem wins_length (s : Int) : (wins s).length ≤ 6400 := by
  unfold wins
  split
  · exact winY_length s
  · simp

set_option maxHeartbeats 400000 in
theorem lawDensityWindows (s : Int) (w : World) (_hs : I64 s) : Calls Try.prog 3 #[.int .i64 s] w fun e w' => e = .returned (.bool true) ∧ Below w.heap.size w w' := by
  have hl := wins_length s
  go_enter Try.func3, Try.ntmps3
  go_wp2_with fail
  refine (dens_spec_any s _).mono ?_
  rintro e w1 ⟨v1, rfl, r1, b1⟩
  go_wp2_with fail
  refine (dens_impl_any s _).mono ?_
  rintro e w2 ⟨v2, rfl, r2, b2⟩
  have t2 : Below w.heap.size w w2 := b1.trans (b2.mono b1.size)
  have hv1 : ∀ g, v1.ownBlock = some g → g < w1.heap.size := fun g h => (r1.lt g h).2
  have hv2 : ∀ g, v2.ownBlock = some g → w1.heap.size ≤ g := fun g h => (r2.lt g h).1
  go_wp2_with fail
  refine (eqRectS_same v2 v1 (wins s) w2 (r2.less (Nat.zero_le _)) ((r1.less (Nat.zero_le _)).on b2)).mono ?_
  rintro e w3 ⟨rfl, b3⟩
  have t3 : Below w.heap.size w w3 := t2.trans (b3.mono t2.size)
  have p1 : RL w3 0 v1 (wins s) := ((r1.less (Nat.zero_le _)).on b2).on b3
  have p2 : RL w3 0 v2 (wins s) := (r2.less (Nat.zero_le _)).on b3
  clear r1 r2
  go_wp2_with fail
  refine (markRectS_any v2 (wins s) w3 0 p2 1 (by omega) (by omega) (by omega)).mono ?_
  rintro e w4 ⟨rfl, q2, g4⟩
  have q1 : RL w4 0 v1 (wins s) := own_far p1 hv1 g4 hv2
  have t4 : Below w.heap.size w w4 := t3.grown g4 t3.size (fun g h => Nat.le_trans b1.size (hv2 g h))
  clear p1 p2
  go_wp2_with fail
  refine (heldRectS_any v2 (wins s).length w4 1 q2 (by omega) (by omega) (by omega)).mono ?_
  rintro e w5 ⟨rfl, rfl⟩
  go_wp2_with fail
  refine (dens_impl_any s _).mono ?_
  rintro e w6 ⟨v3, rfl, r3, b6⟩
  have t6 : Below w.heap.size w w6 := t4.trans (b6.mono t4.size)
  go_wp2_with fail
  refine (eqRectS_same v3 v1 (wins s) w6 (r3.less (Nat.zero_le _)) (q1.on b6)).mono ?_
  rintro e w7 ⟨rfl, b7⟩
  have t7 : Below w.heap.size w w7 := t6.trans (b7.mono t6.size)
  have q7 := (q2.on b6).on b7
  go_wp2_with fail
  refine (heldRectS_any v2 (wins s).length w7 1 q7 (by omega) (by omega) (by omega)).mono ?_
  rintro e w8 ⟨rfl, rfl⟩
  go_wp2
  go_ret
  exact ⟨rfl, t7⟩

end Go.Proofs.Ytcdfbfnnlfgkfaa
