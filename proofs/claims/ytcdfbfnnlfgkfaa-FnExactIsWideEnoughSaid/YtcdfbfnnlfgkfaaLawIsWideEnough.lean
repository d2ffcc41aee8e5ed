/- FnExactIsWideEnough returns true for all arguments. No conditions. -/
import Derived.Test.YtcdfbfnnlfgkfaaLawKit
import Derived.Test.YtcdfbfnnlfgkfaaWidth3
namespace Go.Proofs.Ytcdfbfnnlfgkfaa
open Go.RowKit

set_option linter.unusedVariables false
set_option maxHeartbeats 1600000 in
set_option maxRecDepth 100000 in
theorem lawIsWideEnough (A0 : Option Addr) (n0 c0 : Nat) (rs0 : List Rc) (x1 : Int) (w : World) (ha0 : ArgR w A0 n0 rs0) (hn0 : n0 ≤ c0) (hc0 : c0 ≤ maxLen) (hx1 : I64 x1) : Calls Try.prog 13 #[.slice A0 n0 c0, .int .i64 x1] w fun e w' => e = .returned (.bool true) ∧ Below w.heap.size w w' := by
  have Hlen := True.intro
  have Hm0 := hc0
  unfold maxLen at Hm0
  go_enter Try.func13, Try.ntmps13
  by_cases hs0 : (n0 : Int) ≤ 1048576
  case' neg =>
    go_wp2_with fail
    refine (szRectS_no A0 n0 c0 (1048576) w (by omega) (by omega) (Nat.le_trans hn0 hc0)).mono ?_
    rintro e w1 ⟨rfl, rfl⟩
    go_wp2
    go_ret
    exact ⟨rfl, Below.refl _ _⟩
  go_wp2_with fail
  refine (szRectS_yes A0 n0 c0 (1048576) w (by omega) (by omega)).mono ?_
  rintro e w1 ⟨rfl, rfl⟩
  have t0 := Below.refl w.heap.size w
  have hA0 := ha0
  clear ha0
  have hz0 := hA0.len
  go_wp2_with fail
  refine (toRectS_any A0 n0 c0 rs0 w (hA0.on t0) (by omega)).mono ?_
  rintro e w_1 ⟨u_p0, rfl, r_p0, b_1⟩
  have lo_p0 := fun g h => (r_p0.lt g h).1
  have hi_p0 := fun g h => (r_p0.lt g h).2
  replace r_p0 := r_p0.less (Nat.zero_le _)
  have s_1 := b_1.size
  replace t0 := t0.trans (b_1.mono t0.size)
  go_wp2_with fail
  refine (wide_spec u_p0 rs0 x1 w_1 r_p0).mono ?_
  rintro e w_2 ⟨rfl, b_2⟩
  replace r_p0 := r_p0.on b_2
  have s_2 := b_2.size
  replace t0 := t0.trans (b_2.mono t0.size)
  clear r_p0 lo_p0 hi_p0
  go_wp2_with fail
  refine (toRectS_any A0 n0 c0 rs0 w_2 (hA0.on t0) (by omega)).mono ?_
  rintro e w_3 ⟨u_x0, rfl, r_x0, b_3⟩
  have lo_x0 := fun g h => (r_x0.lt g h).1
  have hi_x0 := fun g h => (r_x0.lt g h).2
  replace r_x0 := r_x0.less (Nat.zero_le _)
  have s_3 := b_3.size
  replace t0 := t0.trans (b_3.mono t0.size)
  go_wp2_with fail
  refine (wide_impl u_x0 rs0 x1 w_3 r_x0).mono ?_
  rintro e w_4 ⟨rfl, b_4⟩
  replace r_x0 := r_x0.on b_4
  have s_4 := b_4.size
  replace t0 := t0.trans (b_4.mono t0.size)
  go_wp2_with fail
  refine (toRectS_any A0 n0 c0 rs0 w_4 (hA0.on t0) (by omega)).mono ?_
  rintro e w_5 ⟨u_y0, rfl, r_y0, b_5⟩
  have lo_y0 := fun g h => (r_y0.lt g h).1
  have hi_y0 := fun g h => (r_y0.lt g h).2
  replace r_y0 := r_y0.less (Nat.zero_le _)
  replace r_x0 := r_x0.on b_5
  have s_5 := b_5.size
  replace t0 := t0.trans (b_5.mono t0.size)
  go_wp2_with fail
  refine (eqRectS_same u_x0 u_y0 rs0 w_5 r_x0 r_y0).mono ?_
  rintro e w_6 ⟨rfl, b_6⟩
  replace r_x0 := r_x0.on b_6
  replace r_y0 := r_y0.on b_6
  have s_6 := b_6.size
  replace t0 := t0.trans (b_6.mono t0.size)
  clear r_y0 lo_y0 hi_y0
  go_wp2
  go_ret
  exact ⟨rfl, t0⟩

end Go.Proofs.Ytcdfbfnnlfgkfaa
