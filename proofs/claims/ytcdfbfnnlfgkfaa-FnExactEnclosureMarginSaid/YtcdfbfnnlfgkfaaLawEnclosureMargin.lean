/- FnExactEnclosureMargin returns true for all arguments. No conditions. -/
import Derived.Test.YtcdfbfnnlfgkfaaLawKit
import Derived.Test.YtcdfbfnnlfgkfaaEncM
namespace Go.Proofs.Ytcdfbfnnlfgkfaa
open Go.RowKit

set_option linter.unusedVariables false
set_option maxHeartbeats 1600000 in
set_option maxRecDepth 100000 in
theorem lawEnclosureMargin (A0 : Option Addr) (n0 c0 : Nat) (rs0 : List Rc) (A1 : Option Addr) (n1 c1 : Nat) (rs1 : List Rc) (w : World) (ha0 : ArgR w A0 n0 rs0) (hn0 : n0 ≤ c0) (hc0 : c0 ≤ maxLen) (ha1 : ArgR w A1 n1 rs1) (hn1 : n1 ≤ c1) (hc1 : c1 ≤ maxLen) : Calls Try.prog 6 #[.slice A0 n0 c0, .slice A1 n1 c1] w fun e w' => e = .returned (.bool true) ∧ Below w.heap.size w w' := by
  have Hlen := True.intro
  have Hm0 := hc0
  unfold maxLen at Hm0
  have Hm1 := hc1
  unfold maxLen at Hm1
  go_enter Try.func6, Try.ntmps6
  by_cases hs0 : (n0 : Int) ≤ 1048576
  case' neg =>
    go_wp2_with fail
    refine (szRectS_no A0 n0 c0 (1048576) w (by omega) (by omega) (Nat.le_trans hn0 hc0)).mono ?_
    rintro e w1 ⟨rfl, rfl⟩
    go_wp2
    go_ret
    exact ⟨rfl, Below.refl _ _⟩
  go_wp2_with fail
  refine (szRectS_yes A0 n0 c0 (1048576) w (by omega) (by omega)).mono ?_
  rintro e w1 ⟨rfl, rfl⟩
  by_cases hs1 : (n1 : Int) ≤ 1048576 - n0
  case' neg =>
    go_wp2_with fail
    refine (szRectS_no A1 n1 c1 (1048576 - n0) w (by omega) (by omega) (Nat.le_trans hn1 hc1)).mono ?_
    rintro e w1 ⟨rfl, rfl⟩
    go_wp2
    go_ret
    exact ⟨rfl, Below.refl _ _⟩
  go_wp2_with fail
  refine (szRectS_yes A1 n1 c1 (1048576 - n0) w (by omega) (by omega)).mono ?_
  rintro e w1 ⟨rfl, rfl⟩
  have t0 := Below.refl w.heap.size w
  have hA0 := ha0
  clear ha0
  have hz0 := hA0.len
  have hA1 := ha1
  clear ha1
  have hz1 := hA1.len
  go_wp2_with fail
  refine (toRectS_any A0 n0 c0 rs0 w (hA0.on t0) (by omega)).mono ?_
  rintro e w_1 ⟨u_p0, rfl, r_p0, b_1⟩
  have lo_p0 := fun g h => (r_p0.lt g h).1
  have hi_p0 := fun g h => (r_p0.lt g h).2
  replace r_p0 := r_p0.less (Nat.zero_le _)
  have s_1 := b_1.size
  replace t0 := t0.trans (b_1.mono t0.size)
  go_wp2_with fail
  refine (toRectS_any A1 n1 c1 rs1 w_1 (hA1.on t0) (by omega)).mono ?_
  rintro e w_2 ⟨u_p1, rfl, r_p1, b_2⟩
  have lo_p1 := fun g h => (r_p1.lt g h).1
  have hi_p1 := fun g h => (r_p1.lt g h).2
  replace r_p1 := r_p1.less (Nat.zero_le _)
  replace r_p0 := r_p0.on b_2
  have s_2 := b_2.size
  replace t0 := t0.trans (b_2.mono t0.size)
  go_wp2_with fail
  refine (margin_spec u_p0 rs0 u_p1 rs1 w_2 r_p0 r_p1).mono ?_
  rintro e w_3 ⟨rfl, b_3⟩
  replace r_p0 := r_p0.on b_3
  replace r_p1 := r_p1.on b_3
  have s_3 := b_3.size
  replace t0 := t0.trans (b_3.mono t0.size)
  clear r_p0 lo_p0 hi_p0
  clear r_p1 lo_p1 hi_p1
  go_wp2_with fail
  refine (toRectS_any A0 n0 c0 rs0 w_3 (hA0.on t0) (by omega)).mono ?_
  rintro e w_4 ⟨u_x0, rfl, r_x0, b_4⟩
  have lo_x0 := fun g h => (r_x0.lt g h).1
  have hi_x0 := fun g h => (r_x0.lt g h).2
  replace r_x0 := r_x0.less (Nat.zero_le _)
  have s_4 := b_4.size
  replace t0 := t0.trans (b_4.mono t0.size)
  go_wp2_with fail
  refine (toRectS_any A1 n1 c1 rs1 w_4 (hA1.on t0) (by omega)).mono ?_
  rintro e w_5 ⟨u_x1, rfl, r_x1, b_5⟩
  have lo_x1 := fun g h => (r_x1.lt g h).1
  have hi_x1 := fun g h => (r_x1.lt g h).2
  replace r_x1 := r_x1.less (Nat.zero_le _)
  replace r_x0 := r_x0.on b_5
  have s_5 := b_5.size
  replace t0 := t0.trans (b_5.mono t0.size)
  go_wp2_with fail
  refine (margin_impl u_x0 rs0 u_x1 rs1 w_5 r_x0 r_x1).mono ?_
  rintro e w_6 ⟨rfl, b_6⟩
  replace r_x0 := r_x0.on b_6
  replace r_x1 := r_x1.on b_6
  have s_6 := b_6.size
  replace t0 := t0.trans (b_6.mono t0.size)
  go_wp2_with fail
  refine (toRectS_any A0 n0 c0 rs0 w_6 (hA0.on t0) (by omega)).mono ?_
  rintro e w_7 ⟨u_y0, rfl, r_y0, b_7⟩
  have lo_y0 := fun g h => (r_y0.lt g h).1
  have hi_y0 := fun g h => (r_y0.lt g h).2
  replace r_y0 := r_y0.less (Nat.zero_le _)
  replace r_x0 := r_x0.on b_7
  replace r_x1 := r_x1.on b_7
  have s_7 := b_7.size
  replace t0 := t0.trans (b_7.mono t0.size)
  go_wp2_with fail
  refine (eqRectS_same u_x0 u_y0 rs0 w_7 r_x0 r_y0).mono ?_
  rintro e w_8 ⟨rfl, b_8⟩
  replace r_x0 := r_x0.on b_8
  replace r_x1 := r_x1.on b_8
  replace r_y0 := r_y0.on b_8
  have s_8 := b_8.size
  replace t0 := t0.trans (b_8.mono t0.size)
  clear r_y0 lo_y0 hi_y0
  go_wp2_with fail
  refine (toRectS_any A1 n1 c1 rs1 w_8 (hA1.on t0) (by omega)).mono ?_
  rintro e w_9 ⟨u_y1, rfl, r_y1, b_9⟩
  have lo_y1 := fun g h => (r_y1.lt g h).1
  have hi_y1 := fun g h => (r_y1.lt g h).2
  replace r_y1 := r_y1.less (Nat.zero_le _)
  replace r_x0 := r_x0.on b_9
  replace r_x1 := r_x1.on b_9
  have s_9 := b_9.size
  replace t0 := t0.trans (b_9.mono t0.size)
  go_wp2_with fail
  refine (eqRectS_same u_x1 u_y1 rs1 w_9 r_x1 r_y1).mono ?_
  rintro e w_10 ⟨rfl, b_10⟩
  replace r_x0 := r_x0.on b_10
  replace r_x1 := r_x1.on b_10
  replace r_y1 := r_y1.on b_10
  have s_10 := b_10.size
  replace t0 := t0.trans (b_10.mono t0.size)
  clear r_y1 lo_y1 hi_y1
  go_wp2
  go_ret
  exact ⟨rfl, t0⟩

end Go.Proofs.Ytcdfbfnnlfgkfaa
