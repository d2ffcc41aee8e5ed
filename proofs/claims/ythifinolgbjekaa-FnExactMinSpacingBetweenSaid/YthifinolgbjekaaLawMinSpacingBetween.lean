/- FnExactMinSpacingBetween returns true for all arguments. No conditions. -/
import Derived.Test.YthifinolgbjekaaLawKit
import Derived.Test.YthifinolgbjekaaSpac2
namespace Go.Proofs.Ythifinolgbjekaa
open Go.RowKit

set_option linter.unusedVariables false
set_option maxHeartbeats 3200000 in
set_option maxRecDepth 100000 in
theorem lawMinSpacingBetween (A0 : Option Addr) (n0 c0 : Nat) (rs0 : List Rc) (A1 : Option Addr) (n1 c1 : Nat) (rs1 : List Rc) (w : World) (ha0 : ArgR w A0 n0 rs0) (hn0 : n0 ≤ c0) (hc0 : c0 ≤ maxLen) (ha1 : ArgR w A1 n1 rs1) (hn1 : n1 ≤ c1) (hc1 : c1 ≤ maxLen) : Calls Try.prog 10 #[.slice A0 n0 c0, .slice A1 n1 c1] w fun e w' => e = .returned (.bool true) ∧ Below w.heap.size w w' := by
  have Hm0 := hc0
  unfold maxLen at Hm0
  have Hm1 := hc1
  unfold maxLen at Hm1
  go_enter Try.func10, Try.ntmps10
  by_cases hs0 : (n0 : Int) ≤ 1048576
  case' neg =>
    go_wp2_with fail
    refine (szRectS_no A0 n0 c0 (1048576) w (by omega) (by omega) (Nat.le_trans hn0 hc0)).mono ?_
    rintro e w1 ⟨rfl, rfl⟩
    go_wp2
    go_ret
    exact ⟨rfl, Below.refl _ _⟩
  go_wp2_with fail
  refine (szRectS_yes A0 n0 c0 (1048576) w (by omega) (by omega)).mono ?_
  rintro e w1 ⟨rfl, rfl⟩
  by_cases hs1 : (n1 : Int) ≤ 1048576 - n0
  case' neg =>
    go_wp2_with fail
    refine (szRectS_no A1 n1 c1 (1048576 - n0) w (by omega) (by omega) (Nat.le_trans hn1 hc1)).mono ?_
    rintro e w1 ⟨rfl, rfl⟩
    go_wp2
    go_ret
    exact ⟨rfl, Below.refl _ _⟩
  go_wp2_with fail
  refine (szRectS_yes A1 n1 c1 (1048576 - n0) w (by omega) (by omega)).mono ?_
  rintro e w1 ⟨rfl, rfl⟩
  have t0 := Lib.hid (Below.refl w.heap.size w)
  have hz0 := ha0.len
  have hA0 := Lib.hid ha0
  have hl0 : n0 ≤ 1048576 := by omega
  clear ha0
  have hz1 := ha1.len
  have hA1 := Lib.hid ha1
  have hl1 : n1 ≤ 1048576 := by omega
  clear ha1
  clear hn0 hc0 hn1 hc1
  go_wp2_with fail
  refine (toRectS_any A0 n0 c0 rs0 _ (hA0.out.on t0.out) hl0).mono ?_
  rintro e w_1 ⟨u_p0, rfl, q_p0, b_1⟩
  have lo_p0 := Lib.hid (fun g h => (q_p0.lt g h).1)
  have hi_p0 := Lib.hid (fun g h => (q_p0.lt g h).2)
  have r_p0 := Lib.hid (q_p0.less (Nat.zero_le _))
  clear q_p0
  have s_1 := Lib.hid b_1.size
  replace t0 := Lib.hid (t0.out.trans (b_1.mono t0.out.size))
  clear b_1
  go_wp2_with fail
  refine (toRectS_any A1 n1 c1 rs1 _ (hA1.out.on t0.out) hl1).mono ?_
  rintro e w_2 ⟨u_p1, rfl, q_p1, b_2⟩
  have lo_p1 := Lib.hid (fun g h => (q_p1.lt g h).1)
  have hi_p1 := Lib.hid (fun g h => (q_p1.lt g h).2)
  have r_p1 := Lib.hid (q_p1.less (Nat.zero_le _))
  clear q_p1
  replace r_p0 := Lib.hid (r_p0.out.on b_2)
  have s_2 := Lib.hid b_2.size
  replace t0 := Lib.hid (t0.out.trans (b_2.mono t0.out.size))
  clear b_2
  go_wp2_with fail
  refine (msb_spec u_p0 rs0 u_p1 rs1 _ r_p0.out r_p1.out).mono ?_
  rintro e w_3 ⟨rfl, b_3⟩
  replace r_p0 := Lib.hid (r_p0.out.on b_3)
  replace r_p1 := Lib.hid (r_p1.out.on b_3)
  have s_3 := Lib.hid b_3.size
  replace t0 := Lib.hid (t0.out.trans (b_3.mono t0.out.size))
  clear b_3
  clear r_p0 lo_p0 hi_p0
  clear r_p1 lo_p1 hi_p1
  go_wp2_with fail
  refine (toRectS_any A0 n0 c0 rs0 _ (hA0.out.on t0.out) hl0).mono ?_
  rintro e w_4 ⟨u_x0, rfl, q_x0, b_4⟩
  have lo_x0 := Lib.hid (fun g h => (q_x0.lt g h).1)
  have hi_x0 := Lib.hid (fun g h => (q_x0.lt g h).2)
  have r_x0 := Lib.hid (q_x0.less (Nat.zero_le _))
  clear q_x0
  have s_4 := Lib.hid b_4.size
  replace t0 := Lib.hid (t0.out.trans (b_4.mono t0.out.size))
  clear b_4
  go_wp2_with fail
  refine (toRectS_any A1 n1 c1 rs1 _ (hA1.out.on t0.out) hl1).mono ?_
  rintro e w_5 ⟨u_x1, rfl, q_x1, b_5⟩
  have lo_x1 := Lib.hid (fun g h => (q_x1.lt g h).1)
  have hi_x1 := Lib.hid (fun g h => (q_x1.lt g h).2)
  have r_x1 := Lib.hid (q_x1.less (Nat.zero_le _))
  clear q_x1
  replace r_x0 := Lib.hid (r_x0.out.on b_5)
  have s_5 := Lib.hid b_5.size
  replace t0 := Lib.hid (t0.out.trans (b_5.mono t0.out.size))
  clear b_5
  go_wp2_with fail
  refine (msb_impl u_x0 rs0 u_x1 rs1 _ r_x0.out r_x1.out).mono ?_
  rintro e w_6 ⟨rfl, b_6⟩
  replace r_x0 := Lib.hid (r_x0.out.on b_6)
  replace r_x1 := Lib.hid (r_x1.out.on b_6)
  have s_6 := Lib.hid b_6.size
  replace t0 := Lib.hid (t0.out.trans (b_6.mono t0.out.size))
  clear b_6
  go_wp2_with fail
  refine (toRectS_any A0 n0 c0 rs0 _ (hA0.out.on t0.out) hl0).mono ?_
  rintro e w_7 ⟨u_y0, rfl, q_y0, b_7⟩
  have lo_y0 := Lib.hid (fun g h => (q_y0.lt g h).1)
  have hi_y0 := Lib.hid (fun g h => (q_y0.lt g h).2)
  have r_y0 := Lib.hid (q_y0.less (Nat.zero_le _))
  clear q_y0
  replace r_x0 := Lib.hid (r_x0.out.on b_7)
  replace r_x1 := Lib.hid (r_x1.out.on b_7)
  have s_7 := Lib.hid b_7.size
  replace t0 := Lib.hid (t0.out.trans (b_7.mono t0.out.size))
  clear b_7
  go_wp2_with fail
  refine (eqRectS_same u_x0 u_y0 rs0 _ r_x0.out r_y0.out).mono ?_
  rintro e w_8 ⟨rfl, b_8⟩
  replace r_x0 := Lib.hid (r_x0.out.on b_8)
  replace r_x1 := Lib.hid (r_x1.out.on b_8)
  replace r_y0 := Lib.hid (r_y0.out.on b_8)
  have s_8 := Lib.hid b_8.size
  replace t0 := Lib.hid (t0.out.trans (b_8.mono t0.out.size))
  clear b_8
  clear r_y0 lo_y0 hi_y0
  go_wp2_with fail
  refine (toRectS_any A1 n1 c1 rs1 _ (hA1.out.on t0.out) hl1).mono ?_
  rintro e w_9 ⟨u_y1, rfl, q_y1, b_9⟩
  have lo_y1 := Lib.hid (fun g h => (q_y1.lt g h).1)
  have hi_y1 := Lib.hid (fun g h => (q_y1.lt g h).2)
  have r_y1 := Lib.hid (q_y1.less (Nat.zero_le _))
  clear q_y1
  replace r_x0 := Lib.hid (r_x0.out.on b_9)
  replace r_x1 := Lib.hid (r_x1.out.on b_9)
  have s_9 := Lib.hid b_9.size
  replace t0 := Lib.hid (t0.out.trans (b_9.mono t0.out.size))
  clear b_9
  go_wp2_with fail
  refine (eqRectS_same u_x1 u_y1 rs1 _ r_x1.out r_y1.out).mono ?_
  rintro e w_10 ⟨rfl, b_10⟩
  replace r_x0 := Lib.hid (r_x0.out.on b_10)
  replace r_x1 := Lib.hid (r_x1.out.on b_10)
  replace r_y1 := Lib.hid (r_y1.out.on b_10)
  have s_10 := Lib.hid b_10.size
  replace t0 := Lib.hid (t0.out.trans (b_10.mono t0.out.size))
  clear b_10
  clear r_y1 lo_y1 hi_y1
  go_wp2
  go_ret
  exact ⟨rfl, t0.out⟩

end Go.Proofs.Ythifinolgbjekaa
