/- FnExactFormatReport returns true for all arguments. Condition: the table of powers of ten is laid. -/
import Derived.Test.YtggcabfognmfgaaGreatDoorLawKit
import Derived.Test.YtggcabfognmfgaaGreatDoorForm
import Derived.Test.YtggcabfognmfgaaGreatDoorVioA
namespace Go.Proofs.YtggcabfognmfgaaGreatDoor
open Go.RowKit

set_option linter.unusedVariables false
set_option maxHeartbeats 3200000 in
set_option maxRecDepth 100000 in
theorem lawFormatReport (A0 : Option Addr) (n0 c0 : Nat) (vs0 : List (Int × List Rc)) (w : World) (ha0 : ArgV w A0 n0 vs0) (hn0 : n0 ≤ c0) (hc0 : c0 ≤ maxLen) (hT : Tab w) : Calls Tryz.prog 3 #[.slice A0 n0 c0] w fun e w' => e = .returned (.bool true) ∧ Below w.heap.size w w' := by
  have Hm0 := hc0
  have HT := Lib.hid hT
  clear hT
  unfold maxLen at Hm0
  go_enter Tryz.func3, Tryz.ntmps3
  by_cases hs0 : ((n0 + sizeV vs0 : Nat) : Int) ≤ 1048576
  case' neg =>
    go_wp2_with fail
    refine (szVios_no A0 n0 c0 vs0 (1048576) w ha0 (by omega) (by omega) (by omega) (Nat.le_trans hn0 hc0)).mono ?_
    rintro e w1 ⟨rfl, hbz⟩
    go_wp2
    go_ret
    exact ⟨rfl, hbz⟩
  go_wp2_with fail
  refine (szVios_yes A0 n0 c0 vs0 (1048576) w ha0 (by omega) (by omega)).mono ?_
  rintro e w_0 ⟨rfl, hbz⟩
  have t0 := Lib.hid (hbz)
  clear hbz
  have hz0 := ha0.len
  have hA0 := Lib.hid ha0
  have hl0 : n0 + sizeV vs0 ≤ 1048576 := by omega
  clear ha0
  clear hn0 hc0
  have tz := Lib.hid t0.out.size
  go_wp2_with fail
  refine (toVios_any A0 n0 c0 vs0 _ (hA0.out.on t0.out) hl0).mono ?_
  rintro e w_1 ⟨u_p0, us_p0, rfl, q_p0, ap_p0, b_1⟩
  have ap_p0 := Lib.hid ap_p0
  have in_p0 := Lib.hid q_p0.inside
  have r_p0 := Lib.hid (q_p0.less (Nat.zero_le _))
  clear q_p0
  have s_1 := Lib.hid b_1.size
  replace t0 := Lib.hid (t0.out.trans (b_1.mono t0.out.size))
  clear b_1
  go_wp2_with fail
  refine (form_spec u_p0 us_p0 vs0 _ r_p0.out).mono ?_
  rintro e w_2 ⟨rfl, b_2⟩
  replace r_p0 := Lib.hid (r_p0.out.on b_2)
  have s_2 := Lib.hid b_2.size
  replace t0 := Lib.hid (t0.out.trans (b_2.mono t0.out.size))
  clear b_2
  clear r_p0 in_p0 ap_p0
  go_wp2_with fail
  refine (toVios_any A0 n0 c0 vs0 _ (hA0.out.on t0.out) hl0).mono ?_
  rintro e w_3 ⟨u_x0, us_x0, rfl, q_x0, ap_x0, b_3⟩
  have ap_x0 := Lib.hid ap_x0
  have in_x0 := Lib.hid q_x0.inside
  have r_x0 := Lib.hid (q_x0.less (Nat.zero_le _))
  clear q_x0
  have s_3 := Lib.hid b_3.size
  replace t0 := Lib.hid (t0.out.trans (b_3.mono t0.out.size))
  clear b_3
  go_wp2_with fail
  refine (form_impl u_x0 us_x0 vs0 _ r_x0.out (HT.out.on t0.out)).mono ?_
  rintro e w_4 ⟨rfl, b_4⟩
  replace r_x0 := Lib.hid (r_x0.out.on b_4)
  have s_4 := Lib.hid b_4.size
  replace t0 := Lib.hid (t0.out.trans (b_4.mono t0.out.size))
  clear b_4
  go_wp2_with fail
  refine (toVios_any A0 n0 c0 vs0 _ (hA0.out.on t0.out) hl0).mono ?_
  rintro e w_5 ⟨u_y0, us_y0, rfl, q_y0, ap_y0, b_5⟩
  have ap_y0 := Lib.hid ap_y0
  have in_y0 := Lib.hid q_y0.inside
  have r_y0 := Lib.hid (q_y0.less (Nat.zero_le _))
  clear q_y0
  replace r_x0 := Lib.hid (r_x0.out.on b_5)
  have s_5 := Lib.hid b_5.size
  replace t0 := Lib.hid (t0.out.trans (b_5.mono t0.out.size))
  clear b_5
  go_wp2_with fail
  refine (eqVios_same u_x0 u_y0 us_x0 us_y0 vs0 _ r_x0.out r_y0.out).mono ?_
  rintro e w_6 ⟨rfl, b_6⟩
  replace r_x0 := Lib.hid (r_x0.out.on b_6)
  replace r_y0 := Lib.hid (r_y0.out.on b_6)
  have s_6 := Lib.hid b_6.size
  replace t0 := Lib.hid (t0.out.trans (b_6.mono t0.out.size))
  clear b_6
  clear r_y0 in_y0 ap_y0
  go_wp2
  go_ret
  exact ⟨rfl, t0.out⟩

end Go.Proofs.YtggcabfognmfgaaGreatDoor
