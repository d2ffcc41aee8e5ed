/- FnExactMarkerUnion returns true for all arguments. No conditions. -/
import Derived.Test.YtbljapihmkmolaaLawKit
import Derived.Test.YtbljapihmkmolaaMarkU
import Derived.Test.YtbljapihmkmolaaVOps
namespace Go.Proofs.Ytbljapihmkmolaa
open Go.RowKit

set_option linter.unusedVariables false
set_option maxHeartbeats 3200000 in
set_option maxRecDepth 100000 in
theorem lawMarkerUnion (A0 : Option Addr) (n0 c0 : Nat) (vs0 : List (Int × List Rc)) (x1 : Int) (w : World) (ha0 : ArgV w A0 n0 vs0) (hn0 : n0 ≤ c0) (hc0 : c0 ≤ maxLen) (hx1 : I64 x1) : Calls Try.prog 7 #[.slice A0 n0 c0, .int .i64 x1] w fun e w' => e = .returned (.bool true) ∧ Below w.heap.size w w' := by
  have hlen := muV_length vs0 x1
  have Hm0 := hc0
  unfold maxLen at Hm0
  go_enter Try.func7, Try.ntmps7
  by_cases hs0 : ((n0 + sizeV vs0 : Nat) : Int) ≤ 1048576
  case' neg =>
    go_wp2_with fail
    refine (szVios_no A0 n0 c0 vs0 (1048576) w ha0 (by omega) (by omega) (by omega) (Nat.le_trans hn0 hc0)).mono ?_
    rintro e w1 ⟨rfl, hbz⟩
    go_wp2
    go_ret
    exact ⟨rfl, hbz⟩
  go_wp2_with fail
  refine (szVios_yes A0 n0 c0 vs0 (1048576) w ha0 (by omega) (by omega)).mono ?_
  rintro e w_0 ⟨rfl, hbz⟩
  have t0 := Lib.hid (hbz)
  clear hbz
  have hz0 := ha0.len
  have hA0 := Lib.hid ha0
  have hl0 : n0 + sizeV vs0 ≤ 1048576 := by omega
  clear ha0
  clear hn0 hc0
  have tz := Lib.hid t0.out.size
  go_wp2_with fail
  refine (toVios_any A0 n0 c0 vs0 _ (hA0.out.on t0.out) hl0).mono ?_
  rintro e w_1 ⟨u_p0, us_p0, rfl, q_p0, ap_p0, b_1⟩
  have ap_p0 := Lib.hid ap_p0
  have in_p0 := Lib.hid q_p0.inside
  have r_p0 := Lib.hid (q_p0.less (Nat.zero_le _))
  clear q_p0
  have s_1 := Lib.hid b_1.size
  replace t0 := Lib.hid (t0.out.trans (b_1.mono t0.out.size))
  clear b_1
  go_wp2_with fail
  refine (mu_spec u_p0 us_p0 vs0 x1 _ r_p0.out).mono ?_
  rintro e w_2 ⟨u_w0, rfl, q_w0, b_2⟩
  have lo_w0 := Lib.hid (fun g h => (q_w0.lt g h).1)
  have hi_w0 := Lib.hid (fun g h => (q_w0.lt g h).2)
  have r_w0 := Lib.hid (q_w0.less (Nat.zero_le _))
  clear q_w0
  replace r_p0 := Lib.hid (r_p0.out.on b_2)
  have s_2 := Lib.hid b_2.size
  replace t0 := Lib.hid (t0.out.trans (b_2.mono t0.out.size))
  clear b_2
  clear r_p0 in_p0 ap_p0
  go_wp2_with fail
  refine (toVios_any A0 n0 c0 vs0 _ (hA0.out.on t0.out) hl0).mono ?_
  rintro e w_3 ⟨u_x0, us_x0, rfl, q_x0, ap_x0, b_3⟩
  have ap_x0 := Lib.hid ap_x0
  have in_x0 := Lib.hid q_x0.inside
  have r_x0 := Lib.hid (q_x0.less (Nat.zero_le _))
  clear q_x0
  replace r_w0 := Lib.hid (r_w0.out.on b_3)
  have s_3 := Lib.hid b_3.size
  replace t0 := Lib.hid (t0.out.trans (b_3.mono t0.out.size))
  clear b_3
  go_wp2_with fail
  refine (mu_impl u_x0 us_x0 vs0 x1 _ r_x0.out).mono ?_
  rintro e w_4 ⟨u_g0, rfl, q_g0, b_4⟩
  have lo_g0 := Lib.hid (fun g h => (q_g0.lt g h).1)
  have hi_g0 := Lib.hid (fun g h => (q_g0.lt g h).2)
  have r_g0 := Lib.hid (q_g0.less (Nat.zero_le _))
  clear q_g0
  replace r_w0 := Lib.hid (r_w0.out.on b_4)
  replace r_x0 := Lib.hid (r_x0.out.on b_4)
  have s_4 := Lib.hid b_4.size
  replace t0 := Lib.hid (t0.out.trans (b_4.mono t0.out.size))
  clear b_4
  go_wp2_with fail
  refine (eqRectS_same u_g0 u_w0 (muV vs0 x1) _ r_g0.out r_w0.out).mono ?_
  rintro e w_5 ⟨rfl, b_5⟩
  replace r_w0 := Lib.hid (r_w0.out.on b_5)
  replace r_x0 := Lib.hid (r_x0.out.on b_5)
  replace r_g0 := Lib.hid (r_g0.out.on b_5)
  have s_5 := Lib.hid b_5.size
  replace t0 := Lib.hid (t0.out.trans (b_5.mono t0.out.size))
  clear b_5
  go_wp2_with fail
  refine (toVios_any A0 n0 c0 vs0 _ (hA0.out.on t0.out) hl0).mono ?_
  rintro e w_6 ⟨u_y0, us_y0, rfl, q_y0, ap_y0, b_6⟩
  have ap_y0 := Lib.hid ap_y0
  have in_y0 := Lib.hid q_y0.inside
  have r_y0 := Lib.hid (q_y0.less (Nat.zero_le _))
  clear q_y0
  replace r_w0 := Lib.hid (r_w0.out.on b_6)
  replace r_x0 := Lib.hid (r_x0.out.on b_6)
  replace r_g0 := Lib.hid (r_g0.out.on b_6)
  have s_6 := Lib.hid b_6.size
  replace t0 := Lib.hid (t0.out.trans (b_6.mono t0.out.size))
  clear b_6
  go_wp2_with fail
  refine (eqVios_same u_x0 u_y0 us_x0 us_y0 vs0 _ r_x0.out r_y0.out).mono ?_
  rintro e w_7 ⟨rfl, b_7⟩
  replace r_w0 := Lib.hid (r_w0.out.on b_7)
  replace r_x0 := Lib.hid (r_x0.out.on b_7)
  replace r_g0 := Lib.hid (r_g0.out.on b_7)
  replace r_y0 := Lib.hid (r_y0.out.on b_7)
  have s_7 := Lib.hid b_7.size
  replace t0 := Lib.hid (t0.out.trans (b_7.mono t0.out.size))
  clear b_7
  clear r_y0 in_y0 ap_y0
  go_wp2_with fail
  refine (markVios_any u_x0 us_x0 vs0 _ 0 r_x0.out ap_x0.out _ _ in_x0.out _ (by omega) (by omega) (by omega)).mono ?_
  rintro e w_8 ⟨rfl, m_x0, g_8⟩
  replace r_w0 := Lib.hid (g_8.own r_w0.out (fun g h => .inl (by have := hi_w0.out g h; omega)))
  change Hid (RL _ _ _ _) at r_w0
  replace r_g0 := Lib.hid (g_8.own r_g0.out (fun g h => .inr (by have := lo_g0.out g h; omega)))
  change Hid (RL _ _ _ _) at r_g0
  have b_8 : Below w.heap.size w_7 w_8 := g_8.below (by have := tz.out; have := s_1.out; have := s_2.out; omega) t0.out.size
  have s_8 := Lib.hid g_8.size
  replace t0 := Lib.hid (t0.out.trans b_8)
  clear b_8 g_8 r_x0 in_x0 ap_x0
  clear m_x0
  have hend : ¬ (endV 1 vs0 < 0) := by rw [endV_eq]; omega
  go_wp2_with fail
  refine (eqRectS_same u_g0 u_w0 (muV vs0 x1) _ r_g0.out r_w0.out).mono ?_
  rintro e w_9 ⟨rfl, b_9⟩
  replace r_w0 := Lib.hid (r_w0.out.on b_9)
  replace r_g0 := Lib.hid (r_g0.out.on b_9)
  have s_9 := Lib.hid b_9.size
  replace t0 := Lib.hid (t0.out.trans (b_9.mono t0.out.size))
  clear b_9
  go_wp2_with fail
  refine (markRectS_any u_g0 (muV vs0 x1) _ 0 r_g0.out _ (by omega) (by omega) (by omega)).mono ?_
  rintro e w_10 ⟨rfl, m_g0, g_10⟩
  replace r_w0 := Lib.hid (RL.far (N := w_3.heap.size) r_w0.out (fun g h => by have := hi_w0.out g h; have := s_3.out; omega) g_10 lo_g0.out)
  have b_10 : Below w.heap.size w_9 w_10 := (Below.refl w.heap.size w_9).grown g_10 t0.out.size (fun g h => by have := lo_g0.out g h; have := tz.out; have := s_1.out; have := s_2.out; have := s_3.out; omega)
  have s_10 := Lib.hid b_10.size
  replace t0 := Lib.hid (t0.out.trans b_10)
  clear b_10 g_10 r_g0 lo_g0 hi_g0
  replace m_g0 := Lib.hid m_g0
  go_wp2_with fail
  refine (heldRectS_any u_g0 (muV vs0 x1).length _ (1) m_g0.out (by omega) (by omega) (by omega)).mono ?_
  rintro e _ ⟨rfl, rfl⟩
  go_wp2_with fail
  refine (toVios_any A0 n0 c0 vs0 _ (hA0.out.on t0.out) hl0).mono ?_
  rintro e w_11 ⟨u_z0, us_z0, rfl, q_z0, ap_z0, b_11⟩
  have ap_z0 := Lib.hid ap_z0
  have in_z0 := Lib.hid q_z0.inside
  have r_z0 := Lib.hid (q_z0.less (Nat.zero_le _))
  clear q_z0
  replace r_w0 := Lib.hid (r_w0.out.on b_11)
  replace m_g0 := Lib.hid (m_g0.out.on b_11)
  have s_11 := Lib.hid b_11.size
  replace t0 := Lib.hid (t0.out.trans (b_11.mono t0.out.size))
  clear b_11
  go_wp2_with fail
  refine (mu_impl u_z0 us_z0 vs0 x1 _ r_z0.out).mono ?_
  rintro e w_12 ⟨u_h0, rfl, q_h0, b_12⟩
  have lo_h0 := Lib.hid (fun g h => (q_h0.lt g h).1)
  have hi_h0 := Lib.hid (fun g h => (q_h0.lt g h).2)
  have r_h0 := Lib.hid (q_h0.less (Nat.zero_le _))
  clear q_h0
  replace r_w0 := Lib.hid (r_w0.out.on b_12)
  replace r_z0 := Lib.hid (r_z0.out.on b_12)
  replace m_g0 := Lib.hid (m_g0.out.on b_12)
  have s_12 := Lib.hid b_12.size
  replace t0 := Lib.hid (t0.out.trans (b_12.mono t0.out.size))
  clear b_12
  clear r_z0 in_z0 ap_z0
  go_wp2_with fail
  refine (eqRectS_same u_h0 u_w0 (muV vs0 x1) _ r_h0.out r_w0.out).mono ?_
  rintro e w_13 ⟨rfl, b_13⟩
  replace r_w0 := Lib.hid (r_w0.out.on b_13)
  replace r_h0 := Lib.hid (r_h0.out.on b_13)
  replace m_g0 := Lib.hid (m_g0.out.on b_13)
  have s_13 := Lib.hid b_13.size
  replace t0 := Lib.hid (t0.out.trans (b_13.mono t0.out.size))
  clear b_13
  go_wp2_with fail
  refine (heldRectS_any u_g0 (muV vs0 x1).length _ (1) m_g0.out (by omega) (by omega) (by omega)).mono ?_
  rintro e _ ⟨rfl, rfl⟩
  go_wp2
  go_ret
  exact ⟨rfl, t0.out⟩

end Go.Proofs.Ytbljapihmkmolaa
