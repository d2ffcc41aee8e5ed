/- FnExactMarkSpacingBetween returns true for all arguments. No conditions. -/
import Derived.Test.YthifinolgbjekaaLawKit
import Derived.Test.YthifinolgbjekaaSpac2
namespace Go.Proofs.Ythifinolgbjekaa
open Go.RowKit

set_option linter.unusedVariables false
set_option maxHeartbeats 3200000 in
set_option maxRecDepth 100000 in
theorem lawMarkSpacingBetween (A0 : Option Addr) (n0 c0 : Nat) (rs0 : List Rc) (A1 : Option Addr) (n1 c1 : Nat) (rs1 : List Rc) (x2 : Int) (w : World) (ha0 : ArgR w A0 n0 rs0) (hn0 : n0 ≤ c0) (hc0 : c0 ≤ maxLen) (ha1 : ArgR w A1 n1 rs1) (hn1 : n1 ≤ c1) (hc1 : c1 ≤ maxLen) (hx2 : I64 x2) : Calls Try.prog 11 #[.slice A0 n0 c0, .slice A1 n1 c1, .int .i64 x2] w fun e w' => e = .returned (.bool true) ∧ Below w.heap.size w w' := by
  have hlen := mkbV_length rs0 rs1 x2
  have Hm0 := hc0
  unfold maxLen at Hm0
  have Hm1 := hc1
  unfold maxLen at Hm1
  go_enter Try.func11, Try.ntmps11
  by_cases hs0 : (n0 : Int) ≤ 1048576
  case' neg =>
    go_wp2_with fail
    refine (szRectS_no A0 n0 c0 (1048576) w (by omega) (by omega) (Nat.le_trans hn0 hc0)).mono ?_
    rintro e w1 ⟨rfl, rfl⟩
    go_wp2
    go_ret
    exact ⟨rfl, Below.refl _ _⟩
  go_wp2_with fail
  refine (szRectS_yes A0 n0 c0 (1048576) w (by omega) (by omega)).mono ?_
  rintro e w1 ⟨rfl, rfl⟩
  by_cases hs1 : (n1 : Int) ≤ 1048576 - n0
  case' neg =>
    go_wp2_with fail
    refine (szRectS_no A1 n1 c1 (1048576 - n0) w (by omega) (by omega) (Nat.le_trans hn1 hc1)).mono ?_
    rintro e w1 ⟨rfl, rfl⟩
    go_wp2
    go_ret
    exact ⟨rfl, Below.refl _ _⟩
  go_wp2_with fail
  refine (szRectS_yes A1 n1 c1 (1048576 - n0) w (by omega) (by omega)).mono ?_
  rintro e w1 ⟨rfl, rfl⟩
  have t0 := Lib.hid (Below.refl w.heap.size w)
  have hz0 := ha0.len
  have hA0 := Lib.hid ha0
  have hl0 : n0 ≤ 1048576 := by omega
  clear ha0
  have hz1 := ha1.len
  have hA1 := Lib.hid ha1
  have hl1 : n1 ≤ 1048576 := by omega
  clear ha1
  clear hn0 hc0 hn1 hc1
  go_wp2_with fail
  refine (toRectS_any A0 n0 c0 rs0 _ (hA0.out.on t0.out) hl0).mono ?_
  rintro e w_1 ⟨u_p0, rfl, q_p0, b_1⟩
  have lo_p0 := Lib.hid (fun g h => (q_p0.lt g h).1)
  have hi_p0 := Lib.hid (fun g h => (q_p0.lt g h).2)
  have r_p0 := Lib.hid (q_p0.less (Nat.zero_le _))
  clear q_p0
  have s_1 := Lib.hid b_1.size
  replace t0 := Lib.hid (t0.out.trans (b_1.mono t0.out.size))
  clear b_1
  go_wp2_with fail
  refine (toRectS_any A1 n1 c1 rs1 _ (hA1.out.on t0.out) hl1).mono ?_
  rintro e w_2 ⟨u_p1, rfl, q_p1, b_2⟩
  have lo_p1 := Lib.hid (fun g h => (q_p1.lt g h).1)
  have hi_p1 := Lib.hid (fun g h => (q_p1.lt g h).2)
  have r_p1 := Lib.hid (q_p1.less (Nat.zero_le _))
  clear q_p1
  replace r_p0 := Lib.hid (r_p0.out.on b_2)
  have s_2 := Lib.hid b_2.size
  replace t0 := Lib.hid (t0.out.trans (b_2.mono t0.out.size))
  clear b_2
  go_wp2_with fail
  refine (mkb_spec u_p0 rs0 u_p1 rs1 x2 _ r_p0.out r_p1.out).mono ?_
  rintro e w_3 ⟨u_w0, rfl, q_w0, b_3⟩
  have lo_w0 := Lib.hid (fun g h => (q_w0.lt g h).1)
  have hi_w0 := Lib.hid (fun g h => (q_w0.lt g h).2)
  have r_w0 := Lib.hid (q_w0.less (Nat.zero_le _))
  clear q_w0
  replace r_p0 := Lib.hid (r_p0.out.on b_3)
  replace r_p1 := Lib.hid (r_p1.out.on b_3)
  have s_3 := Lib.hid b_3.size
  replace t0 := Lib.hid (t0.out.trans (b_3.mono t0.out.size))
  clear b_3
  clear r_p0 lo_p0 hi_p0
  clear r_p1 lo_p1 hi_p1
  go_wp2_with fail
  refine (toRectS_any A0 n0 c0 rs0 _ (hA0.out.on t0.out) hl0).mono ?_
  rintro e w_4 ⟨u_x0, rfl, q_x0, b_4⟩
  have lo_x0 := Lib.hid (fun g h => (q_x0.lt g h).1)
  have hi_x0 := Lib.hid (fun g h => (q_x0.lt g h).2)
  have r_x0 := Lib.hid (q_x0.less (Nat.zero_le _))
  clear q_x0
  replace r_w0 := Lib.hid (r_w0.out.on b_4)
  have s_4 := Lib.hid b_4.size
  replace t0 := Lib.hid (t0.out.trans (b_4.mono t0.out.size))
  clear b_4
  go_wp2_with fail
  refine (toRectS_any A1 n1 c1 rs1 _ (hA1.out.on t0.out) hl1).mono ?_
  rintro e w_5 ⟨u_x1, rfl, q_x1, b_5⟩
  have lo_x1 := Lib.hid (fun g h => (q_x1.lt g h).1)
  have hi_x1 := Lib.hid (fun g h => (q_x1.lt g h).2)
  have r_x1 := Lib.hid (q_x1.less (Nat.zero_le _))
  clear q_x1
  replace r_w0 := Lib.hid (r_w0.out.on b_5)
  replace r_x0 := Lib.hid (r_x0.out.on b_5)
  have s_5 := Lib.hid b_5.size
  replace t0 := Lib.hid (t0.out.trans (b_5.mono t0.out.size))
  clear b_5
  go_wp2_with fail
  refine (mkb_impl u_x0 rs0 u_x1 rs1 x2 _ r_x0.out r_x1.out).mono ?_
  rintro e w_6 ⟨u_g0, rfl, q_g0, b_6⟩
  have lo_g0 := Lib.hid (fun g h => (q_g0.lt g h).1)
  have hi_g0 := Lib.hid (fun g h => (q_g0.lt g h).2)
  have r_g0 := Lib.hid (q_g0.less (Nat.zero_le _))
  clear q_g0
  replace r_w0 := Lib.hid (r_w0.out.on b_6)
  replace r_x0 := Lib.hid (r_x0.out.on b_6)
  replace r_x1 := Lib.hid (r_x1.out.on b_6)
  have s_6 := Lib.hid b_6.size
  replace t0 := Lib.hid (t0.out.trans (b_6.mono t0.out.size))
  clear b_6
  go_wp2_with fail
  refine (eqRectS_same u_g0 u_w0 (mkbV rs0 rs1 x2) _ r_g0.out r_w0.out).mono ?_
  rintro e w_7 ⟨rfl, b_7⟩
  replace r_w0 := Lib.hid (r_w0.out.on b_7)
  replace r_x0 := Lib.hid (r_x0.out.on b_7)
  replace r_x1 := Lib.hid (r_x1.out.on b_7)
  replace r_g0 := Lib.hid (r_g0.out.on b_7)
  have s_7 := Lib.hid b_7.size
  replace t0 := Lib.hid (t0.out.trans (b_7.mono t0.out.size))
  clear b_7
  go_wp2_with fail
  refine (toRectS_any A0 n0 c0 rs0 _ (hA0.out.on t0.out) hl0).mono ?_
  rintro e w_8 ⟨u_y0, rfl, q_y0, b_8⟩
  have lo_y0 := Lib.hid (fun g h => (q_y0.lt g h).1)
  have hi_y0 := Lib.hid (fun g h => (q_y0.lt g h).2)
  have r_y0 := Lib.hid (q_y0.less (Nat.zero_le _))
  clear q_y0
  replace r_w0 := Lib.hid (r_w0.out.on b_8)
  replace r_x0 := Lib.hid (r_x0.out.on b_8)
  replace r_x1 := Lib.hid (r_x1.out.on b_8)
  replace r_g0 := Lib.hid (r_g0.out.on b_8)
  have s_8 := Lib.hid b_8.size
  replace t0 := Lib.hid (t0.out.trans (b_8.mono t0.out.size))
  clear b_8
  go_wp2_with fail
  refine (eqRectS_same u_x0 u_y0 rs0 _ r_x0.out r_y0.out).mono ?_
  rintro e w_9 ⟨rfl, b_9⟩
  replace r_w0 := Lib.hid (r_w0.out.on b_9)
  replace r_x0 := Lib.hid (r_x0.out.on b_9)
  replace r_x1 := Lib.hid (r_x1.out.on b_9)
  replace r_g0 := Lib.hid (r_g0.out.on b_9)
  replace r_y0 := Lib.hid (r_y0.out.on b_9)
  have s_9 := Lib.hid b_9.size
  replace t0 := Lib.hid (t0.out.trans (b_9.mono t0.out.size))
  clear b_9
  clear r_y0 lo_y0 hi_y0
  go_wp2_with fail
  refine (toRectS_any A1 n1 c1 rs1 _ (hA1.out.on t0.out) hl1).mono ?_
  rintro e w_10 ⟨u_y1, rfl, q_y1, b_10⟩
  have lo_y1 := Lib.hid (fun g h => (q_y1.lt g h).1)
  have hi_y1 := Lib.hid (fun g h => (q_y1.lt g h).2)
  have r_y1 := Lib.hid (q_y1.less (Nat.zero_le _))
  clear q_y1
  replace r_w0 := Lib.hid (r_w0.out.on b_10)
  replace r_x0 := Lib.hid (r_x0.out.on b_10)
  replace r_x1 := Lib.hid (r_x1.out.on b_10)
  replace r_g0 := Lib.hid (r_g0.out.on b_10)
  have s_10 := Lib.hid b_10.size
  replace t0 := Lib.hid (t0.out.trans (b_10.mono t0.out.size))
  clear b_10
  go_wp2_with fail
  refine (eqRectS_same u_x1 u_y1 rs1 _ r_x1.out r_y1.out).mono ?_
  rintro e w_11 ⟨rfl, b_11⟩
  replace r_w0 := Lib.hid (r_w0.out.on b_11)
  replace r_x0 := Lib.hid (r_x0.out.on b_11)
  replace r_x1 := Lib.hid (r_x1.out.on b_11)
  replace r_g0 := Lib.hid (r_g0.out.on b_11)
  replace r_y1 := Lib.hid (r_y1.out.on b_11)
  have s_11 := Lib.hid b_11.size
  replace t0 := Lib.hid (t0.out.trans (b_11.mono t0.out.size))
  clear b_11
  clear r_y1 lo_y1 hi_y1
  go_wp2_with fail
  refine (markRectS_any u_x0 rs0 _ 0 r_x0.out _ (by omega) (by omega) (by omega)).mono ?_
  rintro e w_12 ⟨rfl, m_x0, g_12⟩
  replace r_w0 := Lib.hid (RL.far (N := w_3.heap.size) r_w0.out (fun g h => by have := hi_w0.out g h; omega) g_12 lo_x0.out)
  replace r_x1 := Lib.hid (RL.near (N := w_4.heap.size) r_x1.out (fun g h => by have := lo_x1.out g h; omega) g_12 hi_x0.out)
  replace r_g0 := Lib.hid (RL.near (N := w_4.heap.size) r_g0.out (fun g h => by have := lo_g0.out g h; have := s_5.out; omega) g_12 hi_x0.out)
  have b_12 : Below w.heap.size w_11 w_12 := (Below.refl w.heap.size w_11).grown g_12 (by have := s_1.out; have := s_2.out; have := s_3.out; have := s_4.out; have := s_5.out; have := s_6.out; have := s_7.out; have := s_8.out; have := s_9.out; have := s_10.out; have := s_11.out; omega) (fun g h => by have := lo_x0.out g h; have := s_1.out; have := s_2.out; have := s_3.out; omega)
  have s_12 := Lib.hid b_12.size
  replace t0 := Lib.hid (t0.out.trans b_12)
  clear b_12 g_12 r_x0 lo_x0 hi_x0
  clear m_x0
  go_wp2_with fail
  refine (markRectS_any u_x1 rs1 _ 0 r_x1.out _ (by omega) (by omega) (by omega)).mono ?_
  rintro e w_13 ⟨rfl, m_x1, g_13⟩
  replace r_w0 := Lib.hid (RL.far (N := w_4.heap.size) r_w0.out (fun g h => by have := hi_w0.out g h; have := s_4.out; omega) g_13 lo_x1.out)
  replace r_g0 := Lib.hid (RL.near (N := w_5.heap.size) r_g0.out (fun g h => by have := lo_g0.out g h; omega) g_13 hi_x1.out)
  have b_13 : Below w.heap.size w_12 w_13 := (Below.refl w.heap.size w_12).grown g_13 (by have := s_1.out; have := s_2.out; have := s_3.out; have := s_4.out; have := s_5.out; have := s_6.out; have := s_7.out; have := s_8.out; have := s_9.out; have := s_10.out; have := s_11.out; have := s_12.out; omega) (fun g h => by have := lo_x1.out g h; have := s_1.out; have := s_2.out; have := s_3.out; have := s_4.out; omega)
  have s_13 := Lib.hid b_13.size
  replace t0 := Lib.hid (t0.out.trans b_13)
  clear b_13 g_13 r_x1 lo_x1 hi_x1
  clear m_x1
  go_wp2_with fail
  refine (eqRectS_same u_g0 u_w0 (mkbV rs0 rs1 x2) _ r_g0.out r_w0.out).mono ?_
  rintro e w_14 ⟨rfl, b_14⟩
  replace r_w0 := Lib.hid (r_w0.out.on b_14)
  replace r_g0 := Lib.hid (r_g0.out.on b_14)
  have s_14 := Lib.hid b_14.size
  replace t0 := Lib.hid (t0.out.trans (b_14.mono t0.out.size))
  clear b_14
  go_wp2_with fail
  refine (markRectS_any u_g0 (mkbV rs0 rs1 x2) _ 0 r_g0.out _ (by omega) (by omega) (by omega)).mono ?_
  rintro e w_15 ⟨rfl, m_g0, g_15⟩
  replace r_w0 := Lib.hid (RL.far (N := w_5.heap.size) r_w0.out (fun g h => by have := hi_w0.out g h; have := s_4.out; have := s_5.out; omega) g_15 lo_g0.out)
  have b_15 : Below w.heap.size w_14 w_15 := (Below.refl w.heap.size w_14).grown g_15 (by have := s_1.out; have := s_2.out; have := s_3.out; have := s_4.out; have := s_5.out; have := s_6.out; have := s_7.out; have := s_8.out; have := s_9.out; have := s_10.out; have := s_11.out; have := s_12.out; have := s_13.out; have := s_14.out; omega) (fun g h => by have := lo_g0.out g h; have := s_1.out; have := s_2.out; have := s_3.out; have := s_4.out; have := s_5.out; omega)
  have s_15 := Lib.hid b_15.size
  replace t0 := Lib.hid (t0.out.trans b_15)
  clear b_15 g_15 r_g0 lo_g0 hi_g0
  replace m_g0 := Lib.hid m_g0
  go_wp2_with fail
  refine (heldRectS_any u_g0 (mkbV rs0 rs1 x2).length _ (1) m_g0.out (by omega) (by omega) (by omega)).mono ?_
  rintro e _ ⟨rfl, rfl⟩
  go_wp2_with fail
  refine (toRectS_any A0 n0 c0 rs0 _ (hA0.out.on t0.out) hl0).mono ?_
  rintro e w_16 ⟨u_z0, rfl, q_z0, b_16⟩
  have lo_z0 := Lib.hid (fun g h => (q_z0.lt g h).1)
  have hi_z0 := Lib.hid (fun g h => (q_z0.lt g h).2)
  have r_z0 := Lib.hid (q_z0.less (Nat.zero_le _))
  clear q_z0
  replace r_w0 := Lib.hid (r_w0.out.on b_16)
  replace m_g0 := Lib.hid (m_g0.out.on b_16)
  have s_16 := Lib.hid b_16.size
  replace t0 := Lib.hid (t0.out.trans (b_16.mono t0.out.size))
  clear b_16
  go_wp2_with fail
  refine (toRectS_any A1 n1 c1 rs1 _ (hA1.out.on t0.out) hl1).mono ?_
  rintro e w_17 ⟨u_z1, rfl, q_z1, b_17⟩
  have lo_z1 := Lib.hid (fun g h => (q_z1.lt g h).1)
  have hi_z1 := Lib.hid (fun g h => (q_z1.lt g h).2)
  have r_z1 := Lib.hid (q_z1.less (Nat.zero_le _))
  clear q_z1
  replace r_w0 := Lib.hid (r_w0.out.on b_17)
  replace r_z0 := Lib.hid (r_z0.out.on b_17)
  replace m_g0 := Lib.hid (m_g0.out.on b_17)
  have s_17 := Lib.hid b_17.size
  replace t0 := Lib.hid (t0.out.trans (b_17.mono t0.out.size))
  clear b_17
  go_wp2_with fail
  refine (mkb_impl u_z0 rs0 u_z1 rs1 x2 _ r_z0.out r_z1.out).mono ?_
  rintro e w_18 ⟨u_h0, rfl, q_h0, b_18⟩
  have lo_h0 := Lib.hid (fun g h => (q_h0.lt g h).1)
  have hi_h0 := Lib.hid (fun g h => (q_h0.lt g h).2)
  have r_h0 := Lib.hid (q_h0.less (Nat.zero_le _))
  clear q_h0
  replace r_w0 := Lib.hid (r_w0.out.on b_18)
  replace r_z0 := Lib.hid (r_z0.out.on b_18)
  replace r_z1 := Lib.hid (r_z1.out.on b_18)
  replace m_g0 := Lib.hid (m_g0.out.on b_18)
  have s_18 := Lib.hid b_18.size
  replace t0 := Lib.hid (t0.out.trans (b_18.mono t0.out.size))
  clear b_18
  clear r_z0 lo_z0 hi_z0
  clear r_z1 lo_z1 hi_z1
  go_wp2_with fail
  refine (eqRectS_same u_h0 u_w0 (mkbV rs0 rs1 x2) _ r_h0.out r_w0.out).mono ?_
  rintro e w_19 ⟨rfl, b_19⟩
  replace r_w0 := Lib.hid (r_w0.out.on b_19)
  replace r_h0 := Lib.hid (r_h0.out.on b_19)
  replace m_g0 := Lib.hid (m_g0.out.on b_19)
  have s_19 := Lib.hid b_19.size
  replace t0 := Lib.hid (t0.out.trans (b_19.mono t0.out.size))
  clear b_19
  go_wp2_with fail
  refine (heldRectS_any u_g0 (mkbV rs0 rs1 x2).length _ (1) m_g0.out (by omega) (by omega) (by omega)).mono ?_
  rintro e _ ⟨rfl, rfl⟩
  go_wp2
  go_ret
  exact ⟨rfl, t0.out⟩

end Go.Proofs.Ythifinolgbjekaa
