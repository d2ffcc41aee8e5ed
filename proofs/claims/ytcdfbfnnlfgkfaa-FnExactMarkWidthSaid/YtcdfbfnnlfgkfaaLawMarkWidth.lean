/- FnExactMarkWidth returns true for all arguments. No conditions. -/
import Derived.Test.YtcdfbfnnlfgkfaaLawKit
import Derived.Test.YtcdfbfnnlfgkfaaWidth3
namespace Go.Proofs.Ytcdfbfnnlfgkfaa
open Go.RowKit

set_option linter.unusedVariables false
set_option maxHeartbeats 1600000 in
set_option maxRecDepth 100000 in
theorem lawMarkWidth (A0 : Option Addr) (n0 c0 : Nat) (rs0 : List Rc) (x1 : Int) (w : World) (ha0 : ArgR w A0 n0 rs0) (hn0 : n0 ≤ c0) (hc0 : c0 ≤ maxLen) (hx1 : I64 x1) : Calls Try.prog 14 #[.slice A0 n0 c0, .int .i64 x1] w fun e w' => e = .returned (.bool true) ∧ Below w.heap.size w w' := by
  have hlen := markV_length rs0 x1
  have Hlen := True.intro
  have Hm0 := hc0
  unfold maxLen at Hm0
  go_enter Try.func14, Try.ntmps14
  by_cases hs0 : (n0 : Int) ≤ 1048576
  case' neg =>
    go_wp2_with fail
    refine (szRectS_no A0 n0 c0 (1048576) w (by omega) (by omega) (Nat.le_trans hn0 hc0)).mono ?_
    rintro e w1 ⟨rfl, rfl⟩
    go_wp2
    go_ret
    exact ⟨rfl, Below.refl _ _⟩
  go_wp2_with fail
  refine (szRectS_yes A0 n0 c0 (1048576) w (by omega) (by omega)).mono ?_
  rintro e w1 ⟨rfl, rfl⟩
  have t0 := Below.refl w.heap.size w
  have hA0 := ha0
  clear ha0
  have hz0 := hA0.len
  go_wp2_with fail
  refine (toRectS_any A0 n0 c0 rs0 w (hA0.on t0) (by omega)).mono ?_
  rintro e w_1 ⟨u_p0, rfl, r_p0, b_1⟩
  have lo_p0 := fun g h => (r_p0.lt g h).1
  have hi_p0 := fun g h => (r_p0.lt g h).2
  replace r_p0 := r_p0.less (Nat.zero_le _)
  have s_1 := b_1.size
  replace t0 := t0.trans (b_1.mono t0.size)
  go_wp2_with fail
  refine (markw_spec u_p0 rs0 x1 w_1 r_p0).mono ?_
  rintro e w_2 ⟨u_w0, rfl, r_w0, b_2⟩
  have lo_w0 := fun g h => (r_w0.lt g h).1
  have hi_w0 := fun g h => (r_w0.lt g h).2
  replace r_w0 := r_w0.less (Nat.zero_le _)
  replace r_p0 := r_p0.on b_2
  have s_2 := b_2.size
  replace t0 := t0.trans (b_2.mono t0.size)
  clear r_p0 lo_p0 hi_p0
  go_wp2_with fail
  refine (toRectS_any A0 n0 c0 rs0 w_2 (hA0.on t0) (by omega)).mono ?_
  rintro e w_3 ⟨u_x0, rfl, r_x0, b_3⟩
  have lo_x0 := fun g h => (r_x0.lt g h).1
  have hi_x0 := fun g h => (r_x0.lt g h).2
  replace r_x0 := r_x0.less (Nat.zero_le _)
  replace r_w0 := r_w0.on b_3
  have s_3 := b_3.size
  replace t0 := t0.trans (b_3.mono t0.size)
  go_wp2_with fail
  refine (markw_impl u_x0 rs0 x1 w_3 r_x0).mono ?_
  rintro e w_4 ⟨u_g0, rfl, r_g0, b_4⟩
  have lo_g0 := fun g h => (r_g0.lt g h).1
  have hi_g0 := fun g h => (r_g0.lt g h).2
  replace r_g0 := r_g0.less (Nat.zero_le _)
  replace r_w0 := r_w0.on b_4
  replace r_x0 := r_x0.on b_4
  have s_4 := b_4.size
  replace t0 := t0.trans (b_4.mono t0.size)
  go_wp2_with fail
  refine (eqRectS_same u_g0 u_w0 (markV rs0 x1) w_4 r_g0 r_w0).mono ?_
  rintro e w_5 ⟨rfl, b_5⟩
  replace r_w0 := r_w0.on b_5
  replace r_x0 := r_x0.on b_5
  replace r_g0 := r_g0.on b_5
  have s_5 := b_5.size
  replace t0 := t0.trans (b_5.mono t0.size)
  go_wp2_with fail
  refine (toRectS_any A0 n0 c0 rs0 w_5 (hA0.on t0) (by omega)).mono ?_
  rintro e w_6 ⟨u_y0, rfl, r_y0, b_6⟩
  have lo_y0 := fun g h => (r_y0.lt g h).1
  have hi_y0 := fun g h => (r_y0.lt g h).2
  replace r_y0 := r_y0.less (Nat.zero_le _)
  replace r_w0 := r_w0.on b_6
  replace r_x0 := r_x0.on b_6
  replace r_g0 := r_g0.on b_6
  have s_6 := b_6.size
  replace t0 := t0.trans (b_6.mono t0.size)
  go_wp2_with fail
  refine (eqRectS_same u_x0 u_y0 rs0 w_6 r_x0 r_y0).mono ?_
  rintro e w_7 ⟨rfl, b_7⟩
  replace r_w0 := r_w0.on b_7
  replace r_x0 := r_x0.on b_7
  replace r_g0 := r_g0.on b_7
  replace r_y0 := r_y0.on b_7
  have s_7 := b_7.size
  replace t0 := t0.trans (b_7.mono t0.size)
  clear r_y0 lo_y0 hi_y0
  go_wp2_with fail
  refine (markRectS_any u_x0 rs0 w_7 0 r_x0 (1) (by omega) (by omega) (by omega)).mono ?_
  rintro e w_8 ⟨rfl, m_x0, g_8⟩
  replace r_w0 := RL.far (N := w_2.heap.size) r_w0 (fun g h => by have := hi_w0 g h; omega) g_8 lo_x0
  replace r_g0 := RL.near (N := w_3.heap.size) r_g0 (fun g h => by have := lo_g0 g h; omega) g_8 hi_x0
  have b_8 : Below w.heap.size w_7 w_8 := (Below.refl w.heap.size w_7).grown g_8 (by omega) (fun g h => by have := lo_x0 g h; omega)
  have s_8 := b_8.size
  replace t0 := t0.trans b_8
  go_wp2_with fail
  refine (eqRectS_same u_g0 u_w0 (markV rs0 x1) w_8 r_g0 r_w0).mono ?_
  rintro e w_9 ⟨rfl, b_9⟩
  replace r_w0 := r_w0.on b_9
  replace r_g0 := r_g0.on b_9
  have s_9 := b_9.size
  replace t0 := t0.trans (b_9.mono t0.size)
  go_wp2_with fail
  refine (markRectS_any u_g0 (markV rs0 x1) w_9 0 r_g0 (1) (by omega) (by omega) (by omega)).mono ?_
  rintro e w_10 ⟨rfl, m_g0, g_10⟩
  replace r_w0 := RL.far (N := w_3.heap.size) r_w0 (fun g h => by have := hi_w0 g h; omega) g_10 lo_g0
  have b_10 : Below w.heap.size w_9 w_10 := (Below.refl w.heap.size w_9).grown g_10 (by omega) (fun g h => by have := lo_g0 g h; omega)
  have s_10 := b_10.size
  replace t0 := t0.trans b_10
  go_wp2_with fail
  refine (heldRectS_any u_g0 (markV rs0 x1).length w_10 (1) m_g0 (by omega) (by omega) (by omega)).mono ?_
  rintro e _ ⟨rfl, rfl⟩
  go_wp2_with fail
  refine (toRectS_any A0 n0 c0 rs0 w_10 (hA0.on t0) (by omega)).mono ?_
  rintro e w_11 ⟨u_z0, rfl, r_z0, b_11⟩
  have lo_z0 := fun g h => (r_z0.lt g h).1
  have hi_z0 := fun g h => (r_z0.lt g h).2
  replace r_z0 := r_z0.less (Nat.zero_le _)
  replace r_w0 := r_w0.on b_11
  replace m_g0 := m_g0.on b_11
  have s_11 := b_11.size
  replace t0 := t0.trans (b_11.mono t0.size)
  go_wp2_with fail
  refine (markw_impl u_z0 rs0 x1 w_11 r_z0).mono ?_
  rintro e w_12 ⟨u_h0, rfl, r_h0, b_12⟩
  have lo_h0 := fun g h => (r_h0.lt g h).1
  have hi_h0 := fun g h => (r_h0.lt g h).2
  replace r_h0 := r_h0.less (Nat.zero_le _)
  replace r_w0 := r_w0.on b_12
  replace r_z0 := r_z0.on b_12
  replace m_g0 := m_g0.on b_12
  have s_12 := b_12.size
  replace t0 := t0.trans (b_12.mono t0.size)
  clear r_z0 lo_z0 hi_z0
  go_wp2_with fail
  refine (eqRectS_same u_h0 u_w0 (markV rs0 x1) w_12 r_h0 r_w0).mono ?_
  rintro e w_13 ⟨rfl, b_13⟩
  replace r_w0 := r_w0.on b_13
  replace r_h0 := r_h0.on b_13
  replace m_g0 := m_g0.on b_13
  have s_13 := b_13.size
  replace t0 := t0.trans (b_13.mono t0.size)
  go_wp2_with fail
  refine (heldRectS_any u_g0 (markV rs0 x1).length w_13 (1) m_g0 (by omega) (by omega) (by omega)).mono ?_
  rintro e _ ⟨rfl, rfl⟩
  go_wp2
  go_ret
  exact ⟨rfl, t0⟩

end Go.Proofs.Ytcdfbfnnlfgkfaa
