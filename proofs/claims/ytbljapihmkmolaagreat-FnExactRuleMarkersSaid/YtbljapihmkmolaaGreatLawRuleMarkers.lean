/- FnExactRuleMarkers returns true for all arguments. No conditions. -/
import Derived.Test.YtbljapihmkmolaaGreatLawKit
import Derived.Test.YtbljapihmkmolaaGreatRm
import Derived.Test.YtbljapihmkmolaaGreatRuleL
import Derived.Deep.RegionHeld3
import Derived.Deep.CutRange
import Derived.Test.YtbljapihmkmolaaGreatLay
namespace Go.Proofs.YtbljapihmkmolaaGreat
open Go.RowKit

set_option linter.unusedVariables false
set_option maxHeartbeats 3200000 in
set_option maxRecDepth 100000 in
theorem lawRuleMarkers (A0 : Option Addr) (n0 c0 : Nat) (rss0 : List (List Rc)) (q1 : Ru) (w : World) (ha0 : ArgL w A0 n0 rss0) (hn0 : n0 ≤ c0) (hc0 : c0 ≤ maxLen) (hq1 : q1.in64) : Calls Tryz.prog 3 #[.slice A0 n0 c0, q1.val] w fun e w' => e = .returned (.bool true) ∧ Below w.heap.size w w' := by
  have hlen := rmV_length rss0 q1
  have Hm0 := hc0
  unfold maxLen at Hm0
  obtain ⟨qx, qy, qX, qY, qZ⟩ := q1
  unfold Ru.val
  dsimp only
  have zb := Lib.hid (Bk.new w 24 #[.int .i64 qx, .int .i64 qy, .int .i64 qX, .int .i64 qY, .int .i64 qZ])
  have hbx := (Below.refl w.heap.size w).alloc (Nat.le_refl _) (.cells #[.int .i64 qx, .int .i64 qy, .int .i64 qX, .int .i64 qY, .int .i64 qZ] 24)
  go_enter Tryz.func3, Tryz.ntmps3
  by_cases hs0 : ((n0 + sizeL rss0 : Nat) : Int) ≤ 1048576
  case' neg =>
    go_wp2_with fail
    refine (szRss_no A0 n0 c0 rss0 (1048576) _ (ha0.on hbx) (by omega) (by omega) (by omega) (Nat.le_trans hn0 hc0)).mono ?_
    rintro e w1 ⟨rfl, hbz⟩
    go_wp2
    go_ret
    exact ⟨rfl, hbx.trans (hbz.mono hbx.size)⟩
  go_wp2_with fail
  refine (szRss_yes A0 n0 c0 rss0 (1048576) _ (ha0.on hbx) (by omega) (by omega)).mono ?_
  rintro e w_0 ⟨rfl, hbz⟩
  replace zb := Lib.hid (zb.out.on hbz)
  replace hbz := hbx.trans (hbz.mono hbx.size)
  clear hbx
  have t0 := Lib.hid (hbz)
  clear hbz
  have hz0 := ha0.len
  have hA0 := Lib.hid ha0
  have hl0 : n0 + sizeL rss0 ≤ 1048576 := by omega
  clear ha0
  clear hn0 hc0
  have tz := Lib.hid t0.out.size
  have tz2 := Lib.hid (show w.heap.size + 1 ≤ w_0.heap.size from zb.out.lt)
  obtain ⟨fb0, fb1, fb2, fb3, fb4⟩ := box5 zb.out
  go_upto_region 5 with fail
  go_cut [6] from 18 to 76 (fun sv wx => ∃ u, u = sv ∧ RL wx w_0.heap.size u (rmV rss0 ⟨qx, qy, qX, qY, qZ⟩) ∧ Below w_0.heap.size w_0 wx)
  case first =>
    have tc := (Below.refl w_0.heap.size w_0).drew
    have zz := zb.out.drew
    go_region_held3 (fun w' => w'.cell? ⟨w.heap.size, 0, none⟩ = some (.int .i64 qx) ∧ w'.cell? ⟨w.heap.size, 1, none⟩ = some (.int .i64 qy) ∧ w'.cell? ⟨w.heap.size, 2, none⟩ = some (.int .i64 qX) ∧ w'.cell? ⟨w.heap.size, 3, none⟩ = some (.int .i64 qY) ∧ w'.cell? ⟨w.heap.size, 4, none⟩ = some (.int .i64 qZ)) (exact box5 zz)
      (first | (go_at_call 11; refine (toRss_any A0 n0 c0 rss0 _ (hA0.out.on (t0.out.trans (tc.mono t0.out.size))) hl0).mono ?_; rintro e wp ⟨up, usp, rfl, qp, app, bp⟩; have tc := tc.trans (bp.mono tc.size); have zz := zz.on bp; have pp := qp.less (Nat.zero_le _))
             | (go_at_call 12; refine (toRule_any _ _ _ _ _ _).mono ?_; rintro e wq ⟨rfl, bq⟩; have tc := tc.trans (bq.mono tc.size); have zz := zz.on bq; (try have pp := LW.on pp bq))
             | (go_at_call 10; refine (rm_spec up rss0 ⟨qx, qy, qX, qY, qZ⟩ _ pp.rll).mono ?_; rintro e ws ⟨uv, rfl, qv, bv⟩; have qv2 := qv.less tc.size; have tc := tc.trans (bv.mono tc.size); have zz := zz.on bv))
    all_goals
      go_wp2_with fail
      go_meet
      exact ⟨_, rfl, qv2, tc⟩
  obtain ⟨u_w0, rfl, q_w0, b_1⟩ := hcut
  obtain ⟨w_1, rfl⟩ : ∃ W : World, W = wc := ⟨_, rfl⟩
  clear fb0 fb1 fb2 fb3 fb4
  have lo_w0 := Lib.hid (fun g h => (q_w0.lt g h).1)
  have hi_w0 := Lib.hid (fun g h => (q_w0.lt g h).2)
  have r_w0 := Lib.hid (q_w0.less (Nat.zero_le _))
  clear q_w0
  replace zb := Lib.hid (zb.out.on b_1)
  have s_1 := Lib.hid b_1.size
  replace t0 := Lib.hid (t0.out.trans (b_1.mono t0.out.size))
  clear b_1
  go_wp2_with fail
  refine (toRss_any A0 n0 c0 rss0 _ (hA0.out.on t0.out) hl0).mono ?_
  rintro e w_2 ⟨u_x0, us_x0, rfl, q_x0, ap_x0, b_2⟩
  have ap_x0 := Lib.hid ap_x0
  have in_x0 := Lib.hid q_x0.inside
  have r_x0 := Lib.hid (q_x0.less (Nat.zero_le _))
  clear q_x0
  replace r_w0 := Lib.hid (r_w0.out.on b_2)
  replace zb := Lib.hid (zb.out.on b_2)
  have s_2 := Lib.hid b_2.size
  replace t0 := Lib.hid (t0.out.trans (b_2.mono t0.out.size))
  clear b_2
  obtain ⟨fb0, fb1, fb2, fb3, fb4⟩ := box5 zb.out
  go_wp2_with fail
  refine (toRule_any _ _ _ _ _ _).mono ?_
  rintro e w_3 ⟨rfl, b_3⟩
  replace r_w0 := Lib.hid (r_w0.out.on b_3)
  replace r_x0 := Lib.hid (r_x0.out.on b_3)
  replace zb := Lib.hid (zb.out.on b_3)
  have s_3 := Lib.hid b_3.size
  replace t0 := Lib.hid (t0.out.trans (b_3.mono t0.out.size))
  clear b_3
  clear fb0 fb1 fb2 fb3 fb4
  go_wp2_with fail
  refine (rm_impl u_x0 rss0 ⟨qx, qy, qX, qY, qZ⟩ _ r_x0.out.rll).mono ?_
  rintro e w_4 ⟨u_g0, rfl, q_g0, b_4⟩
  have lo_g0 := Lib.hid (fun g h => (q_g0.lt g h).1)
  have hi_g0 := Lib.hid (fun g h => (q_g0.lt g h).2)
  have r_g0 := Lib.hid (q_g0.less (Nat.zero_le _))
  clear q_g0
  replace r_w0 := Lib.hid (r_w0.out.on b_4)
  replace r_x0 := Lib.hid (r_x0.out.on b_4)
  replace zb := Lib.hid (zb.out.on b_4)
  have s_4 := Lib.hid b_4.size
  replace t0 := Lib.hid (t0.out.trans (b_4.mono t0.out.size))
  clear b_4
  go_wp2_with fail
  refine (eqRectS_same u_g0 u_w0 (rmV rss0 ⟨qx, qy, qX, qY, qZ⟩) _ r_g0.out r_w0.out).mono ?_
  rintro e w_5 ⟨rfl, b_5⟩
  replace r_w0 := Lib.hid (r_w0.out.on b_5)
  replace r_x0 := Lib.hid (r_x0.out.on b_5)
  replace r_g0 := Lib.hid (r_g0.out.on b_5)
  replace zb := Lib.hid (zb.out.on b_5)
  have s_5 := Lib.hid b_5.size
  replace t0 := Lib.hid (t0.out.trans (b_5.mono t0.out.size))
  clear b_5
  go_wp2_with fail
  refine (toRss_any A0 n0 c0 rss0 _ (hA0.out.on t0.out) hl0).mono ?_
  rintro e w_6 ⟨u_y0, us_y0, rfl, q_y0, ap_y0, b_6⟩
  have ap_y0 := Lib.hid ap_y0
  have in_y0 := Lib.hid q_y0.inside
  have r_y0 := Lib.hid (q_y0.less (Nat.zero_le _))
  clear q_y0
  replace r_w0 := Lib.hid (r_w0.out.on b_6)
  replace r_x0 := Lib.hid (r_x0.out.on b_6)
  replace r_g0 := Lib.hid (r_g0.out.on b_6)
  replace zb := Lib.hid (zb.out.on b_6)
  have s_6 := Lib.hid b_6.size
  replace t0 := Lib.hid (t0.out.trans (b_6.mono t0.out.size))
  clear b_6
  go_wp2_with fail
  refine (eqRss_same u_x0 u_y0 us_x0 us_y0 rss0 _ r_x0.out r_y0.out).mono ?_
  rintro e w_7 ⟨rfl, b_7⟩
  replace r_w0 := Lib.hid (r_w0.out.on b_7)
  replace r_x0 := Lib.hid (r_x0.out.on b_7)
  replace r_g0 := Lib.hid (r_g0.out.on b_7)
  replace r_y0 := Lib.hid (r_y0.out.on b_7)
  replace zb := Lib.hid (zb.out.on b_7)
  have s_7 := Lib.hid b_7.size
  replace t0 := Lib.hid (t0.out.trans (b_7.mono t0.out.size))
  clear b_7
  clear r_y0 in_y0 ap_y0
  go_wp2_with fail
  refine (markRss_any u_x0 us_x0 rss0 _ 0 r_x0.out ap_x0.out _ _ in_x0.out _ (by omega) (by omega) (by omega)).mono ?_
  rintro e w_8 ⟨rfl, g_8⟩
  replace r_w0 := Lib.hid (g_8.own r_w0.out (fun g h => .inl (by have := hi_w0.out g h; omega)))
  change Hid (RL _ _ _ _) at r_w0
  replace r_g0 := Lib.hid (g_8.own r_g0.out (fun g h => .inr (by have := lo_g0.out g h; have := s_3.out; omega)))
  change Hid (RL _ _ _ _) at r_g0
  have b_8 : Below w.heap.size w_7 w_8 := g_8.below (by have := tz.out; have := s_1.out; omega) t0.out.size
  replace zb := Lib.hid (zb.out.below (B := w.heap.size + 1) (g_8.below (by have := tz2.out; have := s_1.out; omega) (by have := zb.out.lt; omega)) (Nat.lt_succ_self _))
  have s_8 := Lib.hid g_8.size
  replace t0 := Lib.hid (t0.out.trans b_8)
  clear b_8 g_8 r_x0 in_x0 ap_x0
  have hend : ¬ ((1 : Int) + 4 * (sizeL rss0 : Nat) < 0) := by omega
  go_wp2_with fail
  refine (eqRectS_same u_g0 u_w0 (rmV rss0 ⟨qx, qy, qX, qY, qZ⟩) _ r_g0.out r_w0.out).mono ?_
  rintro e w_9 ⟨rfl, b_9⟩
  replace r_w0 := Lib.hid (r_w0.out.on b_9)
  replace r_g0 := Lib.hid (r_g0.out.on b_9)
  replace zb := Lib.hid (zb.out.on b_9)
  have s_9 := Lib.hid b_9.size
  replace t0 := Lib.hid (t0.out.trans (b_9.mono t0.out.size))
  clear b_9
  go_wp2_with fail
  refine (markRectS_any u_g0 (rmV rss0 ⟨qx, qy, qX, qY, qZ⟩) _ 0 r_g0.out _ (by omega) (by omega) (by omega)).mono ?_
  rintro e w_10 ⟨rfl, m_g0, g_10⟩
  replace r_w0 := Lib.hid (RL.far (N := w_3.heap.size) r_w0.out (fun g h => by have := hi_w0.out g h; have := s_2.out; have := s_3.out; omega) g_10 lo_g0.out)
  replace zb := Lib.hid (zb.out.grown g_10 (fun h => by have := lo_g0.out _ h.symm; have := tz2.out; have := s_1.out; have := s_2.out; have := s_3.out; omega))
  have b_10 : Below w.heap.size w_9 w_10 := (Below.refl w.heap.size w_9).grown g_10 t0.out.size (fun g h => by have := lo_g0.out g h; have := tz.out; have := s_1.out; have := s_2.out; have := s_3.out; omega)
  have s_10 := Lib.hid b_10.size
  replace t0 := Lib.hid (t0.out.trans b_10)
  clear b_10 g_10 r_g0 lo_g0 hi_g0
  replace m_g0 := Lib.hid m_g0
  go_wp2_with fail
  refine (heldRectS_any u_g0 (rmV rss0 ⟨qx, qy, qX, qY, qZ⟩).length _ (1) m_g0.out (by omega) (by omega) (by omega)).mono ?_
  rintro e _ ⟨rfl, rfl⟩
  obtain ⟨fb0, fb1, fb2, fb3, fb4⟩ := box5 zb.out
  go_upto_region 24 with fail
  go_cut [12] from 60 to 76 (fun sv wx => ∃ u, u = sv ∧ RL wx w_10.heap.size u (rmV rss0 ⟨qx, qy, qX, qY, qZ⟩) ∧ Below w_10.heap.size w_10 wx)
  case first =>
    have tc := (Below.refl w_10.heap.size w_10).drew
    have zz := zb.out.drew
    go_region_held3 (fun w' => w'.cell? ⟨w.heap.size, 0, none⟩ = some (.int .i64 qx) ∧ w'.cell? ⟨w.heap.size, 1, none⟩ = some (.int .i64 qy) ∧ w'.cell? ⟨w.heap.size, 2, none⟩ = some (.int .i64 qX) ∧ w'.cell? ⟨w.heap.size, 3, none⟩ = some (.int .i64 qY) ∧ w'.cell? ⟨w.heap.size, 4, none⟩ = some (.int .i64 qZ)) (exact box5 zz)
      (first | (go_at_call 11; refine (toRss_any A0 n0 c0 rss0 _ (hA0.out.on (t0.out.trans (tc.mono t0.out.size))) hl0).mono ?_; rintro e wp ⟨up, usp, rfl, qp, app, bp⟩; have tc := tc.trans (bp.mono tc.size); have zz := zz.on bp; have pp := qp.less (Nat.zero_le _))
             | (go_at_call 12; refine (toRule_any _ _ _ _ _ _).mono ?_; rintro e wq ⟨rfl, bq⟩; have tc := tc.trans (bq.mono tc.size); have zz := zz.on bq; (try have pp := LW.on pp bq))
             | (go_at_call 13; refine (rm_impl up rss0 ⟨qx, qy, qX, qY, qZ⟩ _ pp.rll).mono ?_; rintro e ws ⟨uv, rfl, qv, bv⟩; have qv2 := qv.less tc.size; have tc := tc.trans (bv.mono tc.size); have zz := zz.on bv))
    all_goals
      go_wp2_with fail
      go_meet
      exact ⟨_, rfl, qv2, tc⟩
  obtain ⟨u_h0, rfl, q_h0, b_11⟩ := hcut
  obtain ⟨w_11, rfl⟩ : ∃ W : World, W = wc := ⟨_, rfl⟩
  clear fb0 fb1 fb2 fb3 fb4
  have lo_h0 := Lib.hid (fun g h => (q_h0.lt g h).1)
  have hi_h0 := Lib.hid (fun g h => (q_h0.lt g h).2)
  have r_h0 := Lib.hid (q_h0.less (Nat.zero_le _))
  clear q_h0
  replace r_w0 := Lib.hid (r_w0.out.on b_11)
  replace m_g0 := Lib.hid (m_g0.out.on b_11)
  replace zb := Lib.hid (zb.out.on b_11)
  have s_11 := Lib.hid b_11.size
  replace t0 := Lib.hid (t0.out.trans (b_11.mono t0.out.size))
  clear b_11
  go_wp2_with fail
  refine (eqRectS_same u_h0 u_w0 (rmV rss0 ⟨qx, qy, qX, qY, qZ⟩) _ r_h0.out r_w0.out).mono ?_
  rintro e w_12 ⟨rfl, b_12⟩
  replace r_w0 := Lib.hid (r_w0.out.on b_12)
  replace r_h0 := Lib.hid (r_h0.out.on b_12)
  replace m_g0 := Lib.hid (m_g0.out.on b_12)
  replace zb := Lib.hid (zb.out.on b_12)
  have s_12 := Lib.hid b_12.size
  replace t0 := Lib.hid (t0.out.trans (b_12.mono t0.out.size))
  clear b_12
  go_wp2_with fail
  refine (heldRectS_any u_g0 (rmV rss0 ⟨qx, qy, qX, qY, qZ⟩).length _ (1) m_g0.out (by omega) (by omega) (by omega)).mono ?_
  rintro e _ ⟨rfl, rfl⟩
  go_wp2
  go_ret
  exact ⟨rfl, t0.out⟩

end Go.Proofs.YtbljapihmkmolaaGreat
