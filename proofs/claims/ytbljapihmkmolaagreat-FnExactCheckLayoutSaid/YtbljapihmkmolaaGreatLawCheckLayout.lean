/- FnExactCheckLayout returns true for all arguments. No conditions. -/
import Derived.Test.YtbljapihmkmolaaGreatLawKit
import Derived.Test.YtbljapihmkmolaaGreatCheck
import Derived.Test.YtbljapihmkmolaaGreatLay
import Derived.Test.YtbljapihmkmolaaGreatVOps
import Derived.Deep.RegionHeld3
namespace Go.Proofs.YtbljapihmkmolaaGreat
open Go.RowKit

theorem Bk.mid {w w' : World} {lo hi g : Nat} {t : TypeId} {cs : Array Value} (h : Bk w g t cs) (hm : Mid lo hi w w') (hg : g < lo ∨ hi ≤ g) : Bk w' g t cs := (hm.block g h.lt hg).trans h
set_option linter.unusedVariables false
set_option maxHeartbeats 3200000 in
set_option maxRecDepth 100000 in
theorem lawCheckLayout (A0 : Option Addr) (n0 c0 : Nat) (rss : List (List Rc)) (A1 : Option Addr) (n1 c1 : Nat) (qs : List Ru) (w : World) (ha0 : ArgL w A0 n0 rss) (hn0 : n0 ≤ c0) (hc0 : c0 ≤ maxLen) (ha1 : ArgQ w A1 n1 qs) (hn1 : n1 ≤ c1) (hc1 : c1 ≤ maxLen) : Calls Tryz.prog 5 #[.slice A0 n0 c0, .agg #[.slice A1 n1 c1]] w fun e w' => e = .returned (.bool true) ∧ Below w.heap.size w w' := by
  obtain rfl := ha1.len
  have Hm0 := hc0
  have Hm1 := hc1
  unfold maxLen at Hm0 Hm1
  have hb0 := (Below.refl w.heap.size w).alloc (Nat.le_refl _) (.cells #[.slice A1 qs.length c1] 39)
  have z0 := Bk.new w 39 #[.slice A1 qs.length c1]
  have HA0 := Lib.hid ha0
  have HQ0 := Lib.hid ha1
  have hA := Lib.hid (ha0.on hb0)
  have hQ := Lib.hid (ha1.on hb0)
  clear ha0 ha1
  by_cases hs0 : ((n0 + sizeL rss : Nat) : Int) ≤ 1048576
  case' neg =>
    go_enter Tryz.func5, Tryz.ntmps5
    go_wp2_with fail
    refine (szRss_no A0 n0 c0 rss 1048576 _ hA.out (by omega) (by omega) (by omega) (Nat.le_trans hn0 hc0)).mono ?_
    rintro e w1 ⟨rfl, hb1⟩
    go_wp2
    go_ret
    exact ⟨rfl, hb0.trans (hb1.mono hb0.size)⟩
  have hle : (1048576 : Int) - n0 - (sizeL rss : Nat) ≤ 1048576 := by omega
  have hge : (0 : Int) ≤ (1048576 : Int) - n0 - (sizeL rss : Nat) := by omega
  by_cases hs1 : (qs.length : Int) ≤ 1048576 - n0 - (sizeL rss : Nat)
  case' neg =>
    go_enter Tryz.func5, Tryz.ntmps5
    go_wp2_with fail
    refine (szRss_yes A0 n0 c0 rss 1048576 _ hA.out (by omega) (by omega)).mono ?_
    rintro e w1 ⟨rfl, hb1⟩
    have z1 := z0.on hb1
    have b1 := hb0.trans (hb1.mono hb0.size)
    have d0 := box1 z1
    clear z0 hb0 hb1
    generalize (1048576 : Int) - n0 - (sizeL rss : Nat) = m at *
    go_wp2_with fail
    refine (szDeck_no A1 qs.length c1 m _ (by omega) (by omega) (Nat.le_trans hn1 hc1)).mono ?_
    rintro e w2 ⟨rfl, hb2⟩
    clear d0
    go_wp2
    go_ret
    exact ⟨rfl, b1.trans (hb2.mono b1.size)⟩
  have hl0 : n0 + sizeL rss ≤ 1048576 := by omega
  have hn : qs.length ≤ 1048576 := by omega
  have hq9 : qs.length ≤ 1000000000 := by omega
  have hfin : ¬ ((1048576 : Int) - n0 - (sizeL rss : Nat) - (qs.length : Int) < 0) := by omega
  have hmid : ¬ ((1048576 : Int) - n0 - (sizeL rss : Nat) < 0) := by omega
  go_enter Tryz.func5, Tryz.ntmps5
  go_wp2_with fail
  refine (szRss_yes A0 n0 c0 rss 1048576 _ hA.out (by omega) (by omega)).mono ?_
  rintro e w1 ⟨rfl, hb1⟩
  replace z0 := z0.on hb1
  replace hA := Lib.hid (hA.out.on hb1)
  replace hQ := Lib.hid (hQ.out.on hb1)
  replace hb0 := hb0.trans (hb1.mono hb0.size)
  clear hb1
  have d0 := box1 z0
  generalize (1048576 : Int) - n0 - (sizeL rss : Nat) = m at *
  go_wp2_with fail
  refine (szDeck_yes A1 qs.length c1 m _ (by omega) (by omega)).mono ?_
  rintro e w2 ⟨rfl, hb2⟩
  clear d0
  replace z0 := z0.on hb2
  replace hA := Lib.hid (hA.out.on hb2)
  replace hQ := Lib.hid (hQ.out.on hb2)
  replace hb0 := hb0.trans (hb2.mono hb0.size)
  clear hb2 hs0 hs1 hle hge hn0 hn1 hc0 hc1 Hm0 Hm1
  have d0 := box1 z0
  have z9 := Lib.hid z0
  have t0 := Lib.hid hb0
  have tz := Lib.hid hb0.size
  have tz2 := Lib.hid (show w.heap.size + 1 ≤ w2.heap.size from z0.lt)
  have hsize := chkL_size rss qs
  clear z0 hb0
  go_upto_region 8 with fail
  go_cut [6, 7] from 27 to 118 (fun sv tv wx => ∃ u us', u = sv ∧ tv = .int .i64 (chkC rss qs) ∧ XW wx w2.heap.size u us' (chkL rss qs) ∧ Apart us' ∧ Below w2.heap.size w2 wx)
  case first =>
    have tc := (Below.refl w2.heap.size w2).drew
    have zz := z9.out.drew
    have aa := Lib.hid (hA.out.on tc)
    have kk := Lib.hid (hQ.out.on tc)
    clear d0 z9 hA hQ t0 tz tz2 hsize
    go_region_held3 (fun w' => w'.cell? ⟨w.heap.size, 0, none⟩ = some (.slice A1 qs.length c1)) (exact box1 zz)
      (first | (go_at_call 11; refine (toRss_any A0 n0 c0 rss _ aa.out hl0).mono ?_; rintro e wp ⟨up, usp, rfl, qp, app, bp⟩; have tc := tc.trans (bp.mono tc.size); have zz := zz.on bp; have aa := Lib.hid (aa.out.on bp); have kk := Lib.hid (kk.out.on bp); have pp := qp.less (Nat.zero_le _); (try have qq := QL.on qq bp))
             | (go_at_call 21; refine (toDeck_any A1 qs.length c1 qs _ kk.out hn).mono ?_; rintro e wq ⟨uq, rfl, qq0, bq⟩; have tc := tc.trans (bq.mono tc.size); have zz := zz.on bq; have aa := Lib.hid (aa.out.on bq); have kk := Lib.hid (kk.out.on bq); have qq := qq0.less (Nat.zero_le _); (try have pp := LW.on pp bq))
             | (go_at_call 24; refine (check_spec up uq rss qs _ pp.rll qq).mono ?_; rintro e ws ⟨uv, uvs, rfl, qv, qap, bv⟩; have qv2 := qv.less tc.size; have tc := tc.trans (bv.mono tc.size); have zz := zz.on bv))
    all_goals
      go_wp2_with fail
      go_meet
      exact ⟨_, _, rfl, rfl, qv2, qap, tc⟩
  obtain ⟨u_w0, us_w0, rfl, rfl, q_w0, ap_w0, b_w3⟩ := hcut
  obtain ⟨w3, rfl⟩ : ∃ W : World, W = wc := ⟨_, rfl⟩
  clear d0
  have in_w0 := Lib.hid q_w0.inside
  have r_w0 := Lib.hid (q_w0.less (Nat.zero_le _))
  clear q_w0 ap_w0
  replace z9 := Lib.hid (z9.out.on b_w3)
  replace hA := Lib.hid (hA.out.on b_w3)
  replace hQ := Lib.hid (hQ.out.on b_w3)
  have s_w3 := Lib.hid b_w3.size
  replace t0 := Lib.hid (t0.out.trans (b_w3.mono t0.out.size))
  clear b_w3
  go_wp2_with fail
  refine (toRss_any A0 n0 c0 rss _ hA.out hl0).mono ?_
  rintro e w4 ⟨u_x0, us_x0, rfl, q_x0, ap_x0, b_w4⟩
  have ap_x0 := Lib.hid ap_x0
  have in_x0 := Lib.hid q_x0.inside
  have r_x0 := Lib.hid (q_x0.less (Nat.zero_le _))
  clear q_x0
  replace z9 := Lib.hid (z9.out.on b_w4)
  replace hA := Lib.hid (hA.out.on b_w4)
  replace hQ := Lib.hid (hQ.out.on b_w4)
  replace r_w0 := Lib.hid (r_w0.out.on b_w4)
  have s_w4 := Lib.hid b_w4.size
  replace t0 := Lib.hid (t0.out.trans (b_w4.mono t0.out.size))
  clear b_w4
  have d0 := box1 z9.out
  go_wp2_with fail
  refine (toDeck_any A1 qs.length c1 qs _ hQ.out hn).mono ?_
  rintro e w5 ⟨uy, rfl, qy, b_w5⟩
  have lo_y := Lib.hid (fun g h => (qy.lt g h).1)
  have hi_y := Lib.hid (fun g h => (qy.lt g h).2)
  have r_y := Lib.hid (qy.less (Nat.zero_le _))
  obtain ⟨A5, c5, rfl, -, -⟩ := r_y.out.form
  clear d0 qy
  replace z9 := Lib.hid (z9.out.on b_w5)
  replace hA := Lib.hid (hA.out.on b_w5)
  replace hQ := Lib.hid (hQ.out.on b_w5)
  replace r_w0 := Lib.hid (r_w0.out.on b_w5)
  replace r_x0 := Lib.hid (r_x0.out.on b_w5)
  have s_w5 := Lib.hid b_w5.size
  replace t0 := Lib.hid (t0.out.trans (b_w5.mono t0.out.size))
  clear b_w5
  have x9 := Lib.hid (Bk.new w5 44 #[.slice A5 qs.length c5])
  have b_6 := (Below.refl w5.heap.size w5).alloc (Nat.le_refl _) (.cells #[.slice A5 qs.length c5] 44)
  have s_w6 := Lib.hid (show (w5.alloc (.cells #[.slice A5 qs.length c5] 44)).heap.size = w5.heap.size + 1 by simp)
  replace z9 := Lib.hid (z9.out.on b_6)
  replace hA := Lib.hid (hA.out.on b_6)
  replace hQ := Lib.hid (hQ.out.on b_6)
  replace r_w0 := Lib.hid (r_w0.out.on b_6)
  replace r_x0 := Lib.hid (r_x0.out.on b_6)
  replace r_y := Lib.hid (r_y.out.on b_6)
  replace t0 := Lib.hid (t0.out.trans (b_6.mono t0.out.size))
  clear b_6
  go_wp2_with fail
  refine (check_impl u_x0 _ rss qs _ r_x0.out.rll r_y.out hq9).mono ?_
  rintro e w7 ⟨u_g0, us_g0, rfl, q_g0, ap_g0, b_w7⟩
  have ap_g0 := Lib.hid ap_g0
  have in_g0 := Lib.hid q_g0.inside
  have r_g0 := Lib.hid (q_g0.less (Nat.zero_le _))
  clear q_g0
  replace z9 := Lib.hid (z9.out.on b_w7)
  replace hA := Lib.hid (hA.out.on b_w7)
  replace hQ := Lib.hid (hQ.out.on b_w7)
  replace r_w0 := Lib.hid (r_w0.out.on b_w7)
  replace r_x0 := Lib.hid (r_x0.out.on b_w7)
  replace r_y := Lib.hid (r_y.out.on b_w7)
  replace x9 := Lib.hid (x9.out.on b_w7)
  have s_w7 := Lib.hid b_w7.size
  replace t0 := Lib.hid (t0.out.trans (b_w7.mono t0.out.size))
  clear b_w7
  go_wp2_with fail
  refine (eqVios_same u_g0 u_w0 us_g0 us_w0 (chkL rss qs) _ r_g0.out r_w0.out).mono ?_
  rintro e w8 ⟨rfl, b_w8⟩
  replace z9 := Lib.hid (z9.out.on b_w8)
  replace hA := Lib.hid (hA.out.on b_w8)
  replace hQ := Lib.hid (hQ.out.on b_w8)
  replace r_w0 := Lib.hid (r_w0.out.on b_w8)
  replace r_x0 := Lib.hid (r_x0.out.on b_w8)
  replace r_y := Lib.hid (r_y.out.on b_w8)
  replace x9 := Lib.hid (x9.out.on b_w8)
  replace r_g0 := Lib.hid (r_g0.out.on b_w8)
  have s_w8 := Lib.hid b_w8.size
  replace t0 := Lib.hid (t0.out.trans (b_w8.mono t0.out.size))
  clear b_w8
  go_wp2_with fail
  refine (toRss_any A0 n0 c0 rss _ hA.out hl0).mono ?_
  rintro e w9 ⟨u_y0, us_y0, rfl, q_y0, ap_y0, b_w9⟩
  have ap_y0 := Lib.hid ap_y0
  have in_y0 := Lib.hid q_y0.inside
  have r_y0 := Lib.hid (q_y0.less (Nat.zero_le _))
  clear q_y0
  replace z9 := Lib.hid (z9.out.on b_w9)
  replace hA := Lib.hid (hA.out.on b_w9)
  replace hQ := Lib.hid (hQ.out.on b_w9)
  replace r_w0 := Lib.hid (r_w0.out.on b_w9)
  replace r_x0 := Lib.hid (r_x0.out.on b_w9)
  replace r_y := Lib.hid (r_y.out.on b_w9)
  replace x9 := Lib.hid (x9.out.on b_w9)
  replace r_g0 := Lib.hid (r_g0.out.on b_w9)
  have s_w9 := Lib.hid b_w9.size
  replace t0 := Lib.hid (t0.out.trans (b_w9.mono t0.out.size))
  clear b_w9
  go_wp2_with fail
  refine (eqRss_same u_x0 u_y0 us_x0 us_y0 rss _ r_x0.out r_y0.out).mono ?_
  rintro e w10 ⟨rfl, b_w10⟩
  replace z9 := Lib.hid (z9.out.on b_w10)
  replace hA := Lib.hid (hA.out.on b_w10)
  replace hQ := Lib.hid (hQ.out.on b_w10)
  replace r_w0 := Lib.hid (r_w0.out.on b_w10)
  replace r_x0 := Lib.hid (r_x0.out.on b_w10)
  replace r_y := Lib.hid (r_y.out.on b_w10)
  replace x9 := Lib.hid (x9.out.on b_w10)
  replace r_g0 := Lib.hid (r_g0.out.on b_w10)
  replace r_y0 := Lib.hid (r_y0.out.on b_w10)
  have s_w10 := Lib.hid b_w10.size
  replace t0 := Lib.hid (t0.out.trans (b_w10.mono t0.out.size))
  clear b_w10
  clear r_y0 in_y0 ap_y0
  have f0 := box1 x9.out
  have d0 := box1 z9.out
  have tc := (Below.refl w10.heap.size w10).drew
  have zz := z9.out.drew
  have xx := x9.out.drew
  have uu := QL.on r_y.out tc
  have kk := Lib.hid (hQ.out.on tc)
  go_wp2
  go_region_held3 (fun w' => w'.cell? ⟨w5.heap.size, 0, none⟩ = some (.slice A5 qs.length c5) ∧ w'.cell? ⟨w.heap.size, 0, none⟩ = some (.slice A1 qs.length c1)) (exact ⟨box1 xx, box1 zz⟩)
    (first | (go_at_call 21; refine (toDeck_any A1 qs.length c1 qs _ kk.out hn).mono ?_; rintro e wa ⟨u9, rfl, hU9, hba⟩; have tc := tc.trans (hba.mono tc.size); have zz := zz.on hba; have xx := xx.on hba; have uu := QL.on uu hba; have vv := hU9.less (Nat.zero_le _))
           | (go_at_call 23; refine (eqDeck_same _ _ qs _ uu vv).mono ?_; rintro e w12 ⟨rfl, hbb⟩; have tc := tc.trans (hbb.mono tc.size); have zz := zz.on hbb; have xx := xx.on hbb))
  clear zz xx uu kk vv f0 d0
  replace z9 := Lib.hid (z9.out.on tc)
  replace hA := Lib.hid (hA.out.on tc)
  replace hQ := Lib.hid (hQ.out.on tc)
  replace r_w0 := Lib.hid (r_w0.out.on tc)
  replace r_x0 := Lib.hid (r_x0.out.on tc)
  replace r_y := Lib.hid (r_y.out.on tc)
  replace x9 := Lib.hid (x9.out.on tc)
  replace r_g0 := Lib.hid (r_g0.out.on tc)
  have s_w12 := Lib.hid tc.size
  replace t0 := Lib.hid (t0.out.trans (tc.mono t0.out.size))
  clear tc
  have hlr : rss.length + sizeL rss ≤ 1048576 := by have := hA.out.len; omega
  go_wp2_with fail
  refine (markRss_any u_x0 us_x0 rss _ 0 r_x0.out ap_x0.out _ _ in_x0.out _ (by omega) (by omega) hlr).mono ?_
  rintro e w13 ⟨rfl, g_13⟩
  replace r_w0 := Lib.hid (XW.mid r_w0.out g_13 in_w0.out (.inl (by have q1 := s_w3.out; have q2 := s_w4.out; have q3 := s_w5.out; have q4 := s_w6.out; have q5 := tz.out; have q6 := tz2.out; omega)))
  replace r_g0 := Lib.hid (XW.mid r_g0.out g_13 in_g0.out (.inr (by have q1 := s_w3.out; have q2 := s_w4.out; have q3 := s_w5.out; have q4 := s_w6.out; have q5 := tz.out; have q6 := tz2.out; omega)))
  replace r_y := Lib.hid (g_13.own r_y.out (fun g h => .inr (by have := lo_y.out g h; have q1 := s_w3.out; have q2 := s_w4.out; have q3 := s_w5.out; have q4 := s_w6.out; have q5 := tz.out; have q6 := tz2.out; omega)))
  change Hid (QL _ _ _ _) at r_y
  replace x9 := Lib.hid (x9.out.mid g_13 (.inr (by have q1 := s_w3.out; have q2 := s_w4.out; have q3 := s_w5.out; have q4 := s_w6.out; have q5 := tz.out; have q6 := tz2.out; omega)))
  have b_w13 : Below w.heap.size w12 w13 := g_13.below (by have q1 := s_w3.out; have q2 := s_w4.out; have q3 := s_w5.out; have q4 := s_w6.out; have q5 := tz.out; have q6 := tz2.out; omega) t0.out.size
  replace z9 := Lib.hid (z9.out.below (B := w.heap.size + 1) (g_13.below (by have q1 := s_w3.out; have q2 := s_w4.out; have q3 := s_w5.out; have q4 := s_w6.out; have q5 := tz.out; have q6 := tz2.out; omega) (by have := z9.out.lt; omega)) (Nat.lt_succ_self _))
  replace t0 := Lib.hid (t0.out.trans b_w13)
  replace hA := Lib.hid (HA0.out.on t0.out)
  replace hQ := Lib.hid (HQ0.out.on t0.out)
  clear b_w13 g_13
  clear r_x0 in_x0 ap_x0
  have f0 := box1 x9.out
  go_wp2_with fail
  refine (markDeck_any _ qs _ 0 r_y.out _ (by omega) (by omega) hn).mono ?_
  rintro e w14 ⟨rfl, gg⟩
  have g_14 : Mid w4.heap.size w5.heap.size w13 w14 := (Mid.of_below ((Below.refl _ _).alloc (Nat.le_refl _) _)).trans (Mid.of_grown gg (fun g h => ⟨lo_y.out g h, hi_y.out g h⟩))
  clear gg f0
  replace r_w0 := Lib.hid (XW.mid r_w0.out g_14 in_w0.out (.inl (by have q1 := s_w3.out; have q2 := s_w4.out; have q3 := s_w5.out; have q4 := s_w6.out; have q5 := tz.out; have q6 := tz2.out; omega)))
  replace r_g0 := Lib.hid (XW.mid r_g0.out g_14 in_g0.out (.inr (by have q1 := s_w3.out; have q2 := s_w4.out; have q3 := s_w5.out; have q4 := s_w6.out; have q5 := tz.out; have q6 := tz2.out; omega)))
  have b_w14 : Below w.heap.size w13 w14 := g_14.below (by have q1 := s_w3.out; have q2 := s_w4.out; have q3 := s_w5.out; have q4 := s_w6.out; have q5 := tz.out; have q6 := tz2.out; omega) t0.out.size
  replace z9 := Lib.hid (z9.out.below (B := w.heap.size + 1) (g_14.below (by have q1 := s_w3.out; have q2 := s_w4.out; have q3 := s_w5.out; have q4 := s_w6.out; have q5 := tz.out; have q6 := tz2.out; omega) (by have := z9.out.lt; omega)) (Nat.lt_succ_self _))
  replace t0 := Lib.hid (t0.out.trans b_w14)
  replace hA := Lib.hid (HA0.out.on t0.out)
  replace hQ := Lib.hid (HQ0.out.on t0.out)
  clear b_w14 g_14
  clear r_y lo_y hi_y x9
  have hend : ¬ ((1 : Int) + 4 * (sizeL rss : Nat) + 5 * (qs.length : Nat) < 0) := by omega
  go_wp2_with fail
  refine (eqVios_same u_g0 u_w0 us_g0 us_w0 (chkL rss qs) _ r_g0.out r_w0.out).mono ?_
  rintro e w15 ⟨rfl, b_w15⟩
  replace z9 := Lib.hid (z9.out.on b_w15)
  replace hA := Lib.hid (hA.out.on b_w15)
  replace hQ := Lib.hid (hQ.out.on b_w15)
  replace r_w0 := Lib.hid (r_w0.out.on b_w15)
  replace r_g0 := Lib.hid (r_g0.out.on b_w15)
  have s_w15 := Lib.hid b_w15.size
  replace t0 := Lib.hid (t0.out.trans (b_w15.mono t0.out.size))
  clear b_w15
  clear hend
  have hsz2 : (chkL rss qs).length + sizeV (chkL rss qs) ≤ 1048576 := by omega
  go_wp2_with fail
  refine (markVios_any u_g0 us_g0 (chkL rss qs) _ 0 r_g0.out ap_g0.out _ _ in_g0.out _ (by omega) (by omega) hsz2).mono ?_
  rintro e w16 ⟨rfl, m_g0, g_16⟩
  replace r_w0 := Lib.hid (XW.mid r_w0.out g_16 in_w0.out (.inl (by have q1 := s_w3.out; have q2 := s_w4.out; have q3 := s_w5.out; have q4 := s_w6.out; have q5 := tz.out; have q6 := tz2.out; omega)))
  replace m_g0 := Lib.hid m_g0
  have b_w16 : Below w.heap.size w15 w16 := g_16.below (by have q1 := s_w3.out; have q2 := s_w4.out; have q3 := s_w5.out; have q4 := s_w6.out; have q5 := tz.out; have q6 := tz2.out; omega) t0.out.size
  replace z9 := Lib.hid (z9.out.below (B := w.heap.size + 1) (g_16.below (by have q1 := s_w3.out; have q2 := s_w4.out; have q3 := s_w5.out; have q4 := s_w6.out; have q5 := tz.out; have q6 := tz2.out; omega) (by have := z9.out.lt; omega)) (Nat.lt_succ_self _))
  replace t0 := Lib.hid (t0.out.trans b_w16)
  replace hA := Lib.hid (HA0.out.on t0.out)
  replace hQ := Lib.hid (HQ0.out.on t0.out)
  clear b_w16 g_16
  clear r_g0 in_g0 ap_g0
  have hend2 : ¬ (endV 1 (chkL rss qs) < 0) := by rw [endV_eq]; omega
  go_wp2_with fail
  refine (heldVios_any u_g0 us_g0 (chkL rss qs) _ (1) m_g0.out (by omega) (by omega) hsz2).mono ?_
  rintro e _ ⟨rfl, rfl⟩
  have d0 := box1 z9.out
  go_upto_region 31 with fail
  go_cut [15, 16] from 94 to 118 (fun sv tv wx => ∃ u us', u = sv ∧ tv = .int .i64 (chkC rss qs) ∧ XW wx w16.heap.size u us' (chkL rss qs) ∧ Apart us' ∧ Below w16.heap.size w16 wx)
  case first =>
    have tc := (Below.refl w16.heap.size w16).drew
    have zz := z9.out.drew
    have aa := Lib.hid (hA.out.on tc)
    have kk := Lib.hid (hQ.out.on tc)
    clear d0 z9 hA hQ t0 tz tz2 hsize
    go_region_held3 (fun w' => w'.cell? ⟨w.heap.size, 0, none⟩ = some (.slice A1 qs.length c1)) (exact box1 zz)
      (first | (go_at_call 11; refine (toRss_any A0 n0 c0 rss _ aa.out hl0).mono ?_; rintro e wp ⟨up, usp, rfl, qp, app, bp⟩; have tc := tc.trans (bp.mono tc.size); have zz := zz.on bp; have aa := Lib.hid (aa.out.on bp); have kk := Lib.hid (kk.out.on bp); have pp := qp.less (Nat.zero_le _); (try have qq := QL.on qq bp))
             | (go_at_call 21; refine (toDeck_any A1 qs.length c1 qs _ kk.out hn).mono ?_; rintro e wq ⟨uq, rfl, qq0, bq⟩; have tc := tc.trans (bq.mono tc.size); have zz := zz.on bq; have aa := Lib.hid (aa.out.on bq); have kk := Lib.hid (kk.out.on bq); have qq := qq0.less (Nat.zero_le _); (try have pp := LW.on pp bq))
             | (go_at_call 25; refine (check_impl up uq rss qs _ pp.rll qq hq9).mono ?_; rintro e ws ⟨uv, uvs, rfl, qv, qap, bv⟩; have qv2 := qv.less tc.size; have tc := tc.trans (bv.mono tc.size); have zz := zz.on bv))
    all_goals
      go_wp2_with fail
      go_meet
      exact ⟨_, _, rfl, rfl, qv2, qap, tc⟩
  obtain ⟨u_h0, us_h0, rfl, rfl, q_h0, ap_h0, b_w17⟩ := hcut
  obtain ⟨w17, rfl⟩ : ∃ W : World, W = wc := ⟨_, rfl⟩
  clear d0
  have in_h0 := Lib.hid q_h0.inside
  have r_h0 := Lib.hid (q_h0.less (Nat.zero_le _))
  clear q_h0 ap_h0
  replace z9 := Lib.hid (z9.out.on b_w17)
  replace hA := Lib.hid (hA.out.on b_w17)
  replace hQ := Lib.hid (hQ.out.on b_w17)
  replace r_w0 := Lib.hid (r_w0.out.on b_w17)
  replace m_g0 := Lib.hid (m_g0.out.on b_w17)
  have s_w17 := Lib.hid b_w17.size
  replace t0 := Lib.hid (t0.out.trans (b_w17.mono t0.out.size))
  clear b_w17
  go_wp2_with fail
  refine (eqVios_same u_h0 u_w0 us_h0 us_w0 (chkL rss qs) _ r_h0.out r_w0.out).mono ?_
  rintro e w18 ⟨rfl, b_w18⟩
  replace z9 := Lib.hid (z9.out.on b_w18)
  replace hA := Lib.hid (hA.out.on b_w18)
  replace hQ := Lib.hid (hQ.out.on b_w18)
  replace r_w0 := Lib.hid (r_w0.out.on b_w18)
  replace m_g0 := Lib.hid (m_g0.out.on b_w18)
  replace r_h0 := Lib.hid (r_h0.out.on b_w18)
  have s_w18 := Lib.hid b_w18.size
  replace t0 := Lib.hid (t0.out.trans (b_w18.mono t0.out.size))
  clear b_w18
  go_wp2_with fail
  refine (heldVios_any u_g0 us_g0 (chkL rss qs) _ (1) m_g0.out (by omega) (by omega) hsz2).mono ?_
  rintro e _ ⟨rfl, rfl⟩
  go_wp2
  go_ret
  exact ⟨rfl, t0.out⟩

end Go.Proofs.YtbljapihmkmolaaGreat
