/- FnExactIsClean returns true for all arguments. No conditions. -/
import Derived.Test.YtbljapihmkmolaaGreatLawKit
import Derived.Test.YtbljapihmkmolaaGreatClean
import Derived.Test.YtbljapihmkmolaaGreatLay
import Derived.Deep.RegionHeld3
namespace Go.Proofs.YtbljapihmkmolaaGreat
open Go.RowKit

set_option linter.unusedVariables false
set_option maxHeartbeats 3200000 in
set_option maxRecDepth 100000 in
theorem lawIsClean (A0 : Option Addr) (n0 c0 : Nat) (rss : List (List Rc)) (A1 : Option Addr) (n1 c1 : Nat) (qs : List Ru) (w : World) (ha0 : ArgL w A0 n0 rss) (hn0 : n0 ≤ c0) (hc0 : c0 ≤ maxLen) (ha1 : ArgQ w A1 n1 qs) (hn1 : n1 ≤ c1) (hc1 : c1 ≤ maxLen) : Calls Tryz.prog 4 #[.slice A0 n0 c0, .agg #[.slice A1 n1 c1]] w fun e w' => e = .returned (.bool true) ∧ Below w.heap.size w w' := by
  obtain rfl := ha1.len
  have Hm0 := hc0
  have Hm1 := hc1
  unfold maxLen at Hm0 Hm1
  have hb0 := (Below.refl w.heap.size w).alloc (Nat.le_refl _) (.cells #[.slice A1 qs.length c1] 39)
  have z0 := Bk.new w 39 #[.slice A1 qs.length c1]
  have hA := Lib.hid (ha0.on hb0)
  have hQ := Lib.hid (ha1.on hb0)
  clear ha0 ha1
  by_cases hs0 : ((n0 + sizeL rss : Nat) : Int) ≤ 1048576
  case' neg =>
    go_enter Tryz.func4, Tryz.ntmps4
    go_wp2_with fail
    refine (szRss_no A0 n0 c0 rss 1048576 _ hA.out (by omega) (by omega) (by omega) (Nat.le_trans hn0 hc0)).mono ?_
    rintro e w1 ⟨rfl, hb1⟩
    go_wp2
    go_ret
    exact ⟨rfl, hb0.trans (hb1.mono hb0.size)⟩
  have hle : (1048576 : Int) - n0 - (sizeL rss : Nat) ≤ 1048576 := by omega
  have hge : (0 : Int) ≤ (1048576 : Int) - n0 - (sizeL rss : Nat) := by omega
  by_cases hs1 : (qs.length : Int) ≤ 1048576 - n0 - (sizeL rss : Nat)
  case' neg =>
    go_enter Tryz.func4, Tryz.ntmps4
    go_wp2_with fail
    refine (szRss_yes A0 n0 c0 rss 1048576 _ hA.out (by omega) (by omega)).mono ?_
    rintro e w1 ⟨rfl, hb1⟩
    have z1 := z0.on hb1
    have b1 := hb0.trans (hb1.mono hb0.size)
    have d0 := box1 z1
    clear z0 hb0 hb1
    generalize (1048576 : Int) - n0 - (sizeL rss : Nat) = m at *
    go_wp2_with fail
    refine (szDeck_no A1 qs.length c1 m _ (by omega) (by omega) (Nat.le_trans hn1 hc1)).mono ?_
    rintro e w2 ⟨rfl, hb2⟩
    clear d0
    go_wp2
    go_ret
    exact ⟨rfl, b1.trans (hb2.mono b1.size)⟩
  have hl0 : n0 + sizeL rss ≤ 1048576 := by omega
  have hn : qs.length ≤ 1048576 := by omega
  have hq9 : qs.length ≤ 1000000000 := by omega
  have hfin : ¬ ((1048576 : Int) - n0 - (sizeL rss : Nat) - (qs.length : Int) < 0) := by omega
  have hmid : ¬ ((1048576 : Int) - n0 - (sizeL rss : Nat) < 0) := by omega
  go_enter Tryz.func4, Tryz.ntmps4
  go_wp2_with fail
  refine (szRss_yes A0 n0 c0 rss 1048576 _ hA.out (by omega) (by omega)).mono ?_
  rintro e w1 ⟨rfl, hb1⟩
  replace z0 := z0.on hb1
  replace hA := Lib.hid (hA.out.on hb1)
  replace hQ := Lib.hid (hQ.out.on hb1)
  replace hb0 := hb0.trans (hb1.mono hb0.size)
  clear hb1
  have d0 := box1 z0
  generalize (1048576 : Int) - n0 - (sizeL rss : Nat) = m at *
  go_wp2_with fail
  refine (szDeck_yes A1 qs.length c1 m _ (by omega) (by omega)).mono ?_
  rintro e w2 ⟨rfl, hb2⟩
  clear d0
  replace z0 := z0.on hb2
  replace hA := Lib.hid (hA.out.on hb2)
  replace hQ := Lib.hid (hQ.out.on hb2)
  replace hb0 := hb0.trans (hb2.mono hb0.size)
  clear hb2 hs0 hs1 hle hge hn0 hn1 hc0 hc1 Hm0 Hm1
  have d0 := box1 z0
  go_upto_region 8 with fail
  go_cut [6] from 20 to 44 (fun sv wx => sv = .bool (cleanB rss qs) ∧ Below w2.heap.size w2 wx)
  case first =>
    have tc := (Below.refl w2.heap.size w2).drew
    have zz := z0.drew
    have aa := Lib.hid (hA.out.on tc)
    have kk := Lib.hid (hQ.out.on tc)
    clear d0 z0 hA hQ hb0
    go_region_held3 (fun w' => w'.cell? ⟨w.heap.size, 0, none⟩ = some (.slice A1 qs.length c1)) (exact box1 zz)
      (first | (go_at_call 11; refine (toRss_any A0 n0 c0 rss _ aa.out hl0).mono ?_; rintro e wp ⟨up, usp, rfl, qp, app, bp⟩; have tc := tc.trans (bp.mono tc.size); have zz := zz.on bp; have aa := Lib.hid (aa.out.on bp); have kk := Lib.hid (kk.out.on bp); have pp := qp.less (Nat.zero_le _); (try have qq := QL.on qq bp))
             | (go_at_call 21; refine (toDeck_any A1 qs.length c1 qs _ kk.out hn).mono ?_; rintro e wq ⟨uq, rfl, qq0, bq⟩; have tc := tc.trans (bq.mono tc.size); have zz := zz.on bq; have aa := Lib.hid (aa.out.on bq); have kk := Lib.hid (kk.out.on bq); have qq := qq0.less (Nat.zero_le _); (try have pp := LW.on pp bq))
             | (go_at_call 20; refine (clean_spec up uq rss qs _ pp.rll qq).mono ?_; rintro e ws ⟨rfl, bv⟩; have tc := tc.trans (bv.mono tc.size); have zz := zz.on bv))
    all_goals
      go_wp2_with fail
      go_meet
      exact ⟨rfl, tc⟩
  obtain ⟨rfl, b_1⟩ := hcut
  obtain ⟨w3, rfl⟩ : ∃ W : World, W = wc := ⟨_, rfl⟩
  clear d0
  replace z0 := z0.on b_1
  replace hA := Lib.hid (hA.out.on b_1)
  replace hQ := Lib.hid (hQ.out.on b_1)
  replace hb0 := hb0.trans (b_1.mono hb0.size)
  clear b_1
  go_wp2_with fail
  refine (toRss_any A0 n0 c0 rss _ hA.out hl0).mono ?_
  rintro e w4 ⟨ux, usx, rfl, qx, -, hb4⟩
  have rx := Lib.hid (qx.less (Nat.zero_le _))
  clear qx
  replace z0 := z0.on hb4
  replace hA := Lib.hid (hA.out.on hb4)
  replace hQ := Lib.hid (hQ.out.on hb4)
  replace hb0 := hb0.trans (hb4.mono hb0.size)
  clear hb4
  have d0 := box1 z0
  go_wp2_with fail
  refine (toDeck_any A1 qs.length c1 qs _ hQ.out hn).mono ?_
  rintro e w5 ⟨uy, rfl, qy, hb5⟩
  have ry := qy.less (Nat.zero_le _)
  obtain ⟨A5, c5, rfl, -, -⟩ := ry.form
  clear d0 qy
  replace z0 := z0.on hb5
  replace rx := Lib.hid (rx.out.on hb5)
  replace hA := Lib.hid (hA.out.on hb5)
  replace hQ := Lib.hid (hQ.out.on hb5)
  replace hb0 := hb0.trans (hb5.mono hb0.size)
  clear hb5
  have X0 := Lib.hid (Bk.new w5 44 #[.slice A5 qs.length c5])
  have Z0 := Lib.hid (z0.alloc (.cells #[.slice A5 qs.length c5] 44))
  have B1 := (Below.refl w5.heap.size w5).alloc (Nat.le_refl _) (.cells #[.slice A5 qs.length c5] 44)
  replace hA := Lib.hid (hA.out.on B1)
  replace hQ := Lib.hid (hQ.out.on B1)
  replace rx := Lib.hid (rx.out.on B1)
  have RY := Lib.hid (ry.on B1)
  have B0 := Lib.hid (hb0.alloc hb0.size (.cells #[.slice A5 qs.length c5] 44))
  clear z0 hb0 ry B1
  go_wp2_with fail
  refine (clean_impl ux _ rss qs _ rx.out.rll RY.out hq9).mono ?_
  rintro e w6 ⟨rfl, hb6⟩
  have z0 := Z0.out.on hb6
  have x0 := X0.out.on hb6
  replace hA := Lib.hid (hA.out.on hb6)
  replace hQ := Lib.hid (hQ.out.on hb6)
  replace rx := Lib.hid (rx.out.on hb6)
  have ry := Lib.hid (RY.out.on hb6)
  have hb0 := B0.out.trans (hb6.mono B0.out.size)
  clear Z0 X0 RY B0 hb6
  have hbb : (cleanB rss qs != cleanB rss qs) = false := by simp
  generalize cleanB rss qs = b at *
  go_wp2_with fail
  refine (toRss_any A0 n0 c0 rss _ hA.out hl0).mono ?_
  rintro e w7 ⟨uv, usv, rfl, qv, -, hb7⟩
  have rv := Lib.hid (qv.less (Nat.zero_le _))
  clear qv
  replace z0 := z0.on hb7
  replace x0 := x0.on hb7
  replace hA := Lib.hid (hA.out.on hb7)
  replace hQ := Lib.hid (hQ.out.on hb7)
  replace rx := Lib.hid (rx.out.on hb7)
  replace ry := Lib.hid (ry.out.on hb7)
  replace hb0 := hb0.trans (hb7.mono hb0.size)
  clear hb7
  go_wp2_with fail
  refine (eqRss_same ux uv usx usv rss _ rx.out rv.out).mono ?_
  rintro e w8 ⟨rfl, hb8⟩
  replace z0 := z0.on hb8
  replace x0 := x0.on hb8
  replace hQ := Lib.hid (hQ.out.on hb8)
  replace ry := Lib.hid (ry.out.on hb8)
  replace hb0 := hb0.trans (hb8.mono hb0.size)
  clear hb8 rx rv hA
  have f0 := box1 x0
  have d0 := box1 z0
  have tc := hb0.drew
  have zz := z0.drew
  have xx := x0.drew
  have uu := QL.on ry.out ((Below.refl w8.heap.size w8).drew)
  have kk := Lib.hid (hQ.out.on ((Below.refl w8.heap.size w8).drew))
  go_wp2
  go_region_held3 (fun w' => w'.cell? ⟨w5.heap.size, 0, none⟩ = some (.slice A5 qs.length c5) ∧ w'.cell? ⟨w.heap.size, 0, none⟩ = some (.slice A1 qs.length c1)) (exact ⟨box1 xx, box1 zz⟩)
    (first | (go_at_call 21; refine (toDeck_any A1 qs.length c1 qs _ kk.out hn).mono ?_; rintro e w9 ⟨u9, rfl, hU9, hb9⟩; have tc := tc.trans (hb9.mono tc.size); have zz := zz.on hb9; have xx := xx.on hb9; have uu := QL.on uu hb9; have vv := hU9.less (Nat.zero_le _))
           | (go_at_call 23; refine (eqDeck_same _ _ qs _ uu vv).mono ?_; rintro e w10 ⟨rfl, hb10⟩; have tc := tc.trans (hb10.mono tc.size); have zz := zz.on hb10; have xx := xx.on hb10))
  go_wp2
  go_ret
  exact ⟨rfl, tc⟩

end Go.Proofs.YtbljapihmkmolaaGreat
