/- FnExactViolationBox returns true for all arguments. No conditions. -/
import Derived.Test.YtbljapihmkmolaaLawKit
import Derived.Test.YtbljapihmkmolaaBox
import Derived.Test.YtbljapihmkmolaaVio
import Derived.Deep.RegionHeld3
namespace Go.Proofs.Ytbljapihmkmolaa
open Go.RowKit

set_option linter.unusedVariables false
set_option maxHeartbeats 3200000 in
set_option maxRecDepth 100000 in
theorem lawViolationBox (k : Int) (A : Option Addr) (n c : Nat) (rs : List Rc) (w : World) (ha : ArgR w A n rs) (hn : n ≤ c) (hc : c ≤ maxLen) : Calls Try.prog 4 #[.agg #[.int .i64 k, .slice A n c]] w fun e w' => e = .returned (.bool true) ∧ Below w.heap.size w w' := by
  obtain rfl := ha.len
  have Hm := hc
  unfold maxLen at Hm
  have hb0 := (Below.refl w.heap.size w).alloc (Nat.le_refl _) (.cells #[.int .i64 k, .slice A rs.length c] 24)
  have z0 := Bk.new w 24 #[.int .i64 k, .slice A rs.length c]
  by_cases hs : (rs.length : Int) ≤ 1048576
  case' neg =>
    go_enter Try.func4, Try.ntmps4
    go_wp2_with fail
    refine (szVio_no k A rs.length c 1048576 _ (by omega) (by omega) (Nat.le_trans hn hc)).mono ?_
    rintro e w1 ⟨rfl, hb1⟩
    go_wp2
    go_ret
    exact ⟨rfl, hb0.trans (hb1.mono hb0.size)⟩
  have hA := Lib.hid (ha.on hb0)
  have hl : rs.length ≤ 1048576 := by omega
  clear ha hn hc
  go_enter Try.func4, Try.ntmps4
  go_wp2_with fail
  refine (szVio_yes k A rs.length c 1048576 _ (by omega) (by omega)).mono ?_
  rintro e w1 ⟨rfl, hb1⟩
  have hz : ¬ ((1048576 : Int) - (rs.length : Int) < 0) := by omega
  replace z0 := z0.on hb1
  obtain ⟨c0, c1⟩ := box2 z0
  replace hA := Lib.hid (hA.out.on hb1)
  replace hb0 := hb0.trans (hb1.mono hb0.size)
  clear hb1
  go_wp2_with fail
  refine (toVio_any k A rs.length c rs _ hA.out hl).mono ?_
  rintro e w2 ⟨u2, rfl, hU2, hb2⟩
  clear c0 c1
  replace z0 := z0.on hb2
  replace hA := Lib.hid (hA.out.on hb2)
  replace hb0 := hb0.trans (hb2.mono hb0.size)
  clear hb2
  go_wp2_with fail
  refine (vb_spec k u2 rs _ (hU2.less (Nat.zero_le _))).mono ?_
  rintro e w3 ⟨rfl, hb3⟩
  replace z0 := z0.on hb3
  replace hA := Lib.hid (hA.out.on hb3)
  replace hb0 := hb0.trans (hb3.mono hb0.size)
  clear hb3 hU2
  generalize hq : vbR k rs = q at *
  obtain ⟨p0, p1, p2, p3⟩ := q
  have Hq := Lib.hid hq
  clear hq
  generalize hvb : vioV k rs = bv at *
  have Hvb := Lib.hid hvb
  clear hvb
  dsimp only
  have y0 := Lib.hid (Bk.new w3 34 #[.int .i64 p0, .int .i64 p1, .int .i64 p2, .int .i64 p3])
  replace z0 := z0.alloc (.cells #[.int .i64 p0, .int .i64 p1, .int .i64 p2, .int .i64 p3] 34)
  replace hA := Lib.hid (hA.out.on ((Below.refl _ _).alloc (Nat.le_refl _) (.cells #[.int .i64 p0, .int .i64 p1, .int .i64 p2, .int .i64 p3] 34)))
  replace hb0 := hb0.alloc hb0.size (.cells #[.int .i64 p0, .int .i64 p1, .int .i64 p2, .int .i64 p3] 34)
  obtain ⟨c0, c1⟩ := box2 z0
  go_wp2_with fail
  refine (toVio_any k A rs.length c rs _ hA.out hl).mono ?_
  rintro e w4 ⟨u4, rfl, hU4, hb4⟩
  clear c0 c1
  have hU := hU4.less (Nat.zero_le _)
  replace z0 := z0.on hb4
  replace y0 := Lib.hid (y0.out.on hb4)
  replace hA := Lib.hid (hA.out.on hb4)
  replace hb0 := hb0.trans (hb4.mono hb0.size)
  clear hb4 hU4
  obtain ⟨A4, c4, rfl, -, -, -⟩ := hU.form
  have X0 := Lib.hid (Bk.new w4 29 #[.int .i64 k, .slice A4 rs.length c4])
  have Z0 := Lib.hid (z0.alloc (.cells #[.int .i64 k, .slice A4 rs.length c4] 29))
  have Y0 := Lib.hid (y0.out.alloc (.cells #[.int .i64 k, .slice A4 rs.length c4] 29))
  replace hA := Lib.hid (hA.out.on ((Below.refl _ _).alloc (Nat.le_refl _) (.cells #[.int .i64 k, .slice A4 rs.length c4] 29)))
  have B0 := Lib.hid (hb0.alloc hb0.size (.cells #[.int .i64 k, .slice A4 rs.length c4] 29))
  have HU := Lib.hid (RL.alloc hU (.cells #[.int .i64 k, .slice A4 rs.length c4] 29))
  clear z0 y0 hb0 hU
  go_wp2_with fail
  refine (vb_impl k _ rs _ HU.out).mono ?_
  rintro e w5 ⟨rfl, hb5⟩
  rw [Hq.out, Hvb.out]
  dsimp only
  have z0 := Lib.hid (Z0.out.on hb5)
  have y0 := Lib.hid (Y0.out.on hb5)
  have x0 := Lib.hid (X0.out.on hb5)
  replace hA := Lib.hid (hA.out.on hb5)
  have hU := Lib.hid (RL.on HU.out hb5)
  have hb0 := Lib.hid (B0.out.trans (hb5.mono B0.out.size))
  clear hb5 Z0 Y0 X0 HU B0
  have g0 := Lib.hid (Bk.new w5 34 #[.int .i64 p0, .int .i64 p1, .int .i64 p2, .int .i64 p3])
  replace z0 := Lib.hid (z0.out.alloc (.cells #[.int .i64 p0, .int .i64 p1, .int .i64 p2, .int .i64 p3] 34))
  replace y0 := Lib.hid (y0.out.alloc (.cells #[.int .i64 p0, .int .i64 p1, .int .i64 p2, .int .i64 p3] 34))
  replace x0 := Lib.hid (x0.out.alloc (.cells #[.int .i64 p0, .int .i64 p1, .int .i64 p2, .int .i64 p3] 34))
  replace hA := Lib.hid (hA.out.on ((Below.refl _ _).alloc (Nat.le_refl _) (.cells #[.int .i64 p0, .int .i64 p1, .int .i64 p2, .int .i64 p3] 34)))
  replace hU := Lib.hid (RL.alloc hU.out (.cells #[.int .i64 p0, .int .i64 p1, .int .i64 p2, .int .i64 p3] 34))
  replace hb0 := Lib.hid (hb0.out.alloc hb0.out.size (.cells #[.int .i64 p0, .int .i64 p1, .int .i64 p2, .int .i64 p3] 34))
  obtain ⟨fw0, fw1, fw2, fw3⟩ := box4 y0.out
  have hbb : (bv != bv) = false := by simp
  go_wp2_with fail
  refine (eqRect_same ⟨p0, p1, p2, p3⟩ _).mono ?_
  rintro e w6 ⟨rfl, hb6⟩
  clear fw0 fw1 fw2 fw3 y0 g0
  replace z0 := Lib.hid (z0.out.on hb6)
  replace x0 := Lib.hid (x0.out.on hb6)
  replace hA := Lib.hid (hA.out.on hb6)
  replace hU := Lib.hid (RL.on hU.out hb6)
  replace hb0 := Lib.hid (hb0.out.trans (hb6.mono hb0.out.size))
  clear hb6
  obtain ⟨f0, f1⟩ := box2 x0.out
  obtain ⟨c0, c1⟩ := box2 z0.out
  have tc := hb0.out.drew
  have zz := z0.out.drew
  have xx := x0.out.drew
  have uu := RL.on hU.out ((Below.refl w6.heap.size w6).drew)
  have aa := Lib.hid (hA.out.on ((Below.refl w6.heap.size w6).drew))
  clear z0 x0 hA hU hb0
  go_wp2
  go_region_held3 (fun w' => (w'.cell? ⟨w4.heap.size, 0, none⟩ = some (.int .i64 k) ∧ w'.cell? ⟨w4.heap.size, 1, none⟩ = some (.slice A4 rs.length c4)) ∧ (w'.cell? ⟨w.heap.size, 0, none⟩ = some (.int .i64 k) ∧ w'.cell? ⟨w.heap.size, 1, none⟩ = some (.slice A rs.length c))) (exact ⟨box2 xx, box2 zz⟩)
    (first | (go_at_call 11; refine (toVio_any k A rs.length c rs _ aa.out hl).mono ?_; rintro e w7 ⟨u6, rfl, hU6, hb6⟩; have tc := tc.trans (hb6.mono tc.size); have zz := zz.on hb6; have xx := xx.on hb6; have uu := RL.on uu hb6; have vv := hU6.less (Nat.zero_le _))
           | (go_at_call 13; refine (eqVio_same k _ _ rs _ uu vv).mono ?_; rintro e w8 ⟨rfl, hb7⟩; have tc := tc.trans (hb7.mono tc.size); have zz := zz.on hb7; have xx := xx.on hb7))
  go_wp2
  go_ret
  exact ⟨rfl, tc⟩

end Go.Proofs.Ytbljapihmkmolaa
