/- FnExactIsValidViolation returns true for all arguments. No conditions. -/
import Derived.Test.YtbljapihmkmolaaLawKit
import Derived.Test.YtbljapihmkmolaaPartsP
import Derived.Test.YtbljapihmkmolaaVio
import Derived.Deep.RegionHeld3
namespace Go.Proofs.Ytbljapihmkmolaa
open Go.RowKit

set_option linter.unusedVariables false
set_option maxHeartbeats 3200000 in
set_option maxRecDepth 100000 in
theorem lawIsValidViolation (k : Int) (A : Option Addr) (n c : Nat) (rs : List Rc) (w : World) (ha : ArgR w A n rs) (hn : n ≤ c) (hc : c ≤ maxLen) : Calls Try.prog 3 #[.agg #[.int .i64 k, .slice A n c]] w fun e w' => e = .returned (.bool true) ∧ Below w.heap.size w w' := by
  obtain rfl := ha.len
  have Hm := hc
  unfold maxLen at Hm
  have hb0 := (Below.refl w.heap.size w).alloc (Nat.le_refl _) (.cells #[.int .i64 k, .slice A rs.length c] 24)
  have z0 := Bk.new w 24 #[.int .i64 k, .slice A rs.length c]
  by_cases hs : (rs.length : Int) ≤ 1048576
  case' neg =>
    go_enter Try.func3, Try.ntmps3
    go_wp2_with fail
    refine (szVio_no k A rs.length c 1048576 _ (by omega) (by omega) (Nat.le_trans hn hc)).mono ?_
    rintro e w1 ⟨rfl, hb1⟩
    go_wp2
    go_ret
    exact ⟨rfl, hb0.trans (hb1.mono hb0.size)⟩
  have hA := Lib.hid (ha.on hb0)
  have hl : rs.length ≤ 1048576 := by omega
  clear ha hn hc
  go_enter Try.func3, Try.ntmps3
  go_wp2_with fail
  refine (szVio_yes k A rs.length c 1048576 _ (by omega) (by omega)).mono ?_
  rintro e w1 ⟨rfl, hb1⟩
  have hz : ¬ ((1048576 : Int) - (rs.length : Int) < 0) := by omega
  replace z0 := z0.on hb1
  obtain ⟨c0, c1⟩ := box2 z0
  replace hA := Lib.hid (hA.out.on hb1)
  replace hb0 := hb0.trans (hb1.mono hb0.size)
  clear hb1
  go_wp2_with fail
  refine (toVio_any k A rs.length c rs _ hA.out hl).mono ?_
  rintro e w2 ⟨u2, rfl, hU2, hb2⟩
  clear c0 c1
  replace z0 := z0.on hb2
  replace hA := Lib.hid (hA.out.on hb2)
  replace hb0 := hb0.trans (hb2.mono hb0.size)
  clear hb2
  go_wp2_with fail
  refine (vio_spec k u2 rs _ (hU2.less (Nat.zero_le _))).mono ?_
  rintro e w3 ⟨rfl, hb3⟩
  replace z0 := z0.on hb3
  replace hA := Lib.hid (hA.out.on hb3)
  replace hb0 := hb0.trans (hb3.mono hb0.size)
  clear hb3 hU2
  obtain ⟨c0, c1⟩ := box2 z0
  go_wp2_with fail
  refine (toVio_any k A rs.length c rs _ hA.out hl).mono ?_
  rintro e w4 ⟨u4, rfl, hU4, hb4⟩
  clear c0 c1
  have hU := hU4.less (Nat.zero_le _)
  replace z0 := z0.on hb4
  replace hA := Lib.hid (hA.out.on hb4)
  replace hb0 := hb0.trans (hb4.mono hb0.size)
  clear hb4 hU4
  obtain ⟨A4, c4, rfl, -, -, -⟩ := hU.form
  have X0 := Lib.hid (Bk.new w4 29 #[.int .i64 k, .slice A4 rs.length c4])
  have Z0 := Lib.hid (z0.alloc (.cells #[.int .i64 k, .slice A4 rs.length c4] 29))
  replace hA := Lib.hid (hA.out.on ((Below.refl _ _).alloc (Nat.le_refl _) (.cells #[.int .i64 k, .slice A4 rs.length c4] 29)))
  have B0 := Lib.hid (hb0.alloc hb0.size (.cells #[.int .i64 k, .slice A4 rs.length c4] 29))
  have HU := Lib.hid (RL.alloc hU (.cells #[.int .i64 k, .slice A4 rs.length c4] 29))
  clear z0 hb0 hU
  go_wp2_with fail
  refine (vio_impl k _ rs _ HU.out).mono ?_
  rintro e w5 ⟨rfl, hb5⟩
  have z0 := Z0.out.on hb5
  have x0 := X0.out.on hb5
  replace hA := Lib.hid (hA.out.on hb5)
  have hU := HU.out.on hb5
  have hb0 := B0.out.trans (hb5.mono B0.out.size)
  clear Z0 X0 HU B0
  clear hb5
  have hbb : (vioV k rs != vioV k rs) = false := by simp
  generalize vioV k rs = b at *
  obtain ⟨f0, f1⟩ := box2 x0
  obtain ⟨c0, c1⟩ := box2 z0
  have tc := hb0.drew
  have zz := z0.drew
  have xx := x0.drew
  have uu := RL.on hU ((Below.refl w5.heap.size w5).drew)
  have aa := Lib.hid (hA.out.on ((Below.refl w5.heap.size w5).drew))
  go_wp2
  go_region_held3 (fun w' => (w'.cell? ⟨w4.heap.size, 0, none⟩ = some (.int .i64 k) ∧ w'.cell? ⟨w4.heap.size, 1, none⟩ = some (.slice A4 rs.length c4)) ∧ (w'.cell? ⟨w.heap.size, 0, none⟩ = some (.int .i64 k) ∧ w'.cell? ⟨w.heap.size, 1, none⟩ = some (.slice A rs.length c))) (exact ⟨box2 xx, box2 zz⟩)
    (first | (go_at_call 11; refine (toVio_any k A rs.length c rs _ aa.out hl).mono ?_; rintro e w6 ⟨u6, rfl, hU6, hb6⟩; have tc := tc.trans (hb6.mono tc.size); have zz := zz.on hb6; have xx := xx.on hb6; have uu := RL.on uu hb6; have vv := hU6.less (Nat.zero_le _))
           | (go_at_call 13; refine (eqVio_same k _ _ rs _ uu vv).mono ?_; rintro e w7 ⟨rfl, hb7⟩; have tc := tc.trans (hb7.mono tc.size); have zz := zz.on hb7; have xx := xx.on hb7))
  go_wp2
  go_ret
  exact ⟨rfl, tc⟩

end Go.Proofs.Ytbljapihmkmolaa
