/- FnExactWidthWitness returns true for all arguments. No conditions. -/
import Derived.Test.YtcdfbfnnlfgkfaaLawKit
import Derived.Test.YtcdfbfnnlfgkfaaWidth5
namespace Go.Proofs.Ytcdfbfnnlfgkfaa
open Go.RowKit

set_option linter.unusedVariables false
set_option maxHeartbeats 1600000 in
set_option maxRecDepth 100000 in
theorem lawWidthWitness (A0 : Option Addr) (n0 c0 : Nat) (rs0 : List Rc) (x1 : Int) (w : World) (ha0 : ArgR w A0 n0 rs0) (hn0 : n0 ≤ c0) (hc0 : c0 ≤ maxLen) (hx1 : I64 x1) : Calls Try.prog 10 #[.slice A0 n0 c0, .int .i64 x1] w fun e w' => e = .returned (.bool true) ∧ Below w.heap.size w w' := by
  have Hlen := True.intro
  have Hm0 := hc0
  unfold maxLen at Hm0
  go_enter Try.func10, Try.ntmps10
  by_cases hs0 : (n0 : Int) ≤ 1048576
  case' neg =>
    go_wp2_with fail
    refine (szRectS_no A0 n0 c0 (1048576) w (by omega) (by omega) (Nat.le_trans hn0 hc0)).mono ?_
    rintro e w1 ⟨rfl, rfl⟩
    go_wp2
    go_ret
    exact ⟨rfl, Below.refl _ _⟩
  go_wp2_with fail
  refine (szRectS_yes A0 n0 c0 (1048576) w (by omega) (by omega)).mono ?_
  rintro e w1 ⟨rfl, rfl⟩
  have t0 := Below.refl w.heap.size w
  have hA0 := ha0
  clear ha0
  have hz0 := hA0.len
  go_wp2_with fail
  refine (toRectS_any A0 n0 c0 rs0 _ (hA0.on t0) (by omega)).mono ?_
  rintro e w_1 ⟨u_p0, rfl, r_p0, b_1⟩
  have lo_p0 := fun g h => (r_p0.lt g h).1
  have hi_p0 := fun g h => (r_p0.lt g h).2
  replace r_p0 := r_p0.less (Nat.zero_le _)
  have s_1 := b_1.size
  replace t0 := t0.trans (b_1.mono t0.size)
  go_wp2_with fail
  refine (ww_spec u_p0 rs0 x1 _ r_p0).mono ?_
  rintro e w_2 ⟨rfl, b_2⟩
  replace r_p0 := r_p0.on b_2
  have s_2 := b_2.size
  replace t0 := t0.trans (b_2.mono t0.size)
  have bw := Bk.new w_2 33 #[.int .i64 (witX (wwV rs0 x1)).x0, .int .i64 (witX (wwV rs0 x1)).y0, .int .i64 (witX (wwV rs0 x1)).x1, .int .i64 (witX (wwV rs0 x1)).y1]
  replace t0 := t0.alloc t0.size (.cells #[.int .i64 (witX (wwV rs0 x1)).x0, .int .i64 (witX (wwV rs0 x1)).y0, .int .i64 (witX (wwV rs0 x1)).x1, .int .i64 (witX (wwV rs0 x1)).y1] 33)
  replace r_p0 := r_p0.alloc (.cells #[.int .i64 (witX (wwV rs0 x1)).x0, .int .i64 (witX (wwV rs0 x1)).y0, .int .i64 (witX (wwV rs0 x1)).x1, .int .i64 (witX (wwV rs0 x1)).y1] 33)
  clear r_p0 lo_p0 hi_p0
  go_wp2_with fail
  refine (toRectS_any A0 n0 c0 rs0 _ (hA0.on t0) (by omega)).mono ?_
  rintro e w_3 ⟨u_x0, rfl, r_x0, b_3⟩
  replace bw := bw.on b_3
  have lo_x0 := fun g h => (r_x0.lt g h).1
  have hi_x0 := fun g h => (r_x0.lt g h).2
  replace r_x0 := r_x0.less (Nat.zero_le _)
  have s_3 := b_3.size
  replace t0 := t0.trans (b_3.mono t0.size)
  go_wp2_with fail
  refine (ww_impl u_x0 rs0 x1 _ r_x0).mono ?_
  rintro e w_4 ⟨rfl, b_4⟩
  replace bw := bw.on b_4
  replace r_x0 := r_x0.on b_4
  have s_4 := b_4.size
  replace t0 := t0.trans (b_4.mono t0.size)
  replace bw := bw.alloc (.cells #[.int .i64 (witX (wwV rs0 x1)).x0, .int .i64 (witX (wwV rs0 x1)).y0, .int .i64 (witX (wwV rs0 x1)).x1, .int .i64 (witX (wwV rs0 x1)).y1] 33)
  have bg := Bk.new w_4 33 #[.int .i64 (witX (wwV rs0 x1)).x0, .int .i64 (witX (wwV rs0 x1)).y0, .int .i64 (witX (wwV rs0 x1)).x1, .int .i64 (witX (wwV rs0 x1)).y1]
  replace t0 := t0.alloc t0.size (.cells #[.int .i64 (witX (wwV rs0 x1)).x0, .int .i64 (witX (wwV rs0 x1)).y0, .int .i64 (witX (wwV rs0 x1)).x1, .int .i64 (witX (wwV rs0 x1)).y1] 33)
  replace r_x0 := r_x0.alloc (.cells #[.int .i64 (witX (wwV rs0 x1)).x0, .int .i64 (witX (wwV rs0 x1)).y0, .int .i64 (witX (wwV rs0 x1)).x1, .int .i64 (witX (wwV rs0 x1)).y1] 33)
  obtain ⟨fw0, fw1, fw2, fw3⟩ := box4 bw
  obtain ⟨fg0, fg1, fg2, fg3⟩ := box4 bg
  have hbb : (witB (wwV rs0 x1) != witB (wwV rs0 x1)) = false := by simp
  go_wp2_with fail
  refine (eqRect_same (witX (wwV rs0 x1)) _).mono ?_
  rintro e w_5 ⟨rfl, b_5⟩
  replace bw := bw.on b_5
  replace bg := bg.on b_5
  replace r_x0 := r_x0.on b_5
  have s_5 := b_5.size
  replace t0 := t0.trans (b_5.mono t0.size)
  go_wp2_with fail
  refine (toRectS_any A0 n0 c0 rs0 _ (hA0.on t0) (by omega)).mono ?_
  rintro e w_6 ⟨u_y0, rfl, r_y0, b_6⟩
  replace bw := bw.on b_6
  replace bg := bg.on b_6
  have lo_y0 := fun g h => (r_y0.lt g h).1
  have hi_y0 := fun g h => (r_y0.lt g h).2
  replace r_y0 := r_y0.less (Nat.zero_le _)
  replace r_x0 := r_x0.on b_6
  have s_6 := b_6.size
  replace t0 := t0.trans (b_6.mono t0.size)
  go_wp2_with fail
  refine (eqRectS_same u_x0 u_y0 rs0 _ r_x0 r_y0).mono ?_
  rintro e w_7 ⟨rfl, b_7⟩
  replace bw := bw.on b_7
  replace bg := bg.on b_7
  replace r_x0 := r_x0.on b_7
  replace r_y0 := r_y0.on b_7
  have s_7 := b_7.size
  replace t0 := t0.trans (b_7.mono t0.size)
  clear r_y0 lo_y0 hi_y0
  go_wp2
  go_ret
  exact ⟨rfl, t0⟩

end Go.Proofs.Ytcdfbfnnlfgkfaa
