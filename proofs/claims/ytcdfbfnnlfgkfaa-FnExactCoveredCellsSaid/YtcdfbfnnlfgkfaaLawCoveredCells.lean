/- FnExactCoveredCells returns true for all arguments. No conditions. -/
import Derived.Test.YtcdfbfnnlfgkfaaLawKit
import Derived.Test.YtcdfbfnnlfgkfaaCov3
namespace Go.Proofs.Ytcdfbfnnlfgkfaa
open Go.RowKit

set_option linter.unusedVariables false
set_option maxHeartbeats 1600000 in
set_option maxRecDepth 100000 in
theorem lawCoveredCells (A0 : Option Addr) (n0 c0 : Nat) (rs0 : List Rc) (b : Rc) (w : World) (hA0 : ArgR w A0 n0 rs0) (hn0 : n0 ≤ c0) (hc0 : c0 ≤ maxLen) (_hb : b.in64) :
    Calls Try.prog 4 #[.slice A0 n0 c0, .agg #[.int .i64 b.x0, .int .i64 b.y0, .int .i64 b.x1, .int .i64 b.y1]] w fun e w' => e = .returned (.bool true) ∧ Below w.heap.size w w' := by
  have Hm0 := hc0
  unfold maxLen at Hm0
  have z0 := Bk.new w 29 #[.int .i64 b.x0, .int .i64 b.y0, .int .i64 b.x1, .int .i64 b.y1]
  have b0 : Below w.heap.size w (w.alloc (.cells #[.int .i64 b.x0, .int .i64 b.y0, .int .i64 b.x1, .int .i64 b.y1] 29)) := (Below.refl _ _).alloc (Nat.le_refl _) _
  go_enter Try.func4, Try.ntmps4
  by_cases hs0 : (n0 : Int) ≤ 1048576
  case' neg =>
    go_wp2_with fail
    refine (szRectS_no A0 n0 c0 (1048576) _ (by omega) (by omega) (Nat.le_trans hn0 hc0)).mono ?_
    rintro e w1 ⟨rfl, rfl⟩
    go_wp2
    go_ret
    exact ⟨rfl, b0⟩
  go_wp2_with fail
  refine (szRectS_yes A0 n0 c0 (1048576) _ (by omega) (by omega)).mono ?_
  rintro e w1 ⟨rfl, rfl⟩
  go_wp2_with fail
  have zc := z0.drew
  have tc := b0.drew
  clear z0 b0
  go_region_held3 (fun w' => w'.cell? ⟨w.heap.size, 0, none⟩ = some (.int .i64 b.x0) ∧ w'.cell? ⟨w.heap.size, 1, none⟩ = some (.int .i64 b.y0) ∧ w'.cell? ⟨w.heap.size, 2, none⟩ = some (.int .i64 b.x1) ∧ w'.cell? ⟨w.heap.size, 3, none⟩ = some (.int .i64 b.y1)) (exact box4 zc)
    (first | (go_at_call 22; refine (toRectS_any A0 n0 c0 rs0 _ (hA0.on tc) (by omega)).mono ?_; rintro e w1 ⟨u1, rfl, r1, hb1⟩; have r1 := r1.less (Nat.zero_le _); have zc := zc.on hb1; have tc := tc.trans (hb1.mono tc.size)) | (go_at_call 23; refine (toRect_any b.x0 b.y0 b.x1 b.y1 _).mono ?_; rintro e w2 ⟨rfl, hb2⟩; have zc := zc.on hb2; have tc := tc.trans (hb2.mono tc.size); try (have r1 := r1.on hb2)) | (go_at_call 21; refine (cov_spec u1 rs0 b _ r1).mono ?_; rintro e w3 ⟨rfl, hb3⟩; have zc := zc.on hb3; have tc := tc.trans (hb3.mono tc.size)))
  all_goals
    clear r1
    go_wp2_with fail
    refine (toRectS_any A0 n0 c0 rs0 _ (hA0.on tc) (by omega)).mono ?_
    rintro e w4 ⟨u4, rfl, r4, b4⟩
    replace r4 := r4.less (Nat.zero_le _)
    replace zc := zc.on b4
    replace tc := tc.trans (b4.mono tc.size)
    obtain ⟨q0, q1, q2, q3⟩ := box4 zc
    go_wp2_with fail
    refine (toRect_any b.x0 b.y0 b.x1 b.y1 _).mono ?_
    rintro e w5 ⟨rfl, b5⟩
    replace r4 := r4.on b5
    replace tc := tc.trans (b5.mono tc.size)
    go_wp2_with fail
    refine (cov_impl u4 rs0 b _ r4).mono ?_
    rintro e w6 ⟨rfl, b6⟩
    replace r4 := r4.on b6
    replace tc := tc.trans (b6.mono tc.size)
    go_wp2_with fail
    refine (toRectS_any A0 n0 c0 rs0 _ (hA0.on tc) (by omega)).mono ?_
    rintro e w7 ⟨u7, rfl, r7, b7⟩
    replace r7 := r7.less (Nat.zero_le _)
    replace r4 := r4.on b7
    replace tc := tc.trans (b7.mono tc.size)
    go_wp2_with fail
    refine (eqRectS_same u4 u7 rs0 _ r4 r7).mono ?_
    rintro e w8 ⟨rfl, b8⟩
    replace tc := tc.trans (b8.mono tc.size)
    go_wp2
    go_ret
    exact ⟨rfl, tc⟩

end Go.Proofs.Ytcdfbfnnlfgkfaa
