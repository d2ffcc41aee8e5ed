/- FnExactGapThrough returns true for all arguments. No conditions. -/
import Derived.Test.YtcdfbfnnlfgkfaaLawKit
import Derived.Test.YtcdfbfnnlfgkfaaThru2
namespace Go.Proofs.Ytcdfbfnnlfgkfaa
open Go.RowKit

theorem Below.box {B : Nat} {a W : World} (_ : Below B a W) (t : TypeId) (cs : Array Value) : Bk (W.alloc (.cells cs t)) W.heap.size t cs := Bk.new W t cs
theorem toPoint_at {B : Nat} {a W : World} (_ : Below B a W) (x y : Int) : Calls Try.prog 26 #[.agg #[.int .i64 x, .int .i64 y]] W fun e w' => e = .returned (.agg #[.int .i64 x, .int .i64 y]) ∧ Below W.heap.size W w' := toPoint_any x y W
theorem far4 {w : World} {g b : Nat} {t : TypeId} {cs : Array Value} (h : Bk w g t cs) (hne : g ≠ b) (x0 x1 x2 x3 : Value) : Bk ((((w.setCell ⟨b, 0, none⟩ x0).setCell ⟨b, 1, none⟩ x1).setCell ⟨b, 2, none⟩ x2).setCell ⟨b, 3, none⟩ x3) g t cs :=
  (((h.other (p := ⟨b, 0, none⟩) hne x0).other (p := ⟨b, 1, none⟩) hne x1).other (p := ⟨b, 2, none⟩) hne x2).other (p := ⟨b, 3, none⟩) hne x3
theorem set4b {w : World} {b : Nat} {t : TypeId} {a0 a1 a2 a3 : Value} (h : Bk w b t #[a0, a1, a2, a3]) (x0 x1 x2 x3 : Value) : Bk ((((w.setCell ⟨b, 0, none⟩ x0).setCell ⟨b, 1, none⟩ x1).setCell ⟨b, 2, none⟩ x2).setCell ⟨b, 3, none⟩ x3) b t #[x0, x1, x2, x3] := (((h.store 0 x0).store 1 x1).store 2 x2).store 3 x3

set_option linter.unusedVariables false
set_option maxHeartbeats 12800000 in
set_option maxRecDepth 100000 in
theorem lawGapThrough (A0 : Option Addr) (n0 c0 : Nat) (rs0 : List Rc) (x y : Int) (vert : Bool) (w : World) (hA0 : ArgR w A0 n0 rs0) (hn0 : n0 ≤ c0) (hc0 : c0 ≤ maxLen) (_hx : I64 x) (_hy : I64 y) :
    Calls Try.prog 7 #[.slice A0 n0 c0, .agg #[.int .i64 x, .int .i64 y], .bool vert] w fun e w' => e = .returned (.bool true) ∧ Below w.heap.size w w' := by
  have Hm0 := hc0
  unfold maxLen at Hm0
  have z0 := Bk.new w 37 #[.int .i64 x, .int .i64 y]
  have b0 : Below w.heap.size w (w.alloc (.cells #[.int .i64 x, .int .i64 y] 37)) := (Below.refl _ _).alloc (Nat.le_refl _) _
  go_enter Try.func7, Try.ntmps7
  by_cases hs0 : (n0 : Int) ≤ 1048576
  case' neg =>
    go_wp2_with fail
    refine (szRectS_no A0 n0 c0 (1048576) _ (by omega) (by omega) (Nat.le_trans hn0 hc0)).mono ?_
    rintro e w1 ⟨rfl, rfl⟩
    go_wp2
    go_ret
    exact ⟨rfl, b0⟩
  go_wp2_with fail
  refine (szRectS_yes A0 n0 c0 (1048576) _ (by omega) (by omega)).mono ?_
  rintro e w1 ⟨rfl, rfl⟩
  go_wp2_with fail
  have zc := z0.drew
  have tc := b0.drew
  have ez : (w.alloc (.cells #[.int .i64 x, .int .i64 y] 37)).heap.size = w.heap.size + 1 := by simp
  have zb0 := (Below.box b0 33 #[.int .i64 0, .int .i64 0, .int .i64 0, .int .i64 0]).drew
  rw [ez] at zb0
  clear ez
  have nb0 : w.heap.size ≠ w.heap.size + 1 := by omega
  have hz0 : w.heap.size ≤ w.heap.size + 1 := by omega
  have zc0 := (z0.alloc (.cells #[.int .i64 0, .int .i64 0, .int .i64 0, .int .i64 0] 33)).drew
  have tc0 := (b0.alloc b0.size (.cells #[.int .i64 0, .int .i64 0, .int .i64 0, .int .i64 0] 33)).drew
  clear z0 b0
  go_region_held3 (fun w' => w'.cell? ⟨w.heap.size, 0, none⟩ = some (.int .i64 x) ∧ w'.cell? ⟨w.heap.size, 1, none⟩ = some (.int .i64 y)) (first | with_reducible exact box2 zc | with_reducible exact box2 (zc.alloc _) | with_reducible exact box2 zc0 | with_reducible exact box2 (far4 zc nb _ _ _ _) | with_reducible exact box2 (far4 (zc.alloc _) (Nat.ne_of_lt zc.lt) _ _ _ _))
    (first
      | (go_at_call 22; first | (have hC := toRectS_any A0 n0 c0 rs0 _ (hA0.on tc) (by omega); with_reducible refine hC.mono ?_; clear hC; rintro e w1 ⟨u1, rfl, r1, hb1⟩; have zc := zc.on hb1; have tc := tc.trans (hb1.mono tc.size); (try (have zb := zb.on hb1; obtain ⟨e0, e1, e2, e3⟩ := box4 zb; have q0 := zb.frozen 0; have q1 := zb.frozen 1; have q2 := zb.frozen 2; have q3 := zb.frozen 3)); have r1 := r1.less (Nat.zero_le _)) | (have zb := Below.box tc 33 #[.int .i64 0, .int .i64 0, .int .i64 0, .int .i64 0]; have nb := Nat.ne_of_lt zc.lt; have hz := tc.size; have zc := zc.alloc (.cells #[.int .i64 0, .int .i64 0, .int .i64 0, .int .i64 0] 33); have tc := tc.alloc tc.size (.cells #[.int .i64 0, .int .i64 0, .int .i64 0, .int .i64 0] 33); (try (have r1 := r1.alloc (.cells #[.int .i64 0, .int .i64 0, .int .i64 0, .int .i64 0] 33))); have hC := toRectS_any A0 n0 c0 rs0 _ (hA0.on tc) (by omega); with_reducible refine hC.mono ?_; clear hC; rintro e w1 ⟨u1, rfl, r1, hb1⟩; have zc := zc.on hb1; have tc := tc.trans (hb1.mono tc.size); (try (have zb := zb.on hb1; obtain ⟨e0, e1, e2, e3⟩ := box4 zb; have q0 := zb.frozen 0; have q1 := zb.frozen 1; have q2 := zb.frozen 2; have q3 := zb.frozen 3)); have r1 := r1.less (Nat.zero_le _)) | (have zb := zb0; have nb := nb0; have hz := hz0; have zc := zc0; have tc := tc0; have hC := toRectS_any A0 n0 c0 rs0 _ (hA0.on tc) (by omega); with_reducible refine hC.mono ?_; clear hC; rintro e w1 ⟨u1, rfl, r1, hb1⟩; have zc := zc.on hb1; have tc := tc.trans (hb1.mono tc.size); (try (have zb := zb.on hb1; obtain ⟨e0, e1, e2, e3⟩ := box4 zb; have q0 := zb.frozen 0; have q1 := zb.frozen 1; have q2 := zb.frozen 2; have q3 := zb.frozen 3)); have r1 := r1.less (Nat.zero_le _)))
      | (go_at_call 26; first | (have hC := toPoint_at tc x y; with_reducible refine hC.mono ?_; clear hC; rintro e w2 ⟨rfl, hb2⟩; have zc := zc.on hb2; have tc := tc.trans (hb2.mono tc.size); (try (have zb := zb.on hb2; obtain ⟨e0, e1, e2, e3⟩ := box4 zb; have q0 := zb.frozen 0; have q1 := zb.frozen 1; have q2 := zb.frozen 2; have q3 := zb.frozen 3)); (try (have r1 := r1.on hb2))) | (have zb := Below.box tc 33 #[.int .i64 0, .int .i64 0, .int .i64 0, .int .i64 0]; have nb := Nat.ne_of_lt zc.lt; have hz := tc.size; have zc := zc.alloc (.cells #[.int .i64 0, .int .i64 0, .int .i64 0, .int .i64 0] 33); have tc := tc.alloc tc.size (.cells #[.int .i64 0, .int .i64 0, .int .i64 0, .int .i64 0] 33); (try (have r1 := r1.alloc (.cells #[.int .i64 0, .int .i64 0, .int .i64 0, .int .i64 0] 33))); have hC := toPoint_at tc x y; with_reducible refine hC.mono ?_; clear hC; rintro e w2 ⟨rfl, hb2⟩; have zc := zc.on hb2; have tc := tc.trans (hb2.mono tc.size); (try (have zb := zb.on hb2; obtain ⟨e0, e1, e2, e3⟩ := box4 zb; have q0 := zb.frozen 0; have q1 := zb.frozen 1; have q2 := zb.frozen 2; have q3 := zb.frozen 3)); (try (have r1 := r1.on hb2))) | (have zb := zb0; have nb := nb0; have hz := hz0; have zc := zc0; have tc := tc0; have hC := toPoint_at tc x y; with_reducible refine hC.mono ?_; clear hC; rintro e w2 ⟨rfl, hb2⟩; have zc := zc.on hb2; have tc := tc.trans (hb2.mono tc.size); (try (have zb := zb.on hb2; obtain ⟨e0, e1, e2, e3⟩ := box4 zb; have q0 := zb.frozen 0; have q1 := zb.frozen 1; have q2 := zb.frozen 2; have q3 := zb.frozen 3)); (try (have r1 := r1.on hb2))))
      | (go_at_call 31; first | (have hC := gt_spec u1 rs0 x y vert _ r1; with_reducible refine hC.mono ?_; clear hC; rintro e w3 ⟨rfl, hb3⟩; have zc := zc.on hb3; have tc := tc.trans (hb3.mono tc.size); (try (have zb := zb.on hb3; obtain ⟨e0, e1, e2, e3⟩ := box4 zb; have q0 := zb.frozen 0; have q1 := zb.frozen 1; have q2 := zb.frozen 2; have q3 := zb.frozen 3)); have zn := Below.box tc 33 #[.int .i64 0, .int .i64 0, .int .i64 0, .int .i64 0]; obtain ⟨l0, l1, l2, l3⟩ := box4 zn; have m0 := zn.frozen 0; have m1 := zn.frozen 1; have m2 := zn.frozen 2; have m3 := zn.frozen 3) | (have zb := Below.box tc 33 #[.int .i64 0, .int .i64 0, .int .i64 0, .int .i64 0]; have nb := Nat.ne_of_lt zc.lt; have hz := tc.size; have zc := zc.alloc (.cells #[.int .i64 0, .int .i64 0, .int .i64 0, .int .i64 0] 33); have tc := tc.alloc tc.size (.cells #[.int .i64 0, .int .i64 0, .int .i64 0, .int .i64 0] 33); (try (have r1 := r1.alloc (.cells #[.int .i64 0, .int .i64 0, .int .i64 0, .int .i64 0] 33))); have hC := gt_spec u1 rs0 x y vert _ r1; with_reducible refine hC.mono ?_; clear hC; rintro e w3 ⟨rfl, hb3⟩; have zc := zc.on hb3; have tc := tc.trans (hb3.mono tc.size); (try (have zb := zb.on hb3; obtain ⟨e0, e1, e2, e3⟩ := box4 zb; have q0 := zb.frozen 0; have q1 := zb.frozen 1; have q2 := zb.frozen 2; have q3 := zb.frozen 3)); have zn := Below.box tc 33 #[.int .i64 0, .int .i64 0, .int .i64 0, .int .i64 0]; obtain ⟨l0, l1, l2, l3⟩ := box4 zn; have m0 := zn.frozen 0; have m1 := zn.frozen 1; have m2 := zn.frozen 2; have m3 := zn.frozen 3)))
  all_goals
    first
      | (have bw := set4b zb (.int .i64 (witX (gtV rs0 x y vert)).x0) (.int .i64 (witX (gtV rs0 x y vert)).y0) (.int .i64 (witX (gtV rs0 x y vert)).x1) (.int .i64 (witX (gtV rs0 x y vert)).y1); replace zc := far4 zc nb (.int .i64 (witX (gtV rs0 x y vert)).x0) (.int .i64 (witX (gtV rs0 x y vert)).y0) (.int .i64 (witX (gtV rs0 x y vert)).x1) (.int .i64 (witX (gtV rs0 x y vert)).y1); replace tc := below4 tc hz (.int .i64 (witX (gtV rs0 x y vert)).x0) (.int .i64 (witX (gtV rs0 x y vert)).y0) (.int .i64 (witX (gtV rs0 x y vert)).x1) (.int .i64 (witX (gtV rs0 x y vert)).y1))
      | (have bw := Below.box tc 33 #[.int .i64 (witX (gtV rs0 x y vert)).x0, .int .i64 (witX (gtV rs0 x y vert)).y0, .int .i64 (witX (gtV rs0 x y vert)).x1, .int .i64 (witX (gtV rs0 x y vert)).y1]; replace zc := zc.alloc (.cells #[.int .i64 (witX (gtV rs0 x y vert)).x0, .int .i64 (witX (gtV rs0 x y vert)).y0, .int .i64 (witX (gtV rs0 x y vert)).x1, .int .i64 (witX (gtV rs0 x y vert)).y1] 33); replace tc := tc.alloc tc.size (.cells #[.int .i64 (witX (gtV rs0 x y vert)).x0, .int .i64 (witX (gtV rs0 x y vert)).y0, .int .i64 (witX (gtV rs0 x y vert)).x1, .int .i64 (witX (gtV rs0 x y vert)).y1] 33))
    clear zb0 zc0 tc0
    try clear zb
    try clear zn
    clear r1
    go_wp2_with fail
    refine (toRectS_any A0 n0 c0 rs0 _ (hA0.on tc) (by omega)).mono ?_
    rintro e w4 ⟨u4, rfl, r4, b4⟩
    replace r4 := r4.less (Nat.zero_le _)
    replace zc := zc.on b4
    replace bw := bw.on b4
    replace tc := tc.trans (b4.mono tc.size)
    obtain ⟨g0, g1⟩ := box2 zc
    go_wp2_with fail
    refine (toPoint_any x y _).mono ?_
    rintro e w5 ⟨rfl, b5⟩
    replace r4 := r4.on b5
    replace bw := bw.on b5
    replace tc := tc.trans (b5.mono tc.size)
    go_wp2_with fail
    refine (gt_impl u4 rs0 x y vert _ r4).mono ?_
    rintro e w6 ⟨rfl, b6⟩
    replace r4 := (r4.on b6).alloc (.cells #[.int .i64 (witX (gtV rs0 x y vert)).x0, .int .i64 (witX (gtV rs0 x y vert)).y0, .int .i64 (witX (gtV rs0 x y vert)).x1, .int .i64 (witX (gtV rs0 x y vert)).y1] 33)
    replace bw := (bw.on b6).alloc (.cells #[.int .i64 (witX (gtV rs0 x y vert)).x0, .int .i64 (witX (gtV rs0 x y vert)).y0, .int .i64 (witX (gtV rs0 x y vert)).x1, .int .i64 (witX (gtV rs0 x y vert)).y1] 33)
    replace tc := tc.trans (b6.mono tc.size)
    have bg := Below.box tc 33 #[.int .i64 (witX (gtV rs0 x y vert)).x0, .int .i64 (witX (gtV rs0 x y vert)).y0, .int .i64 (witX (gtV rs0 x y vert)).x1, .int .i64 (witX (gtV rs0 x y vert)).y1]
    replace tc := tc.alloc tc.size (.cells #[.int .i64 (witX (gtV rs0 x y vert)).x0, .int .i64 (witX (gtV rs0 x y vert)).y0, .int .i64 (witX (gtV rs0 x y vert)).x1, .int .i64 (witX (gtV rs0 x y vert)).y1] 33)
    obtain ⟨fw0, fw1, fw2, fw3⟩ := box4 bw
    obtain ⟨fg0, fg1, fg2, fg3⟩ := box4 bg
    have hbb : (witB (gtV rs0 x y vert) != witB (gtV rs0 x y vert)) = false := by simp
    go_wp2_with fail
    refine (eqRect_same (witX (gtV rs0 x y vert)) _).mono ?_
    rintro e w7 ⟨rfl, b7⟩
    replace r4 := r4.on b7
    replace tc := tc.trans (b7.mono tc.size)
    go_wp2_with fail
    refine (toRectS_any A0 n0 c0 rs0 _ (hA0.on tc) (by omega)).mono ?_
    rintro e w8 ⟨u8, rfl, r8, b8⟩
    replace r8 := r8.less (Nat.zero_le _)
    replace r4 := r4.on b8
    replace tc := tc.trans (b8.mono tc.size)
    go_wp2_with fail
    refine (eqRectS_same u4 u8 rs0 _ r4 r8).mono ?_
    rintro e w9 ⟨rfl, b9⟩
    replace tc := tc.trans (b9.mono tc.size)
    go_wp2
    go_ret
    exact ⟨rfl, tc⟩

end Go.Proofs.Ytcdfbfnnlfgkfaa
