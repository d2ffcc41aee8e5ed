/- Contracts: places of elements, their composition, moved rectangles, of the program and of the reference. Conditions: numbers in range. Contract: impl.elements. Condition: the instances of a valid cell. -/
import Derived.Test.YtgegbgkokkdmpaaGreatQ25
import Derived.Test.YtgegbgkokkdmpaaGreatQ28
import Derived.Deep.RegionHeld3
import Derived.Deep.RegionLaw
import Derived.Deep.CutRange

namespace Go.Proofs.YtgegbgkokkdmpaaGreat
open Go.RowKit

theorem mul_small {m : Nat} {s : Int} (hm : m ≤ 4) (h : -80 ≤ s ∧ s ≤ 80) : -320 ≤ (m : Int) * s ∧ (m : Int) * s ≤ 320 := by
  have h4 : m = 0 ∨ m = 1 ∨ m = 2 ∨ m = 3 ∨ m = 4 := by omega
  rcases h4 with rfl | rfl | rfl | rfl | rfl
  · simp
  · omega
  · omega
  · omega
  · omega

set_option maxHeartbeats 1600000 in
set_option maxRecDepth 100000 in
/-- elementPlace. -/
theorem place_any (cell o x y cols rows sx sy : Int) (c r : Nat) (w : World) (hc : c ≤ 4) (hr : r ≤ 4) (hx : -80 ≤ x ∧ x ≤ 80) (hy : -80 ≤ y ∧ y ≤ 80) (hsx : -80 ≤ sx ∧ sx ≤ 80) (hsy : -80 ≤ sy ∧ sy ≤ 80) :
    Calls Tryz.prog 60 #[.agg #[.int .i64 cell, .int .i64 o, .int .i64 x, .int .i64 y, .int .i64 cols, .int .i64 rows, .int .i64 sx, .int .i64 sy], .int .i64 c, .int .i64 r] w fun e w' => e = .returned (.agg #[.int .i64 o, .int .i64 (x + c * sx), .int .i64 (y + r * sy)]) ∧ Below w.heap.size w w' := by
  have m1 := mul_small hc hsx
  have m2 := mul_small hr hsy
  have e1 := Go.IntWalk.i64_in ((c : Int) * sx) (by omega)
  have e2 := Go.IntWalk.i64_in ((r : Int) * sy) (by omega)
  have e3 := Go.IntWalk.i64_in (x + c * sx) (by omega)
  have e4 := Go.IntWalk.i64_in (y + r * sy) (by omega)
  have b1 := (Below.refl w.heap.size w).alloc (Nat.le_refl _) (.cells #[.int .i64 cell, .int .i64 o, .int .i64 x, .int .i64 y, .int .i64 cols, .int .i64 rows, .int .i64 sx, .int .i64 sy] 74)
  have b2 := b1.alloc b1.size (.cells #[.int .i64 o, .int .i64 (x + c * sx), .int .i64 (y + r * sy)] 72)
  clear m1 m2
  go_enter Tryz.func60, Tryz.ntmps60
  go_wp2
  refine bodyPost_ret (v := .agg #[.int .i64 o, .int .i64 (x + c * sx), .int .i64 (y + r * sy)]) (by simp [results, Tryz.results60, go_sem, *]) rfl ?_
  exact ⟨rfl, b2⟩

set_option maxHeartbeats 1600000 in
set_option maxRecDepth 100000 in
/-- l10Element. -/
theorem place10_any (cell o x y cols rows sx sy : Int) (c r : Nat) (w : World) (hc : c ≤ 4) (hr : r ≤ 4) (hx : -80 ≤ x ∧ x ≤ 80) (hy : -80 ≤ y ∧ y ≤ 80) (hsx : -80 ≤ sx ∧ sx ≤ 80) (hsy : -80 ≤ sy ∧ sy ≤ 80) :
    Calls Tryz.prog 71 #[.agg #[.int .i64 cell, .int .i64 o, .int .i64 x, .int .i64 y, .int .i64 cols, .int .i64 rows, .int .i64 sx, .int .i64 sy], .int .i64 c, .int .i64 r] w fun e w' => e = .returned (.agg #[.int .i64 o, .int .i64 (x + c * sx), .int .i64 (y + r * sy)]) ∧ Below w.heap.size w w' := by
  have m1 := mul_small hc hsx
  have m2 := mul_small hr hsy
  have e1 := Go.IntWalk.i64_in ((c : Int) * sx) (by omega)
  have e2 := Go.IntWalk.i64_in ((r : Int) * sy) (by omega)
  have e3 := Go.IntWalk.i64_in (x + c * sx) (by omega)
  have e4 := Go.IntWalk.i64_in (y + r * sy) (by omega)
  have b1 := (Below.refl w.heap.size w).alloc (Nat.le_refl _) (.cells #[.int .i64 cell, .int .i64 o, .int .i64 x, .int .i64 y, .int .i64 cols, .int .i64 rows, .int .i64 sx, .int .i64 sy] 74)
  have b2 := b1.alloc b1.size (.cells #[.int .i64 o, .int .i64 (x + c * sx), .int .i64 (y + r * sy)] 72)
  clear m1 m2
  go_enter Tryz.func71, Tryz.ntmps71
  go_wp2
  refine bodyPost_ret (v := .agg #[.int .i64 o, .int .i64 (x + c * sx), .int .i64 (y + r * sy)]) (by simp [results, Tryz.results71, go_sem, *]) rfl ?_
  exact ⟨rfl, b2⟩

set_option maxHeartbeats 1600000 in
set_option maxRecDepth 100000 in
/-- l10Point. -/
theorem point10_any (o tx ty x y : Int) (w : World) (ho : 0 ≤ o ∧ o ≤ 7) (ht : (-5000 ≤ tx ∧ tx ≤ 5000) ∧ (-5000 ≤ ty ∧ ty ≤ 5000)) (hb : (-5000 ≤ x ∧ x ≤ 5000) ∧ (-5000 ≤ y ∧ y ≤ 5000)) :
    Calls Tryz.prog 50 #[.agg #[.int .i64 o, .int .i64 tx, .int .i64 ty], .agg #[.int .i64 x, .int .i64 y]] w fun e w' => e = .returned (.agg #[.int .i64 (moveX ⟨o, tx, ty⟩ x y), .int .i64 (moveY ⟨o, tx, ty⟩ x y)]) ∧ Below w.heap.size w w' := by
  obtain ⟨m, hm3, hm, hmt, hrot⟩ := rot_turn ho x y
  have Hrot := Lib.hid hrot
  have z0 := ((Bk.new w 72 #[.int .i64 o, .int .i64 tx, .int .i64 ty]).alloc (.cells #[.int .i64 x, .int .i64 y] 107)).alloc (.cells #[.int .i64 0, .int .i64 0] 107)
  have z2 := Bk.new ((w.alloc (.cells #[.int .i64 o, .int .i64 tx, .int .i64 ty] 72)).alloc (.cells #[.int .i64 x, .int .i64 y] 107)) 107 #[.int .i64 0, .int .i64 0]
  rw [show ((w.alloc (.cells #[.int .i64 o, .int .i64 tx, .int .i64 ty] 72)).alloc (.cells #[.int .i64 x, .int .i64 y] 107)).heap.size = w.heap.size + 1 + 1 by simp] at z2
  have tw := (((Below.refl w.heap.size w).alloc (Nat.le_refl _) (.cells #[.int .i64 o, .int .i64 tx, .int .i64 ty] 72)).alloc (by simp) (.cells #[.int .i64 x, .int .i64 y] 107)).alloc (by simp; omega) (.cells #[.int .i64 0, .int .i64 0] 107)
  obtain ⟨W, hW⟩ : ∃ W, W = ((w.alloc (.cells #[.int .i64 o, .int .i64 tx, .int .i64 ty] 72)).alloc (.cells #[.int .i64 x, .int .i64 y] 107)).alloc (.cells #[.int .i64 0, .int .i64 0] 107) := ⟨_, rfl⟩
  rw [← hW] at z0 z2 tw
  obtain ⟨c0, c1, c2⟩ := box3 z0
  have f0 := z2.frozen 0
  have f1 := z2.frozen 1
  obtain ⟨d0, d1⟩ := box2 z2
  clear hrot z0 z2
  go_enter Tryz.func50, Tryz.ntmps50
  rcases Hrot.out with ⟨h4, hX, hY⟩ | ⟨h4, hX, hY⟩
  · have Hx := Lib.hid hX
    have Hy := Lib.hid hY
    have h4' : o ≥ 4 := h4
    have ey := Go.IntWalk.i64_in (-y) (by omega)
    clear hX hY
    go_wp2
    rw [← hW]
    clear hW
    go_loop [5, 6, 7] (fun xv yv kv => ∃ (k : Nat) (a b : Int), k ≤ 3 ∧ kv = .int .i64 k ∧ xv = .int .i64 a ∧ yv = .int .i64 b ∧ ((-5000 ≤ a ∧ a ≤ 5000) ∧ (-5000 ≤ b ∧ b ≤ 5000)) ∧ rotX k a b = turnX o x y ∧ rotY k a b = turnY o x y) (fun _ _ kv => (intOf kv).toNat)
    case atStart => exact ⟨m, x, -y, hm3, rfl, rfl, rfl, by omega, Hx.out, Hy.out⟩
    case round =>
      obtain ⟨k, a, b, hk, rfl, rfl, rfl, hab, hX, hY⟩ := hrel
      have HX := Lib.hid hX
      have HY := Lib.hid hY
      clear hX hY Hx Hy
      by_cases hk0 : k = 0
      · subst hk0
        have hz : ¬ ((0 : Nat) : Int) > 0 := by omega
        have EX : Hid (a = turnX o x y) := Lib.hid HX.out
        have EY : Hid (b = turnY o x y) := Lib.hid HY.out
        have ex := Go.IntWalk.i64_in (a + tx) (by omega)
        have ey := Go.IntWalk.i64_in (b + ty) (by omega)
        go_wp2
        refine bodyPost_ret (v := .agg #[.int .i64 (a + tx), .int .i64 (b + ty)]) (by simp [results, Tryz.results50, go_sem, *]) rfl ?_
        exact ⟨by unfold moveX moveY; rw [EX.out, EY.out], (tw.setCell (p := ⟨w.heap.size + 1 + 1, 0, none⟩) (by simp; omega) _).setCell (p := ⟨w.heap.size + 1 + 1, 1, none⟩) (by simp; omega) _⟩
      · obtain ⟨j, rfl⟩ : ∃ j, k = j + 1 := ⟨k - 1, by omega⟩
        have hz : ((j + 1 : Nat) : Int) > 0 := by omega
        have en := Go.IntWalk.i64_in (-b) (by omega)
        have ek := Go.IntWalk.i64_in (((j + 1 : Nat) : Int) - 1) (by omega)
        go_wp2
        exact ⟨⟨j, -b, a, by omega, by first | rfl | go_num | (congr 1; omega), rfl, rfl, by omega, HX.out, HY.out⟩, by simp [intOf]⟩
  · have Hx := Lib.hid hX
    have Hy := Lib.hid hY
    have h4' : ¬ o ≥ 4 := by omega
    clear hX hY
    go_wp2
    rw [← hW]
    clear hW
    go_loop [5, 6, 7] (fun xv yv kv => ∃ (k : Nat) (a b : Int), k ≤ 3 ∧ kv = .int .i64 k ∧ xv = .int .i64 a ∧ yv = .int .i64 b ∧ ((-5000 ≤ a ∧ a ≤ 5000) ∧ (-5000 ≤ b ∧ b ≤ 5000)) ∧ rotX k a b = turnX o x y ∧ rotY k a b = turnY o x y) (fun _ _ kv => (intOf kv).toNat)
    case atStart => exact ⟨m, x, y, hm3, rfl, rfl, rfl, by omega, Hx.out, Hy.out⟩
    case round =>
      obtain ⟨k, a, b, hk, rfl, rfl, rfl, hab, hX, hY⟩ := hrel
      have HX := Lib.hid hX
      have HY := Lib.hid hY
      clear hX hY Hx Hy
      by_cases hk0 : k = 0
      · subst hk0
        have hz : ¬ ((0 : Nat) : Int) > 0 := by omega
        have EX : Hid (a = turnX o x y) := Lib.hid HX.out
        have EY : Hid (b = turnY o x y) := Lib.hid HY.out
        have ex := Go.IntWalk.i64_in (a + tx) (by omega)
        have ey := Go.IntWalk.i64_in (b + ty) (by omega)
        go_wp2
        refine bodyPost_ret (v := .agg #[.int .i64 (a + tx), .int .i64 (b + ty)]) (by simp [results, Tryz.results50, go_sem, *]) rfl ?_
        exact ⟨by unfold moveX moveY; rw [EX.out, EY.out], (tw.setCell (p := ⟨w.heap.size + 1 + 1, 0, none⟩) (by simp; omega) _).setCell (p := ⟨w.heap.size + 1 + 1, 1, none⟩) (by simp; omega) _⟩
      · obtain ⟨j, rfl⟩ : ∃ j, k = j + 1 := ⟨k - 1, by omega⟩
        have hz : ((j + 1 : Nat) : Int) > 0 := by omega
        have en := Go.IntWalk.i64_in (-b) (by omega)
        have ek := Go.IntWalk.i64_in (((j + 1 : Nat) : Int) - 1) (by omega)
        go_wp2
        exact ⟨⟨j, -b, a, by omega, by first | rfl | go_num | (congr 1; omega), rfl, rfl, by omega, HX.out, HY.out⟩, by simp [intOf]⟩

theorem rem4 {a : Int} (h : 0 ≤ a ∧ a ≤ 7) : ∃ m : Nat, m ≤ 3 ∧ a % 4 = (m : Int) ∧ a.tmod 4 = (m : Int) := by
  refine ⟨(a % 4).toNat, by omega, by omega, ?_⟩
  rw [Int.tmod_eq_emod_of_nonneg h.1]
  omega
theorem below_eq {w w' : World} (h : w = w') : Below w.heap.size w w' := h ▸ Below.refl _ _
set_option maxHeartbeats 1600000 in
set_option maxRecDepth 100000 in
/-- composed. -/
theorem composed_any (a b : Int) (ha : 0 ≤ a ∧ a ≤ 7) (hb : 0 ≤ b ∧ b ≤ 7) (w : World) : Calls Tryz.prog 86 #[.int .i64 a, .int .i64 b] w fun e w' => e = .returned (.int .i64 (compO a b)) ∧ w = w' := by
  obtain ⟨p, hp, ep, ea⟩ := rem4 ha
  obtain ⟨q, hq, eq, eb⟩ := rem4 hb
  have i1 := Go.IntWalk.i64_in ((q : Int) + p) (by omega)
  have i2 := Go.IntWalk.i64_in ((q : Int) + 4) (by omega)
  have i3 := Go.IntWalk.i64_in ((q : Int) + 4 - p) (by omega)
  obtain ⟨r, hr, er, es⟩ := rem4 (a := (q : Int) + p) (by omega)
  obtain ⟨r', hr', er', es'⟩ := rem4 (a := (q : Int) + 4 - p) (by omega)
  have i4 := Go.IntWalk.i64_in ((r : Int) + 4) (by omega)
  have i5 := Go.IntWalk.i64_in ((r' : Int) + 4) (by omega)
  have hc : compO a b = if 4 ≤ b then (r' : Int) + (if 4 ≤ a then 0 else 4) else (r : Int) + (if 4 ≤ a then 4 else 0) := by
    unfold compO
    rw [eq, ep, er, er']
  rw [hc]
  clear hc er er' ep eq
  by_cases h4b : b ≥ 4 <;> by_cases h4a : a ≥ 4
  all_goals
    go_enter Tryz.func86, Tryz.ntmps86
    go_wp2
    go_ret
    refine ⟨?_, rfl⟩
    first | rfl | (congr 2; done) | (congr 2; omega) | (congr 2; split <;> split <;> omega)
set_option maxHeartbeats 1600000 in
set_option maxRecDepth 100000 in
/-- compose. -/
theorem compose_any (a b : Tf) (ha : a.small) (hb : b.small) (w : World) : Calls Tryz.prog 76 #[a.val, b.val] w fun e w' => e = .returned (compT a b).val ∧ Below w.heap.size w w' := by
  have Hm := Lib.hid (fun W : World => move_any b a.x a.y hb ha.2 W)
  have Hc := Lib.hid (fun W : World => composed_any a.o b.o ha.1 hb.1 W)
  obtain ⟨o, x, y⟩ := a
  obtain ⟨bo, bx, bY⟩ := b
  obtain ⟨ho, hx, hy⟩ := ha
  unfold Tf.val at Hm ⊢
  unfold compT
  dsimp only at ho hx hy Hm Hc ⊢
  obtain ⟨X, hX⟩ : ∃ X, X = moveX ⟨bo, bx, bY⟩ x y := ⟨_, rfl⟩
  obtain ⟨Y, hY⟩ : ∃ Y, Y = moveY ⟨bo, bx, bY⟩ x y := ⟨_, rfl⟩
  obtain ⟨C, hC⟩ : ∃ C, C = compO o bo := ⟨_, rfl⟩
  rw [← hX, ← hY] at Hm
  rw [← hC] at Hc
  rw [← hX, ← hY, ← hC]
  clear hX hY hC
  have z0 := ((Bk.new w 72 #[.int .i64 o, .int .i64 x, .int .i64 y]).alloc (.cells #[.int .i64 bo, .int .i64 bx, .int .i64 bY] 72)).alloc (.cells #[.int .i64 0, .int .i64 0, .int .i64 0] 72)
  have z1 := (Bk.new (w.alloc (.cells #[.int .i64 o, .int .i64 x, .int .i64 y] 72)) 72 #[.int .i64 bo, .int .i64 bx, .int .i64 bY]).alloc (.cells #[.int .i64 0, .int .i64 0, .int .i64 0] 72)
  have z2 := Bk.new ((w.alloc (.cells #[.int .i64 o, .int .i64 x, .int .i64 y] 72)).alloc (.cells #[.int .i64 bo, .int .i64 bx, .int .i64 bY] 72)) 72 #[.int .i64 0, .int .i64 0, .int .i64 0]
  have e1 : (w.alloc (.cells #[.int .i64 o, .int .i64 x, .int .i64 y] 72)).heap.size = w.heap.size + 1 := by simp
  have e2 : ((w.alloc (.cells #[.int .i64 o, .int .i64 x, .int .i64 y] 72)).alloc (.cells #[.int .i64 bo, .int .i64 bx, .int .i64 bY] 72)).heap.size = w.heap.size + 1 + 1 := by simp
  rw [e1] at z1
  rw [e2] at z2
  have tw := (((Below.refl w.heap.size w).alloc (Nat.le_refl _) (.cells #[.int .i64 o, .int .i64 x, .int .i64 y] 72)).alloc (by simp) (.cells #[.int .i64 bo, .int .i64 bx, .int .i64 bY] 72)).alloc (by rw [e2]; omega) (.cells #[.int .i64 0, .int .i64 0, .int .i64 0] 72)
  clear e1 e2
  go_enter Tryz.func76, Tryz.ntmps76
  go_upto_region 1 with fail
  obtain ⟨W, hW⟩ : ∃ W, W = ((w.alloc (.cells #[.int .i64 o, .int .i64 x, .int .i64 y] 72)).alloc (.cells #[.int .i64 bo, .int .i64 bx, .int .i64 bY] 72)).alloc (.cells #[.int .i64 0, .int .i64 0, .int .i64 0] 72) := ⟨_, rfl⟩
  rw [← hW] at z0 z1 z2 tw ⊢
  clear hW
  obtain ⟨c0, c1, c2⟩ := box3 z0
  obtain ⟨d0, d1, d2⟩ := box3 z1
  go_upto_region 2 with (go_at_call 73; (with_reducible refine (Hm.out _).mono ?_); rintro e w1 ⟨rfl, hb1⟩)
  have y0 := (z0.on hb1).alloc (.cells #[.int .i64 X, .int .i64 Y] 107)
  have y1 := (z1.on hb1).alloc (.cells #[.int .i64 X, .int .i64 Y] 107)
  have y2 := (z2.on hb1).alloc (.cells #[.int .i64 X, .int .i64 Y] 107)
  have y3 := Bk.new w1 107 #[.int .i64 X, .int .i64 Y]
  have ty := (tw.trans (hb1.mono tw.size)).alloc (Nat.le_trans tw.size hb1.size) (.cells #[.int .i64 X, .int .i64 Y] 107)
  obtain ⟨W2, hW2⟩ : ∃ W, W = w1.alloc (.cells #[.int .i64 X, .int .i64 Y] 107) := ⟨_, rfl⟩
  rw [← hW2] at y0 y1 y2 y3 ty ⊢
  have hne0 : w.heap.size ≠ w.heap.size + 1 + 1 := by omega
  have hne1 : w.heap.size + 1 ≠ w.heap.size + 1 + 1 := by omega
  have hne3 : w1.heap.size ≠ w.heap.size + 1 + 1 := by have := z2.lt; have := hb1.size; omega
  clear hW2 z0 z1 z2 tw hb1
  have x0 := y0.drew
  have x1 := y1.drew
  have x2 := y2.drew
  have x3 := y3.drew
  have tx := ty.drew
  have f0 := x2.frozen 0
  have f1 := x2.frozen 1
  have f2 := x2.frozen 2
  obtain ⟨i0, i1, i2⟩ := box3 x2
  clear y0 y1 y2 y3 ty c0 c1 c2 d0 d1 d2
  obtain ⟨c0, -, -⟩ := box3 x0
  obtain ⟨d0, -, -⟩ := box3 x1
  obtain ⟨p0, p1⟩ := box2 x3
  go_region_held3 (fun w' => w'.cell? ⟨w.heap.size, 0, none⟩ = some (.int .i64 o) ∧ w'.cell? ⟨w.heap.size + 1, 0, none⟩ = some (.int .i64 bo) ∧ w'.cell? ⟨w1.heap.size, 0, none⟩ = some (.int .i64 X) ∧ w'.cell? ⟨w1.heap.size, 1, none⟩ = some (.int .i64 Y)) (first | exact ⟨c0, d0, p0, p1⟩ | exact ⟨C0, D0, P0, P1⟩ | exact ⟨E0, F0, G0, G1⟩)
    ((go_at_call 86; (with_reducible refine (Hc.out _).mono ?_); rintro e w3 ⟨rfl, hw3⟩; have hb3 := below_eq hw3; clear hw3; have C0 := (x0.on hb3).cell 0; have E0 := ((((x0.on hb3).other (p := ⟨w.heap.size + 1 + 1, 0, none⟩) hne0 (.int .i64 C)).other (p := ⟨w.heap.size + 1 + 1, 1, none⟩) hne0 (.int .i64 X)).other (p := ⟨w.heap.size + 1 + 1, 2, none⟩) hne0 (.int .i64 Y)).cell 0; have F0 := ((((x1.on hb3).other (p := ⟨w.heap.size + 1 + 1, 0, none⟩) hne1 (.int .i64 C)).other (p := ⟨w.heap.size + 1 + 1, 1, none⟩) hne1 (.int .i64 X)).other (p := ⟨w.heap.size + 1 + 1, 2, none⟩) hne1 (.int .i64 Y)).cell 0; have x7 := (((x3.on hb3).other (p := ⟨w.heap.size + 1 + 1, 0, none⟩) hne3 (.int .i64 C)).other (p := ⟨w.heap.size + 1 + 1, 1, none⟩) hne3 (.int .i64 X)).other (p := ⟨w.heap.size + 1 + 1, 2, none⟩) hne3 (.int .i64 Y); have G0 := x7.cell 0; have G1 := x7.cell 1;  have D0 := (x1.on hb3).cell 0; have P0 := (x3.on hb3).cell 0; have P1 := (x3.on hb3).cell 1; have x9 := x2.on hb3; have f0 := x9.frozen 0; have f1 := x9.frozen 1; have f2 := x9.frozen 2; obtain ⟨i0, i1, i2⟩ := box3 x9; have tz := tx.trans (hb3.mono tx.size)))
  have tf := ((tz.setCell (p := ⟨w.heap.size + 1 + 1, 0, none⟩) (by simp; omega) (.int .i64 C)).setCell (p := ⟨w.heap.size + 1 + 1, 1, none⟩) (by simp; omega) (.int .i64 X)).setCell (p := ⟨w.heap.size + 1 + 1, 2, none⟩) (by simp; omega) (.int .i64 Y)
  have xf := ((x9.store 0 (.int .i64 C)).store 1 (.int .i64 X)).store 2 (.int .i64 Y)
  have q0 := xf.cell 0
  have q1 := xf.cell 1
  have q2 := xf.cell 2
  simp at q0 q1 q2
  clear xf x9 x7 x0 x1 x2 x3 E0 F0 G0 G1 C0 D0 P0 P1 f0 f1 f2 i0 i1 i2 hb3 tz c0 d0 p0 p1
  go_wp2
  refine bodyPost_ret (v := .agg #[.int .i64 C, .int .i64 X, .int .i64 Y]) (by simp [results, Tryz.results76, go_sem, *]) rfl ?_
  exact ⟨rfl, tf⟩

end Go.Proofs.YtgegbgkokkdmpaaGreat

namespace Go.Proofs.YtgegbgkokkdmpaaGreat
open Go.RowKit

/-- The elements before that of row r and column c of instance n. -/
def elsAt (is : List InstD) (n : Nat) (i : InstD) (r c : Nat) : List (Int × Tf) := elsTo is n ++ insEl i r ++ rowEl i r c
theorem elsAt_row {is : List InstD} {n : Nat} {i : InstD} {r c : Nat} (hc : c = i.cols.toNat) : elsAt is n i r c = elsAt is n i (r + 1) 0 := by
  unfold elsAt
  rw [insEl_succ, hc, show rowEl i (r + 1) 0 = [] from rfl, List.append_nil, List.append_assoc]
theorem elsAt_ins {is : List InstD} {n : Nat} {i : InstD} {r : Nat} (h : is[n]? = some i) (hr : r = i.rows.toNat) : elsAt is n i r 0 = elsTo is (n + 1) := by
  unfold elsAt
  rw [elsTo_succ h, hr, show rowEl i i.rows.toNat 0 = [] from rfl, List.append_nil]
theorem elsAt_zero (is : List InstD) (n : Nat) (i : InstD) : elsAt is n i 0 0 = elsTo is n := by
  unfold elsAt
  rw [show rowEl i 0 0 = [] from rfl, show insEl i 0 = [] from rfl, List.append_nil, List.append_nil]
theorem elsAt_col (is : List InstD) (n : Nat) (i : InstD) (r c : Nat) : elsAt is n i r (c + 1) = elsAt is n i r c ++ [(i.cell, elT i c r)] := by
  unfold elsAt
  rw [rowEl_succ, List.append_assoc, List.append_assoc, List.append_assoc]
theorem elsAt_len {is : List InstD} {k : Int} (h : ∀ i ∈ is, instB i k = true) (h8 : is.length ≤ 8) {n : Nat} {i : InstD} (hn : is[n]? = some i) {r c : Nat} (hr : r ≤ i.rows.toNat) (hc : c ≤ i.cols.toNat) : (elsAt is n i r c).length ≤ 1000 := by
  have hlt := (List.getElem?_eq_some_iff.1 hn).1
  have h1 := elsTo_len h n (Nat.le_of_lt hlt)
  have hi := inst_facts (h i (List.mem_of_getElem? hn))
  have h2 : r * i.cols.toNat ≤ 4 * 4 := Nat.mul_le_mul (by omega) (by omega)
  unfold elsAt
  rw [List.length_append, List.length_append, insEl_len, rowEl_len]
  omega

/-- The instance k, in memory. -/
theorem InL.elem8 {w : World} {B : Nat} {A : Option Addr} {m c k : Nat} {xs : List InstD} (h : InL w B (.slice A m c) xs) (hk : k < xs.length) : ∃ g cl o x y cols rows sx sy, A = some ⟨g, 0, none⟩ ∧ xs[k]? = some ⟨cl, o, x, y, cols, rows, sx, sy⟩ ∧ g < w.heap.size ∧
    w.cell? ⟨g, k * 8, none⟩ = some (.int .i64 cl) ∧ w.cell? ⟨g, k * 8 + 1, none⟩ = some (.int .i64 o) ∧ w.cell? ⟨g, k * 8 + 2, none⟩ = some (.int .i64 x) ∧ w.cell? ⟨g, k * 8 + 3, none⟩ = some (.int .i64 y) ∧ w.cell? ⟨g, k * 8 + 4, none⟩ = some (.int .i64 cols) ∧ w.cell? ⟨g, k * 8 + 5, none⟩ = some (.int .i64 rows) ∧ w.cell? ⟨g, k * 8 + 6, none⟩ = some (.int .i64 sx) ∧ w.cell? ⟨g, k * 8 + 7, none⟩ = some (.int .i64 sy) := by
  obtain ⟨g, ⟨cl, o, x, y, cols, rows, sx, sy⟩, hA, hp, -, hg, hc⟩ := FL.elem InstD.len h hk
  exact ⟨g, cl, o, x, y, cols, rows, sx, sy, hA, hp, hg, hc 0 _ rfl, hc 1 _ rfl, hc 2 _ rfl, hc 3 _ rfl, hc 4 _ rfl, hc 5 _ rfl, hc 6 _ rfl, hc 7 _ rfl⟩

set_option maxHeartbeats 3200000 in
set_option maxRecDepth 100000 in
/-- elements. -/
theorem elements_any (nm : ByteArray) (A1 A2 A3 : Option Addr) (n1 c1 n2 c2 c3 : Nat) (is : List InstD) (kk : Int) (w : World) (hI : InL w 0 (.slice A3 is.length c3) is) (h8 : is.length ≤ 8) (hv : ∀ i ∈ is, instB i kk = true) :
    Calls Tryz.prog 36 #[.agg #[.string nm, .slice A1 n1 c1, .slice A2 n2 c2, .slice A3 is.length c3]] w fun e w' => ∃ v, e = .returned v ∧ ElL w' w.heap.size v (elsTo is is.length) ∧ Below w.heap.size w w' := by
  have b1 := ((Below.refl w.heap.size w).alloc (Nat.le_refl _) (.cells #[.string nm, .slice A1 n1 c1, .slice A2 n2 c2, .slice A3 is.length c3] 67)).alloc (by simp) (.cells #[] 114)
  have l1 : ElL _ w.heap.size _ [] := FL.lit9 (t := 114) (n := 4) (enc := elV) (w.alloc (.cells #[.string nm, .slice A1 n1 c1, .slice A2 n2 c2, .slice A3 is.length c3] 67)) (B := w.heap.size) (by simp)
  have e1 : (w.alloc (.cells #[.string nm, .slice A1 n1 c1, .slice A2 n2 c2, .slice A3 is.length c3] 67)).heap.size = w.heap.size + 1 := by simp
  rw [e1] at l1
  have HI := Lib.hid hI
  have HV := Lib.hid hv
  clear hI hv e1
  go_enter Tryz.func36, Tryz.ntmps36
  go_wp2
  go_loopw [3, 12] (fun lv iv wr => ∃ n : Nat, n ≤ is.length ∧ iv = .int .i64 n ∧ ElL wr w.heap.size lv (elsTo is n) ∧ Below w.heap.size w wr) (fun _ iv _ => is.length - (intOf iv).toNat)
  case atStart => exact ⟨0, Nat.zero_le _, rfl, by rw [show elsTo is 0 = [] by simp [elsTo]]; exact l1, b1⟩
  case round =>
    obtain ⟨wo, hwo⟩ : ∃ wo, wo = wr := ⟨_, rfl⟩
    subst hwo
    obtain ⟨n, hn, rfl, hL, hb⟩ := hrel
    clear l1 b1
    by_cases hlt : n < is.length
    · obtain ⟨g, cl, o, x, y, cols, rows, sx, sy, rfl, hx, hg, a0, a1, a2, a3, a4, a5, a6, a7⟩ := InL.elem8 (FL.on HI.out hb) hlt
      obtain ⟨i, HI0⟩ : ∃ i, Hid (i = (⟨cl, o, x, y, cols, rows, sx, sy⟩ : InstD)) := ⟨_, Lib.hid rfl⟩
      have Hi := Lib.hid (inst_facts (HV.out _ (List.mem_of_getElem? hx)))
      have Hlen := Lib.hid (fun r c => elsAt_len HV.out h8 hx (r := r) (c := c))
      dsimp only at Hi
      rw [← HI0.out] at hx Hlen
      have Hx := Lib.hid hx
      have z2 := Bk.new wo 74 #[.int .i64 cl, .int .i64 o, .int .i64 x, .int .i64 y, .int .i64 cols, .int .i64 rows, .int .i64 sx, .int .i64 sy]
      have l2 := hL.on ((Below.refl _ _).alloc (Nat.le_refl _) (.cells #[.int .i64 cl, .int .i64 o, .int .i64 x, .int .i64 y, .int .i64 cols, .int .i64 rows, .int .i64 sx, .int .i64 sy] 74))
      have b2 := hb.alloc hb.size (.cells #[.int .i64 cl, .int .i64 o, .int .i64 x, .int .i64 y, .int .i64 cols, .int .i64 rows, .int .i64 sx, .int .i64 sy] 74)
      obtain ⟨q0, q1, q2, q3, q4, q5, q6, q7⟩ := box8 z2
      clear hx
      go_wp2
      clear a0 a1 a2 a3 a4 a5 a6 a7
      generalize hw2 : wo.alloc (.cells #[.int .i64 cl, .int .i64 o, .int .i64 x, .int .i64 y, .int .i64 cols, .int .i64 rows, .int .i64 sx, .int .i64 sy] 74) = w2 at *
      clear hw2 q0 q1 q2 q3 q4 q5 q6 q7
      go_loopw [3, 18] (fun lv rv wm => ∃ r : Nat, r ≤ rows.toNat ∧ rv = .int .i64 r ∧ ElL wm w.heap.size lv (elsAt is n i r 0) ∧ Bk wm wo.heap.size 74 #[.int .i64 cl, .int .i64 o, .int .i64 x, .int .i64 y, .int .i64 cols, .int .i64 rows, .int .i64 sx, .int .i64 sy] ∧ Below w.heap.size w wm) (fun _ rv _ => rows.toNat - (intOf rv).toNat)
      case atStart => exact ⟨0, Nat.zero_le _, rfl, by rw [elsAt_zero]; exact l2, z2, b2⟩
      case round =>
        obtain ⟨wp, hwp⟩ : ∃ wp, wp = wr := ⟨_, rfl⟩
        subst hwp
        obtain ⟨r, hr, rfl, hL, hz, hb⟩ := hrel
        clear l2 z2 b2
        have hf := Hi.out
        by_cases hrl : r < rows.toNat
        · have hrz : (r : Int) < rows := by omega
          obtain ⟨q0, q1, q2, q3, q4, q5, q6, q7⟩ := box8 hz
          clear hf
          go_wp2
          clear q0 q1 q2 q3 q4 q5 q6 q7
          go_loopw [3, 23] (fun lv cv wm => ∃ c : Nat, c ≤ cols.toNat ∧ cv = .int .i64 c ∧ ElL wm w.heap.size lv (elsAt is n i r c) ∧ Bk wm wo.heap.size 74 #[.int .i64 cl, .int .i64 o, .int .i64 x, .int .i64 y, .int .i64 cols, .int .i64 rows, .int .i64 sx, .int .i64 sy] ∧ Below w.heap.size w wm) (fun _ cv _ => cols.toNat - (intOf cv).toNat)
          case atStart => exact ⟨0, Nat.zero_le _, rfl, hL, hz, hb⟩
          case round =>
            obtain ⟨wq, hwq⟩ : ∃ wq, wq = wr := ⟨_, rfl⟩
            subst hwq
            obtain ⟨c, hc, rfl, hL, hz, hb⟩ := hrel
            have hf := Hi.out
            by_cases hcl : c < cols.toNat
            · have hcz : (c : Int) < cols := by omega
              have hlen : (elsAt is n i r c).length ≤ 1000000 := Nat.le_trans (Hlen.out r c (by rw [HI0.out]; exact hr) (by rw [HI0.out]; exact hc)) (by omega)
              obtain ⟨xs, Hxs⟩ : ∃ xs, Hid (xs = elsAt is n i r c) := ⟨_, Lib.hid rfl⟩
              rw [← Hxs.out] at hL hlen
              obtain ⟨AL, cL, e1, -, -⟩ := hL.form
              subst e1
              have hc4 : c ≤ 4 ∧ r ≤ 4 := by omega
              have Hc4 := Lib.hid hc4
              have HL := Lib.hid hL.drew
              have HZ := Lib.hid hz.drew
              have HB := Lib.hid hb.drew
              obtain ⟨q0, q1, q2, q3, q4, q5, q6, q7⟩ := box8 HZ.out
              clear hL hz hb hf
              have P := Lib.hid (fun W => place_any cl o x y cols rows sx sy c r W Hc4.out.1 Hc4.out.2 Hi.out.2.1.2.1 Hi.out.2.1.2.2 Hi.out.2.2.2.2.1 Hi.out.2.2.2.2.2)
              go_upto_region 11 with fail
              go_region_law (first
                | (go_simp; go_at_call 60; ((with_reducible refine (P.out _).mono ?_); rintro e w6 ⟨rfl, hb6⟩; have L6 := Lib.hid (HL.out.on hb6); have Z6 := Lib.hid (HZ.out.on hb6); have B6 := Lib.hid (HB.out.trans (hb6.mono HB.out.size)); clear hb6; obtain ⟨p0, p1, p2, p3, p4, p5, p6, p7⟩ := box8 Z6.out; (try dsimp only)))
                | (refine step_append_F (t := 114) (n := 4) (enc := elV) rfl (.tmp 26) (.tmp 34) 89 32 _ infoEl Tryz.underlying89 rfl (by decide) (by decide) rfl w.heap.size (.slice AL xs.length cL) xs (cl, ⟨o, x + c * sx, y + r * sy⟩) rfl (L6.out.alloc _) rfl (elV_one _) w6.heap.size rfl (Bk.new w6 _ _) hlen (by have := B6.out.size; simp; omega) ?_; intro v' w7 k1 k2 k3; have Z7 := Lib.hid ((Z6.out.alloc (.cells #[.int .i64 cl, .int .i64 o, .int .i64 (x + c * sx), .int .i64 (y + r * sy)] 114)).grown k2 (not_row (L6.out.alloc (.cells #[.int .i64 cl, .int .i64 o, .int .i64 (x + c * sx), .int .i64 (y + r * sy)] 114)) (Z6.out.alloc _) (by decide))); have B7 := Lib.hid ((B6.out.alloc B6.out.size (.cells #[.int .i64 cl, .int .i64 o, .int .i64 (x + c * sx), .int .i64 (y + r * sy)] 114)).grown k2 (Nat.le_trans B6.out.size (by simp)) (fun q hq => (World.ownsRow.lt L6.out _ hq).1)); have L7 := Lib.hid k1; clear k1 k2 k3))
              all_goals
                go_wp2
                exact ⟨⟨c + 1, by omega, by go_num, by rw [elsAt_col, ← Hxs.out, HI0.out]; exact L7.out, Z7.out, B7.out⟩, by simp [intOf]; omega⟩
            · go_wp2
              exact ⟨⟨r + 1, by omega, by go_num, by rw [← elsAt_row (show c = i.cols.toNat by rw [HI0.out]; dsimp only; omega)]; exact hL, hz, hb⟩, by simp [intOf]; omega⟩
        · obtain ⟨q0, q1, q2, q3, q4, q5, q6, q7⟩ := box8 hz
          go_wp2
          exact ⟨⟨n + 1, by omega, by go_num, by rw [← elsAt_ins Hx.out (show r = i.rows.toNat by rw [HI0.out]; dsimp only; omega)]; exact hL, hb⟩, by simp [intOf]; omega⟩
    · go_wp2
      go_ret
      obtain rfl : n = is.length := by omega
      exact ⟨_, rfl, hL, hb⟩

end Go.Proofs.YtgegbgkokkdmpaaGreat
