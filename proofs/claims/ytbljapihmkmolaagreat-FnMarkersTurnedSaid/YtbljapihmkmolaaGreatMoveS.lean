/- Contracts: the reference's transforms: IsValidTransform, l01Turn, l01Move, l02Move, l03Moved, MoveRegion. Conditions: of the turns, an orientation in range and coordinates of at most 1000. -/
import Derived.Test.YtbljapihmkmolaaGreatTurn2
import Derived.Test.YtbljapihmkmolaaGreatDrawK
import Derived.Test.YtbljapihmkmolaaGreatThruA
import Derived.Deep.RegionHeld3
namespace Go.Proofs.YtbljapihmkmolaaGreat
open Go.RowKit

def rotX : Nat → Int → Int → Int
  | 0, x, _ => x
  | k + 1, x, y => rotX k (-y) x
def rotY : Nat → Int → Int → Int
  | 0, _, y => y
  | k + 1, x, y => rotY k (-y) x
theorem rot_turn {o : Int} (h : 0 ≤ o ∧ o ≤ 7) (x y : Int) : ∃ m : Nat, m ≤ 3 ∧ o % 4 = (m : Int) ∧ o.tmod 4 = (m : Int) ∧ ((4 ≤ o ∧ rotX m x (-y) = turnX o x y ∧ rotY m x (-y) = turnY o x y) ∨ (o < 4 ∧ rotX m x y = turnX o x y ∧ rotY m x y = turnY o x y)) := by
  rcases eight h with rfl | rfl | rfl | rfl | rfl | rfl | rfl | rfl
  · exact ⟨0, by decide, by decide, by decide, .inr ⟨by decide, rfl, rfl⟩⟩
  · exact ⟨1, by decide, by decide, by decide, .inr ⟨by decide, rfl, rfl⟩⟩
  · exact ⟨2, by decide, by decide, by decide, .inr ⟨by decide, rfl, rfl⟩⟩
  · exact ⟨3, by decide, by decide, by decide, .inr ⟨by decide, by simp [rotX, turnX], rfl⟩⟩
  · exact ⟨0, by decide, by decide, by decide, .inl ⟨by decide, rfl, rfl⟩⟩
  · exact ⟨1, by decide, by decide, by decide, .inl ⟨by decide, by simp [rotX, turnX], rfl⟩⟩
  · exact ⟨2, by decide, by decide, by decide, .inl ⟨by decide, rfl, by simp [rotY, turnY]⟩⟩
  · exact ⟨3, by decide, by decide, by decide, .inl ⟨by decide, by simp [rotX, turnX], by simp [rotY, turnY]⟩⟩
theorem turn_bounds {o x y : Int} (h : (-1000 ≤ x ∧ x ≤ 1000) ∧ (-1000 ≤ y ∧ y ≤ 1000)) : (-1000 ≤ turnX o x y ∧ turnX o x y ≤ 1000) ∧ (-1000 ≤ turnY o x y ∧ turnY o x y ≤ 1000) := by
  unfold turnX turnY
  constructor <;> (repeat' split) <;> omega

set_option maxHeartbeats 1600000 in
set_option maxRecDepth 100000 in
theorem l01Turn_any (o x y : Int) (ho : 0 ≤ o ∧ o ≤ 7) (hb : (-1000 ≤ x ∧ x ≤ 1000) ∧ (-1000 ≤ y ∧ y ≤ 1000)) (w : World) : Calls Tryz.prog 201 #[.int .i64 o, .agg #[.int .i64 x, .int .i64 y]] w fun e w' => e = .returned (.agg #[.int .i64 (turnX o x y), .int .i64 (turnY o x y)]) ∧ Below w.heap.size w w' := by
  obtain ⟨m, hm3, hm, hmt, hrot⟩ := rot_turn ho x y
  have Hrot := Lib.hid hrot
  have z0 := (Bk.new w 175 #[.int .i64 x, .int .i64 y]).alloc (.cells #[.int .i64 0, .int .i64 0] 175)
  have z1 := Bk.new (w.alloc (.cells #[.int .i64 x, .int .i64 y] 175)) 175 #[.int .i64 0, .int .i64 0]
  have ez : (w.alloc (.cells #[.int .i64 x, .int .i64 y] 175)).heap.size = w.heap.size + 1 := by simp
  rw [ez] at z1
  have tw := ((Below.refl w.heap.size w).alloc (Nat.le_refl _) (.cells #[.int .i64 x, .int .i64 y] 175)).alloc (by first | (simp; done) | (rw [e2]; omega)) (.cells #[.int .i64 0, .int .i64 0] 175)
  obtain ⟨c0, c1⟩ := box2 z0
  clear hrot ez
  go_enter Tryz.func201, Tryz.ntmps201
  go_wp2
  go_quiet (fail)
  have z1' := z1.drewN nq
  have tw' := below_drewN tw nq
  obtain ⟨d0, d1⟩ := box2 z1'
  have f0 := z1'.frozen 0
  have f1 := z1'.frozen 1
  clear z0 z1 tw c0 c1 z1'
  generalize (((w.alloc (.cells #[.int .i64 x, .int .i64 y] 175)).alloc (.cells #[.int .i64 0, .int .i64 0] 175)).drewN nq) = W at *
  rcases Hrot.out with ⟨h4, hx, hy⟩ | ⟨h4, hx, hy⟩
  · have Hx := Lib.hid hx
    have Hy := Lib.hid hy
    have h4' : o ≥ 4 := h4
    have ey := Go.IntWalk.i64_in (-y) (by omega)
    clear hx hy
    go_wp2
    go_loop [5, 6, 7] (fun xv yv kv => ∃ (k : Nat) (a b : Int), k ≤ 3 ∧ kv = .int .i64 k ∧ xv = .int .i64 a ∧ yv = .int .i64 b ∧ ((-1000 ≤ a ∧ a ≤ 1000) ∧ (-1000 ≤ b ∧ b ≤ 1000)) ∧ rotX k a b = turnX o x y ∧ rotY k a b = turnY o x y) (fun _ _ kv => (intOf kv).toNat)
    case atStart => exact ⟨m, x, -y, hm3, rfl, rfl, rfl, by omega, Hx.out, Hy.out⟩
    case round =>
      obtain ⟨k, a, b, hk, rfl, rfl, rfl, hab, hX, hY⟩ := hrel
      have HX := Lib.hid hX
      have HY := Lib.hid hY
      clear hX hY Hx Hy
      by_cases hk0 : k = 0
      · subst hk0
        have hz : ¬ ((0 : Nat) : Int) > 0 := by omega
        have eX : a = turnX o x y := HX.out
        have eY : b = turnY o x y := HY.out
        have EX := Lib.hid eX
        have EY := Lib.hid eY
        clear eX eY
        go_wp2
        refine bodyPost_ret (v := .agg #[.int .i64 a, .int .i64 b]) (by simp [results, Tryz.results201, go_sem, *]) rfl ?_
        exact ⟨by rw [EX.out, EY.out], (tw'.setCell (p := ⟨w.heap.size + 1, 0, none⟩) (by simp) _).setCell (p := ⟨w.heap.size + 1, 1, none⟩) (by simp) _⟩
      · obtain ⟨j, rfl⟩ : ∃ j, k = j + 1 := ⟨k - 1, by omega⟩
        have hz : ((j + 1 : Nat) : Int) > 0 := by omega
        have en := Go.IntWalk.i64_in (-b) (by omega)
        have ek := Go.IntWalk.i64_in (((j + 1 : Nat) : Int) - 1) (by omega)
        go_wp2
        exact ⟨⟨j, -b, a, by omega, by first | rfl | go_num | (congr 1; omega), rfl, rfl, by omega, HX.out, HY.out⟩, by simp [intOf]⟩
  · have Hx := Lib.hid hx
    have Hy := Lib.hid hy
    have h4' : ¬ o ≥ 4 := by omega
    clear hx hy
    go_wp2
    go_loop [5, 6, 7] (fun xv yv kv => ∃ (k : Nat) (a b : Int), k ≤ 3 ∧ kv = .int .i64 k ∧ xv = .int .i64 a ∧ yv = .int .i64 b ∧ ((-1000 ≤ a ∧ a ≤ 1000) ∧ (-1000 ≤ b ∧ b ≤ 1000)) ∧ rotX k a b = turnX o x y ∧ rotY k a b = turnY o x y) (fun _ _ kv => (intOf kv).toNat)
    case atStart => exact ⟨m, x, y, hm3, rfl, rfl, rfl, by omega, Hx.out, Hy.out⟩
    case round =>
      obtain ⟨k, a, b, hk, rfl, rfl, rfl, hab, hX, hY⟩ := hrel
      have HX := Lib.hid hX
      have HY := Lib.hid hY
      clear hX hY Hx Hy
      by_cases hk0 : k = 0
      · subst hk0
        have hz : ¬ ((0 : Nat) : Int) > 0 := by omega
        have eX : a = turnX o x y := HX.out
        have eY : b = turnY o x y := HY.out
        have EX := Lib.hid eX
        have EY := Lib.hid eY
        clear eX eY
        go_wp2
        refine bodyPost_ret (v := .agg #[.int .i64 a, .int .i64 b]) (by simp [results, Tryz.results201, go_sem, *]) rfl ?_
        exact ⟨by rw [EX.out, EY.out], (tw'.setCell (p := ⟨w.heap.size + 1, 0, none⟩) (by simp) _).setCell (p := ⟨w.heap.size + 1, 1, none⟩) (by simp) _⟩
      · obtain ⟨j, rfl⟩ : ∃ j, k = j + 1 := ⟨k - 1, by omega⟩
        have hz : ((j + 1 : Nat) : Int) > 0 := by omega
        have en := Go.IntWalk.i64_in (-b) (by omega)
        have ek := Go.IntWalk.i64_in (((j + 1 : Nat) : Int) - 1) (by omega)
        go_wp2
        exact ⟨⟨j, -b, a, by omega, by first | rfl | go_num | (congr 1; omega), rfl, rfl, by omega, HX.out, HY.out⟩, by simp [intOf]⟩

def Tf.val (t : Tf) : Value := .agg #[.int .i64 t.o, .int .i64 t.x, .int .i64 t.y]
def Tf.small (t : Tf) : Prop := (0 ≤ t.o ∧ t.o ≤ 7) ∧ (-1000 ≤ t.x ∧ t.x ≤ 1000) ∧ (-1000 ≤ t.y ∧ t.y ≤ 1000)
theorem validT_small {t : Tf} (h : validT t = true) : t.small := by
  have := (validT_iff t).1 h
  unfold Tf.small
  omega

set_option maxHeartbeats 1600000 in
set_option maxRecDepth 100000 in
theorem l01Move_any (t : Tf) (x y : Int) (ht : t.small) (hb : (-1000 ≤ x ∧ x ≤ 1000) ∧ (-1000 ≤ y ∧ y ≤ 1000)) (w : World) : Calls Tryz.prog 179 #[t.val, .agg #[.int .i64 x, .int .i64 y]] w fun e w' => e = .returned (.agg #[.int .i64 (moveX t x y), .int .i64 (moveY t x y)]) ∧ Below w.heap.size w w' := by
  obtain ⟨o, tx, ty⟩ := t
  obtain ⟨ho, hx, hy⟩ := ht
  have htb := turn_bounds (o := o) hb
  unfold Tf.val moveX moveY
  dsimp only at ho hx hy ⊢
  have z0 := ((Bk.new w 67 #[.int .i64 o, .int .i64 tx, .int .i64 ty]).alloc (.cells #[.int .i64 x, .int .i64 y] 175)).alloc (.cells #[.int .i64 0, .int .i64 0] 175)
  have z1 := (Bk.new (w.alloc (.cells #[.int .i64 o, .int .i64 tx, .int .i64 ty] 67)) 175 #[.int .i64 x, .int .i64 y]).alloc (.cells #[.int .i64 0, .int .i64 0] 175)
  have z2 := Bk.new ((w.alloc (.cells #[.int .i64 o, .int .i64 tx, .int .i64 ty] 67)).alloc (.cells #[.int .i64 x, .int .i64 y] 175)) 175 #[.int .i64 0, .int .i64 0]
  have e1 : (w.alloc (.cells #[.int .i64 o, .int .i64 tx, .int .i64 ty] 67)).heap.size = w.heap.size + 1 := by simp
  have e2 : ((w.alloc (.cells #[.int .i64 o, .int .i64 tx, .int .i64 ty] 67)).alloc (.cells #[.int .i64 x, .int .i64 y] 175)).heap.size = w.heap.size + 1 + 1 := by simp
  rw [e1] at z1
  rw [e2] at z2
  have tw := (((Below.refl w.heap.size w).alloc (Nat.le_refl _) (.cells #[.int .i64 o, .int .i64 tx, .int .i64 ty] 67)).alloc (by simp) (.cells #[.int .i64 x, .int .i64 y] 175)).alloc (by first | (simp; done) | (rw [e2]; omega)) (.cells #[.int .i64 0, .int .i64 0] 175)
  obtain ⟨c0, c1, c2⟩ := box3 z0
  obtain ⟨d0, d1⟩ := box2 z1
  clear e1 e2
  go_enter Tryz.func179, Tryz.ntmps179
  go_wp2_with fail
  refine (l01Turn_any o x y ho hb _).mono ?_
  rintro e w1 ⟨rfl, hb1⟩
  replace z0 := z0.on hb1
  replace z2 := z2.on hb1
  replace hb1 := tw.trans (hb1.mono tw.size)
  clear z1 tw c0 c1 c2 d0 d1
  generalize hX : turnX o x y = X at *
  generalize hY : turnY o x y = Y at *
  have HX := Lib.hid hX
  have HY := Lib.hid hY
  clear hX hY
  have ex := Go.IntWalk.i64_in (X + tx) (by omega)
  have ey := Go.IntWalk.i64_in (Y + ty) (by omega)
  have z3 := Bk.new w1 175 #[.int .i64 X, .int .i64 Y]
  have z0' := z0.alloc (.cells #[.int .i64 X, .int .i64 Y] 175)
  have z2' := z2.alloc (.cells #[.int .i64 X, .int .i64 Y] 175)
  have hb1' := hb1.alloc hb1.size (.cells #[.int .i64 X, .int .i64 Y] 175)
  obtain ⟨c0, c1, c2⟩ := box3 z0'
  obtain ⟨d0, d1⟩ := box2 z2'
  obtain ⟨q0, q1⟩ := box2 z3
  have f0 := z2'.frozen 0
  have f1 := z2'.frozen 1
  have hfin := (hb1'.setCell (p := ⟨w.heap.size + 1 + 1, 0, none⟩) (by simp; omega) (.int .i64 (X + tx))).setCell (p := ⟨w.heap.size + 1 + 1, 1, none⟩) (by simp; omega) (.int .i64 (Y + ty))
  clear z0 z2 z3 z0' z2' hb1 hb1'
  go_wp2
  refine bodyPost_ret (v := .agg #[.int .i64 (X + tx), .int .i64 (Y + ty)]) (by simp [results, Tryz.results179, go_sem, *]) rfl ?_
  exact ⟨by rw [HX.out, HY.out], hfin⟩

set_option maxHeartbeats 3200000 in
set_option maxRecDepth 100000 in
theorem l02Move_any (t : Tf) (r : Rc) (ht : t.small) (hr : okRc r = true) (w : World) : Calls Tryz.prog 145 #[t.val, r.val] w fun e w' => e = .returned (.agg #[.int .i64 (moveR t r).x0, .int .i64 (moveR t r).y0, .int .i64 (moveR t r).x1, .int .i64 (moveR t r).y1]) ∧ Below w.heap.size w w' := by
  have hb := (okRc_iff r).1 hr
  obtain ⟨a, b, p, q⟩ := r
  dsimp only at hb
  have h1 : (-1000 ≤ a ∧ a ≤ 1000) ∧ (-1000 ≤ b ∧ b ≤ 1000) := by omega
  have h2 : (-1000 ≤ p ∧ p ≤ 1000) ∧ (-1000 ≤ q ∧ q ≤ 1000) := by omega
  have m1 := l01Move_any t a b ht h1
  have m2 := l01Move_any t p q ht h2
  unfold moveR Rc.val
  dsimp only
  obtain ⟨o, tx, ty⟩ := t
  unfold Tf.val at m1 m2 ⊢
  dsimp only at m1 m2 ⊢
  clear ht hr h1 h2 hb
  generalize moveX ⟨o, tx, ty⟩ a b = X at *
  generalize moveY ⟨o, tx, ty⟩ a b = Y at *
  generalize moveX ⟨o, tx, ty⟩ p q = U at *
  generalize moveY ⟨o, tx, ty⟩ p q = V at *
  have z0 := ((Bk.new w 67 #[.int .i64 o, .int .i64 tx, .int .i64 ty]).alloc (.cells #[.int .i64 a, .int .i64 b, .int .i64 p, .int .i64 q] 80)).alloc (.cells #[.int .i64 0, .int .i64 0, .int .i64 0, .int .i64 0] 80)
  have z1 := (Bk.new (w.alloc (.cells #[.int .i64 o, .int .i64 tx, .int .i64 ty] 67)) 80 #[.int .i64 a, .int .i64 b, .int .i64 p, .int .i64 q]).alloc (.cells #[.int .i64 0, .int .i64 0, .int .i64 0, .int .i64 0] 80)
  have z2 := Bk.new ((w.alloc (.cells #[.int .i64 o, .int .i64 tx, .int .i64 ty] 67)).alloc (.cells #[.int .i64 a, .int .i64 b, .int .i64 p, .int .i64 q] 80)) 80 #[.int .i64 0, .int .i64 0, .int .i64 0, .int .i64 0]
  have e1 : (w.alloc (.cells #[.int .i64 o, .int .i64 tx, .int .i64 ty] 67)).heap.size = w.heap.size + 1 := by simp
  have e2 : ((w.alloc (.cells #[.int .i64 o, .int .i64 tx, .int .i64 ty] 67)).alloc (.cells #[.int .i64 a, .int .i64 b, .int .i64 p, .int .i64 q] 80)).heap.size = w.heap.size + 1 + 1 := by simp
  rw [e1] at z1
  rw [e2] at z2
  have tw := (((Below.refl w.heap.size w).alloc (Nat.le_refl _) (.cells #[.int .i64 o, .int .i64 tx, .int .i64 ty] 67)).alloc (by simp) (.cells #[.int .i64 a, .int .i64 b, .int .i64 p, .int .i64 q] 80)).alloc (by rw [e2]; omega) (.cells #[.int .i64 0, .int .i64 0, .int .i64 0, .int .i64 0] 80)
  obtain ⟨c0, c1, c2⟩ := box3 z0
  obtain ⟨d0, d1, d2, d3⟩ := box4 z1
  clear e1 e2
  go_enter Tryz.func145, Tryz.ntmps145
  go_wp2_with fail
  refine (m1 _).mono ?_
  rintro e w1 ⟨rfl, hb1⟩
  replace z0 := (z0.on hb1).alloc (.cells #[.int .i64 X, .int .i64 Y] 175)
  replace z1 := (z1.on hb1).alloc (.cells #[.int .i64 X, .int .i64 Y] 175)
  replace z2 := (z2.on hb1).alloc (.cells #[.int .i64 X, .int .i64 Y] 175)
  have hbx := tw.trans (hb1.mono tw.size)
  replace hb1 := hbx.alloc hbx.size (.cells #[.int .i64 X, .int .i64 Y] 175)
  have z3 := Bk.new w1 175 #[.int .i64 X, .int .i64 Y]
  clear tw c0 c1 c2 d0 d1 d2 d3 hbx
  obtain ⟨c0, c1, c2⟩ := box3 z0
  obtain ⟨d0, d1, d2, d3⟩ := box4 z1
  go_wp2_with fail
  refine (m2 _).mono ?_
  rintro e w2 ⟨rfl, hb2⟩
  replace z2 := (z2.on hb2).alloc (.cells #[.int .i64 U, .int .i64 V] 175)
  replace z3 := (z3.on hb2).alloc (.cells #[.int .i64 U, .int .i64 V] 175)
  have z4 := Bk.new w2 175 #[.int .i64 U, .int .i64 V]
  have hbx := hb1.trans (hb2.mono hb1.size)
  replace hb2 := hbx.alloc hbx.size (.cells #[.int .i64 U, .int .i64 V] 175)
  clear hb1 hbx c0 c1 c2 d0 d1 d2 d3 z0 z1
  obtain ⟨c0, c1⟩ := box2 z3
  obtain ⟨d0, d1⟩ := box2 z4
  obtain ⟨q0, q1, q2, q3⟩ := box4 z2
  have f0 := z2.frozen 0
  have f1 := z2.frozen 1
  have f2 := z2.frozen 2
  have f3 := z2.frozen 3
  have hfin := below4 hb2 (show w.heap.size ≤ w.heap.size + 1 + 1 by omega) (.int .i64 (min X U)) (.int .i64 (min Y V)) (.int .i64 (max X U)) (.int .i64 (max Y V))
  clear z2 z3 z4 hb2 m1 m2
  go_wp2
  refine bodyPost_ret (v := .agg #[.int .i64 (min X U), .int .i64 (min Y V), .int .i64 (max X U), .int .i64 (max Y V)]) (by simp [results, Tryz.results145, go_sem, *]) rfl ?_
  exact ⟨rfl, hfin⟩

set_option maxHeartbeats 400000 in
set_option maxRecDepth 100000 in
/-- IsValidTransform, in the reference. -/
theorem validT_spec (t : Tf) (w : World) : Calls Tryz.prog 86 #[t.val] w fun e w' => e = .returned (.bool (validT t)) ∧ Below w.heap.size w w' := by
  obtain ⟨o, x, y⟩ := t
  unfold Tf.val
  dsimp only
  have z0 := Bk.new w 67 #[.int .i64 o, .int .i64 x, .int .i64 y]
  have tw := (Below.refl w.heap.size w).alloc (Nat.le_refl _) (.cells #[.int .i64 o, .int .i64 x, .int .i64 y] 67)
  obtain ⟨c0, c1, c2⟩ := box3 z0
  have e : validT ⟨o, x, y⟩ = (inB 0 o 7 && (inB (-80) x 80 && inB (-80) y 80)) := by
    unfold validT inB
    rw [← Bool.decide_and, ← Bool.decide_and]
  rw [e]
  clear e z0
  by_cases h1 : inB 0 o 7 = true
  · by_cases h2 : inB (-80) x 80 = true
    · rw [h1, h2, Bool.true_and, Bool.true_and]
      have H1 := Lib.hid h1
      have H2 := Lib.hid h2
      clear h1 h2
      go_enter Tryz.func86, Tryz.ntmps86
      go_wp2_with fail
      refine (l01In_any o 0 7 _).mono ?_
      rintro e w1 ⟨rfl, rfl⟩
      rw [H1.out]
      go_wp2_with fail
      refine (l01In_any x (-80) 80 _).mono ?_
      rintro e w1 ⟨rfl, rfl⟩
      rw [H2.out]
      go_wp2_with fail
      refine (l01In_any y (-80) 80 _).mono ?_
      rintro e w1 ⟨rfl, rfl⟩
      go_wp2
      go_ret
      exact ⟨rfl, tw⟩
    · have h2' : inB (-80) x 80 = false := by simpa using h2
      rw [h1, h2', Bool.false_and, Bool.and_false]
      have H1 := Lib.hid h1
      have H2 := Lib.hid h2'
      clear h1 h2 h2'
      go_enter Tryz.func86, Tryz.ntmps86
      go_wp2_with fail
      refine (l01In_any o 0 7 _).mono ?_
      rintro e w1 ⟨rfl, rfl⟩
      rw [H1.out]
      go_wp2_with fail
      refine (l01In_any x (-80) 80 _).mono ?_
      rintro e w1 ⟨rfl, rfl⟩
      rw [H2.out]
      go_wp2
      go_ret
      exact ⟨rfl, tw⟩
  · have h1' : inB 0 o 7 = false := by simpa using h1
    rw [h1', Bool.false_and]
    have H1 := Lib.hid h1'
    clear h1 h1'
    go_enter Tryz.func86, Tryz.ntmps86
    go_wp2_with fail
    refine (l01In_any o 0 7 _).mono ?_
    rintro e w1 ⟨rfl, rfl⟩
    rw [H1.out]
    go_wp2
    go_ret
    exact ⟨rfl, tw⟩

end Go.Proofs.YtbljapihmkmolaaGreat
