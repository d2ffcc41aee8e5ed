/- Contracts: the program's transforms: IsValidTransform, turn, move, moveRect, MoveRegion. Conditions: of the turns, an orientation in range and coordinates of at most 1000. -/
import Derived.Test.YtgegbgkokkdmpaaGreatQ27

namespace Go.Proofs.YtgegbgkokkdmpaaGreat
open Go.RowKit

set_option maxHeartbeats 1600000 in
set_option maxRecDepth 100000 in
theorem turn_any (o x y : Int) (ho : 0 ≤ o ∧ o ≤ 7) (hb : (-5000 ≤ x ∧ x ≤ 5000) ∧ (-5000 ≤ y ∧ y ≤ 5000)) (w : World) : Calls Tryz.prog 83 #[.int .i64 o, .agg #[.int .i64 x, .int .i64 y]] w fun e w' => e = .returned (.agg #[.int .i64 (turnX o x y), .int .i64 (turnY o x y)]) ∧ Below w.heap.size w w' := by
  obtain ⟨m, hm3, hm, hmt, hrot⟩ := rot_turn ho x y
  have Hrot := Lib.hid hrot
  have zz := (Bk.new w 107 #[.int .i64 x, .int .i64 y]).alloc (.cells #[.int .i64 0, .int .i64 0] 107)
  obtain ⟨c0, c1⟩ := box2 zz
  have g1 := zz.frozen 1
  clear hrot zz
  go_enter Tryz.func83, Tryz.ntmps83
  rcases Hrot.out with ⟨h4, hx, hy⟩ | ⟨h4, hx, hy⟩
  · have Hx := Lib.hid hx
    have Hy := Lib.hid hy
    have h4' : o ≥ 4 := h4
    have ey := Go.IntWalk.i64_in (-y) (by omega)
    clear hx hy
    go_wp2
    clear c0 c1 g1
    have z0 := (Bk.new w 107 #[.int .i64 x, .int .i64 (-y)]).alloc (.cells #[.int .i64 0, .int .i64 0] 107)
    have z1 := Bk.new (w.alloc (.cells #[.int .i64 x, .int .i64 (-y)] 107)) 107 #[.int .i64 0, .int .i64 0]
    have ez : (w.alloc (.cells #[.int .i64 x, .int .i64 (-y)] 107)).heap.size = w.heap.size + 1 := by simp
    rw [ez] at z1
    have tw := ((Below.refl w.heap.size w).alloc (Nat.le_refl _) (.cells #[.int .i64 x, .int .i64 (-y)] 107)).alloc (by simp) (.cells #[.int .i64 0, .int .i64 0] 107)
    clear ez
    go_loopw [5] (fun kv wr => ∃ (k : Nat) (a b : Int), k ≤ 3 ∧ kv = .int .i64 k ∧ ((-5000 ≤ a ∧ a ≤ 5000) ∧ (-5000 ≤ b ∧ b ≤ 5000)) ∧ rotX k a b = turnX o x y ∧ rotY k a b = turnY o x y ∧ Bk wr w.heap.size 107 #[.int .i64 a, .int .i64 b] ∧ Bk wr (w.heap.size + 1) 107 #[.int .i64 0, .int .i64 0] ∧ Below w.heap.size w wr) (fun kv _ => (intOf kv).toNat)
    case atStart => exact ⟨m, x, -y, hm3, rfl, by omega, Hx.out, Hy.out, z0, z1, tw⟩
    case round =>
      obtain ⟨k, a, b, hk, rfl, hab, hX, hY, hz0, hz1, hb1⟩ := hrel
      have HX := Lib.hid hX
      have HY := Lib.hid hY
      clear hX hY Hx Hy z0 z1 tw
      obtain ⟨c0, c1⟩ := box2 hz0
      have g0 := hz0.frozen 0
      have g1 := hz0.frozen 1
      by_cases hk0 : k = 0
      · subst hk0
        have hz : ¬ ((0 : Nat) : Int) > 0 := by omega
        have eX : a = turnX o x y := HX.out
        have eY : b = turnY o x y := HY.out
        have EX := Lib.hid eX
        have EY := Lib.hid eY
        obtain ⟨d0, d1⟩ := box2 hz1
        have f0 := hz1.frozen 0
        have f1 := hz1.frozen 1
        have hfin := below2 hb1 (show w.heap.size ≤ w.heap.size + 1 by omega) (.int .i64 a) (.int .i64 b)
        clear eX eY hz0 hz1 hb1
        go_wp2
        refine bodyPost_ret (v := .agg #[.int .i64 a, .int .i64 b]) (by simp [results, Tryz.results83, go_sem, *]) rfl ?_
        exact ⟨by rw [EX.out, EY.out], hfin⟩
      · obtain ⟨j, rfl⟩ : ∃ j, k = j + 1 := ⟨k - 1, by omega⟩
        have hz : ((j + 1 : Nat) : Int) > 0 := by omega
        have en := Go.IntWalk.i64_in (-b) (by omega)
        have ek := Go.IntWalk.i64_in (((j + 1 : Nat) : Int) - 1) (by omega)
        have hz2 := set2 hz0 (.int .i64 (-b)) (.int .i64 a)
        have hz3 := other2 hz1 (show w.heap.size + 1 ≠ w.heap.size by omega) (.int .i64 (-b)) (.int .i64 a)
        have hb2 := below2 hb1 (Nat.le_refl _) (.int .i64 (-b)) (.int .i64 a)
        clear hz0 hz1 hb1
        go_wp2
        exact ⟨⟨j, -b, a, by omega, by first | rfl | go_num | (congr 1; omega), by omega, HX.out, HY.out, hz2, hz3, hb2⟩, by simp [intOf]⟩
  · have Hx := Lib.hid hx
    have Hy := Lib.hid hy
    have h4' : ¬ o ≥ 4 := by omega
    clear hx hy
    go_wp2
    clear c0 c1 g1
    have z0 := (Bk.new w 107 #[.int .i64 x, .int .i64 (y)]).alloc (.cells #[.int .i64 0, .int .i64 0] 107)
    have z1 := Bk.new (w.alloc (.cells #[.int .i64 x, .int .i64 (y)] 107)) 107 #[.int .i64 0, .int .i64 0]
    have ez : (w.alloc (.cells #[.int .i64 x, .int .i64 (y)] 107)).heap.size = w.heap.size + 1 := by simp
    rw [ez] at z1
    have tw := ((Below.refl w.heap.size w).alloc (Nat.le_refl _) (.cells #[.int .i64 x, .int .i64 (y)] 107)).alloc (by simp) (.cells #[.int .i64 0, .int .i64 0] 107)
    clear ez
    go_loopw [5] (fun kv wr => ∃ (k : Nat) (a b : Int), k ≤ 3 ∧ kv = .int .i64 k ∧ ((-5000 ≤ a ∧ a ≤ 5000) ∧ (-5000 ≤ b ∧ b ≤ 5000)) ∧ rotX k a b = turnX o x y ∧ rotY k a b = turnY o x y ∧ Bk wr w.heap.size 107 #[.int .i64 a, .int .i64 b] ∧ Bk wr (w.heap.size + 1) 107 #[.int .i64 0, .int .i64 0] ∧ Below w.heap.size w wr) (fun kv _ => (intOf kv).toNat)
    case atStart => exact ⟨m, x, y, hm3, rfl, by omega, Hx.out, Hy.out, z0, z1, tw⟩
    case round =>
      obtain ⟨k, a, b, hk, rfl, hab, hX, hY, hz0, hz1, hb1⟩ := hrel
      have HX := Lib.hid hX
      have HY := Lib.hid hY
      clear hX hY Hx Hy z0 z1 tw
      obtain ⟨c0, c1⟩ := box2 hz0
      have g0 := hz0.frozen 0
      have g1 := hz0.frozen 1
      by_cases hk0 : k = 0
      · subst hk0
        have hz : ¬ ((0 : Nat) : Int) > 0 := by omega
        have eX : a = turnX o x y := HX.out
        have eY : b = turnY o x y := HY.out
        have EX := Lib.hid eX
        have EY := Lib.hid eY
        obtain ⟨d0, d1⟩ := box2 hz1
        have f0 := hz1.frozen 0
        have f1 := hz1.frozen 1
        have hfin := below2 hb1 (show w.heap.size ≤ w.heap.size + 1 by omega) (.int .i64 a) (.int .i64 b)
        clear eX eY hz0 hz1 hb1
        go_wp2
        refine bodyPost_ret (v := .agg #[.int .i64 a, .int .i64 b]) (by simp [results, Tryz.results83, go_sem, *]) rfl ?_
        exact ⟨by rw [EX.out, EY.out], hfin⟩
      · obtain ⟨j, rfl⟩ : ∃ j, k = j + 1 := ⟨k - 1, by omega⟩
        have hz : ((j + 1 : Nat) : Int) > 0 := by omega
        have en := Go.IntWalk.i64_in (-b) (by omega)
        have ek := Go.IntWalk.i64_in (((j + 1 : Nat) : Int) - 1) (by omega)
        have hz2 := set2 hz0 (.int .i64 (-b)) (.int .i64 a)
        have hz3 := other2 hz1 (show w.heap.size + 1 ≠ w.heap.size by omega) (.int .i64 (-b)) (.int .i64 a)
        have hb2 := below2 hb1 (Nat.le_refl _) (.int .i64 (-b)) (.int .i64 a)
        clear hz0 hz1 hb1
        go_wp2
        exact ⟨⟨j, -b, a, by omega, by first | rfl | go_num | (congr 1; omega), by omega, HX.out, HY.out, hz2, hz3, hb2⟩, by simp [intOf]⟩

set_option maxHeartbeats 1600000 in
set_option maxRecDepth 100000 in
theorem move_any (t : Tf) (x y : Int) (ht : t.small) (hb : (-5000 ≤ x ∧ x ≤ 5000) ∧ (-5000 ≤ y ∧ y ≤ 5000)) (w : World) : Calls Tryz.prog 73 #[t.val, .agg #[.int .i64 x, .int .i64 y]] w fun e w' => e = .returned (.agg #[.int .i64 (moveX t x y), .int .i64 (moveY t x y)]) ∧ Below w.heap.size w w' := by
  obtain ⟨o, tx, ty⟩ := t
  obtain ⟨ho, hx, hy⟩ := ht
  have htb := turn_bounds (o := o) hb
  unfold Tf.val moveX moveY
  dsimp only at ho hx hy ⊢
  have z0 := ((Bk.new w 72 #[.int .i64 o, .int .i64 tx, .int .i64 ty]).alloc (.cells #[.int .i64 x, .int .i64 y] 107)).alloc (.cells #[.int .i64 0, .int .i64 0] 107)
  have z1 := (Bk.new (w.alloc (.cells #[.int .i64 o, .int .i64 tx, .int .i64 ty] 72)) 107 #[.int .i64 x, .int .i64 y]).alloc (.cells #[.int .i64 0, .int .i64 0] 107)
  have z2 := Bk.new ((w.alloc (.cells #[.int .i64 o, .int .i64 tx, .int .i64 ty] 72)).alloc (.cells #[.int .i64 x, .int .i64 y] 107)) 107 #[.int .i64 0, .int .i64 0]
  have e1 : (w.alloc (.cells #[.int .i64 o, .int .i64 tx, .int .i64 ty] 72)).heap.size = w.heap.size + 1 := by simp
  have e2 : ((w.alloc (.cells #[.int .i64 o, .int .i64 tx, .int .i64 ty] 72)).alloc (.cells #[.int .i64 x, .int .i64 y] 107)).heap.size = w.heap.size + 1 + 1 := by simp
  rw [e1] at z1
  rw [e2] at z2
  have tw := (((Below.refl w.heap.size w).alloc (Nat.le_refl _) (.cells #[.int .i64 o, .int .i64 tx, .int .i64 ty] 72)).alloc (by simp) (.cells #[.int .i64 x, .int .i64 y] 107)).alloc (by rw [e2]; omega) (.cells #[.int .i64 0, .int .i64 0] 107)
  obtain ⟨c0, c1, c2⟩ := box3 z0
  obtain ⟨d0, d1⟩ := box2 z1
  clear e1 e2
  go_enter Tryz.func73, Tryz.ntmps73
  go_wp2_with fail
  refine (turn_any o x y ho hb _).mono ?_
  rintro e w1 ⟨rfl, hb1⟩
  generalize hX : turnX o x y = X at *
  generalize hY : turnY o x y = Y at *
  have HX := Lib.hid hX
  have HY := Lib.hid hY
  clear hX hY
  have z0a := z0.on hb1
  have z1a := z1.on hb1
  have z2a := z2.on hb1
  replace hb1 := tw.trans (hb1.mono tw.size)
  clear z0 z1 z2 tw c0 c1 c2 d0 d1
  have ex := Go.IntWalk.i64_in (X + tx) (by omega)
  have ey := Go.IntWalk.i64_in (Y + ty) (by omega)
  obtain ⟨c0, c1, c2⟩ := box3 z0a
  obtain ⟨p0, p1⟩ := box2 z1a
  obtain ⟨d0, d1⟩ := box2 z2a
  have g0 := z1a.frozen 0
  have g1 := z1a.frozen 1
  have f0 := z2a.frozen 0
  have f1 := z2a.frozen 1
  have hfin := below2 (below2 hb1 (show w.heap.size ≤ w.heap.size + 1 by omega) (.int .i64 X) (.int .i64 Y)) (show w.heap.size ≤ w.heap.size + 1 + 1 by omega) (.int .i64 (X + tx)) (.int .i64 (Y + ty))
  clear z0a z1a z2a hb1
  go_wp2
  refine bodyPost_ret (v := .agg #[.int .i64 (X + tx), .int .i64 (Y + ty)]) (by simp [results, Tryz.results73, go_sem, *]) rfl ?_
  exact ⟨by rw [HX.out, HY.out], hfin⟩

set_option maxHeartbeats 6400000 in
set_option maxRecDepth 100000 in
theorem moveRect_any (t : Tf) (r : Rc) (ht : t.small) (hr : okRc r = true) (w : World) : Calls Tryz.prog 54 #[t.val, r.val] w fun e w' => e = .returned (.agg #[.int .i64 (moveR t r).x0, .int .i64 (moveR t r).y0, .int .i64 (moveR t r).x1, .int .i64 (moveR t r).y1]) ∧ Below w.heap.size w w' := by
  have hb := (okRc_iff r).1 hr
  obtain ⟨a, b, p, q⟩ := r
  dsimp only at hb
  have h1 : (-5000 ≤ a ∧ a ≤ 5000) ∧ (-5000 ≤ b ∧ b ≤ 5000) := by omega
  have h2 : (-5000 ≤ p ∧ p ≤ 5000) ∧ (-5000 ≤ q ∧ q ≤ 5000) := by omega
  have m1 := move_any t a b ht h1
  have m2 := move_any t p q ht h2
  unfold moveR Rc.val
  dsimp only
  obtain ⟨o, tx, ty⟩ := t
  unfold Tf.val at m1 m2 ⊢
  dsimp only at m1 m2 ⊢
  clear ht hr h1 h2 hb
  generalize moveX ⟨o, tx, ty⟩ a b = X at *
  generalize moveY ⟨o, tx, ty⟩ a b = Y at *
  generalize moveX ⟨o, tx, ty⟩ p q = U at *
  generalize moveY ⟨o, tx, ty⟩ p q = V at *
  have z0 := ((Bk.new w 72 #[.int .i64 o, .int .i64 tx, .int .i64 ty]).alloc (.cells #[.int .i64 a, .int .i64 b, .int .i64 p, .int .i64 q] 60)).alloc (.cells #[.int .i64 0, .int .i64 0, .int .i64 0, .int .i64 0] 60)
  have z1 := (Bk.new (w.alloc (.cells #[.int .i64 o, .int .i64 tx, .int .i64 ty] 72)) 60 #[.int .i64 a, .int .i64 b, .int .i64 p, .int .i64 q]).alloc (.cells #[.int .i64 0, .int .i64 0, .int .i64 0, .int .i64 0] 60)
  have z2 := Bk.new ((w.alloc (.cells #[.int .i64 o, .int .i64 tx, .int .i64 ty] 72)).alloc (.cells #[.int .i64 a, .int .i64 b, .int .i64 p, .int .i64 q] 60)) 60 #[.int .i64 0, .int .i64 0, .int .i64 0, .int .i64 0]
  have e1 : (w.alloc (.cells #[.int .i64 o, .int .i64 tx, .int .i64 ty] 72)).heap.size = w.heap.size + 1 := by simp
  have e2 : ((w.alloc (.cells #[.int .i64 o, .int .i64 tx, .int .i64 ty] 72)).alloc (.cells #[.int .i64 a, .int .i64 b, .int .i64 p, .int .i64 q] 60)).heap.size = w.heap.size + 1 + 1 := by simp
  rw [e1] at z1
  rw [e2] at z2
  have tw := (((Below.refl w.heap.size w).alloc (Nat.le_refl _) (.cells #[.int .i64 o, .int .i64 tx, .int .i64 ty] 72)).alloc (by simp) (.cells #[.int .i64 a, .int .i64 b, .int .i64 p, .int .i64 q] 60)).alloc (by rw [e2]; omega) (.cells #[.int .i64 0, .int .i64 0, .int .i64 0, .int .i64 0] 60)
  clear e1 e2
  go_enter Tryz.func54, Tryz.ntmps54
  go_wp2
  revert z0 z1 z2 tw
  generalize ((w.alloc (.cells #[.int .i64 o, .int .i64 tx, .int .i64 ty] 72)).alloc (.cells #[.int .i64 a, .int .i64 b, .int .i64 p, .int .i64 q] 60)).alloc (.cells #[.int .i64 0, .int .i64 0, .int .i64 0, .int .i64 0] 60) = w3
  intro z0 z1 z2 tw
  generalize hbr : w.heap.size + 1 = br at *
  generalize hbo : br + 1 = bo at *
  go_cut [5, 6] from 7 to 20 (fun s5 s6 wx => ∃ b5 b6 : Nat, s5 = .pointer (some ⟨b5, 0, none⟩) ∧ s6 = .pointer (some ⟨b6, 0, none⟩) ∧ wx.cell? ⟨b5, 0, none⟩ = some (.int .i64 X) ∧ wx.cell? ⟨b5, 1, none⟩ = some (.int .i64 Y) ∧ wx.cell? ⟨b6, 0, none⟩ = some (.int .i64 U) ∧ wx.cell? ⟨b6, 1, none⟩ = some (.int .i64 V) ∧ Below w3.heap.size w3 wx)
  case first =>
    obtain ⟨c0, c1, c2⟩ := box3 z0
    obtain ⟨d0, d1, d2, d3⟩ := box4 z1
    have l0 := z0.lt
    have l1 := z1.lt
    have hV0 := (Below.refl w3.heap.size w3).drew
    have hV1 := ((Below.refl w3.heap.size w3).alloc (Nat.le_refl _) (.cells #[.int .i64 0, .int .i64 0] 107)).drew
    have hV2 := (((Below.refl w3.heap.size w3).alloc (Nat.le_refl _) (.cells #[.int .i64 0, .int .i64 0] 107)).alloc (by simp) (.cells #[.int .i64 0, .int .i64 0] 107)).drew
    have zA1 := (Bk.new w3 107 #[.int .i64 0, .int .i64 0]).drew
    have zA2 := ((Bk.new w3 107 #[.int .i64 0, .int .i64 0]).alloc (.cells #[.int .i64 0, .int .i64 0] 107)).drew
    have zB2 := (Bk.new (w3.alloc (.cells #[.int .i64 0, .int .i64 0] 107)) 107 #[.int .i64 0, .int .i64 0]).drew
    have eA : (w3.alloc (.cells #[.int .i64 0, .int .i64 0] 107)).heap.size = w3.heap.size + 1 := by simp
    rw [eA] at zB2
    have t1 := fun (wz : World) (h : Below w3.heap.size w3 wz) => And.intro ((h.cell (p := ⟨w.heap.size, 0, none⟩) l0).trans c0) (And.intro ((h.cell (p := ⟨w.heap.size, 1, none⟩) l0).trans c1) (And.intro ((h.cell (p := ⟨w.heap.size, 2, none⟩) l0).trans c2) (And.intro ((h.cell (p := ⟨br, 0, none⟩) l1).trans d0) (And.intro ((h.cell (p := ⟨br, 1, none⟩) l1).trans d1) (And.intro ((h.cell (p := ⟨br, 2, none⟩) l1).trans d2) ((h.cell (p := ⟨br, 3, none⟩) l1).trans d3))))))
    clear z0 z1 z2 tw eA
    go_region_held3 (fun w' => w'.cell? ⟨w.heap.size, 0, none⟩ = some (.int .i64 o) ∧ w'.cell? ⟨w.heap.size, 1, none⟩ = some (.int .i64 tx) ∧ w'.cell? ⟨w.heap.size, 2, none⟩ = some (.int .i64 ty) ∧ w'.cell? ⟨br, 0, none⟩ = some (.int .i64 a) ∧ w'.cell? ⟨br, 1, none⟩ = some (.int .i64 b) ∧ w'.cell? ⟨br, 2, none⟩ = some (.int .i64 p) ∧ w'.cell? ⟨br, 3, none⟩ = some (.int .i64 q))
      (first | (refine t1 _ ?_; (repeat' (first | with_reducible exact hB5 | with_reducible exact hB4 | with_reducible exact hV0 | with_reducible exact hV1 | with_reducible exact hV2 | with_reducible refine Below.alloc ?_ ?_ _ | with_reducible refine Below.setCell ?_ ?_ _)) <;> first | omega | (simp; done) | (simp; omega)))
      (first
        | (go_at_call 73; with_reducible refine (m1 w3.drew).mono ?_; rintro e w4 ⟨rfl, hb4⟩; have hB4 := hV0.trans (hb4.mono hV0.size); have s4 := hB4.size)
        | (go_at_call 73; with_reducible refine (m1 (w3.alloc (.cells #[.int .i64 0, .int .i64 0] 107)).drew).mono ?_; rintro e w4 ⟨rfl, hb4⟩; have hB4 := hV1.trans (hb4.mono hV1.size); have s4 := hB4.size; have zA := zA1.on hb4; have la4 := zA.lt; have na4 : w3.heap.size ≠ w4.heap.size := (by omega); have na4' : w4.heap.size ≠ w3.heap.size := (by omega))
        | (go_at_call 73; with_reducible refine (m1 ((w3.alloc (.cells #[.int .i64 0, .int .i64 0] 107)).alloc (.cells #[.int .i64 0, .int .i64 0] 107)).drew).mono ?_; rintro e w4 ⟨rfl, hb4⟩; have hB4 := hV2.trans (hb4.mono hV2.size); have s4 := hB4.size; have zA := zA2.on hb4; have la4 := zA.lt; have na4 : w3.heap.size ≠ w4.heap.size := (by omega); have na4' : w4.heap.size ≠ w3.heap.size := (by omega); have zB := zB2.on hb4)
        | (go_at_call 73; with_reducible refine (m2 w4).mono ?_; rintro e w5 ⟨rfl, hb5⟩; have hB5 := hB4.trans (hb5.mono (hB4).size); have s5 := hB5.size; have s45 := hb5.size; (try simp at s45); (try (have zA := (zA).on hb5; obtain ⟨qa0, qa1⟩ := box2 zA; have fa0 := zA.frozen 0; have fa1 := zA.frozen 1; have zA_ := zA.alloc (.cells #[.int .i64 0, .int .i64 0] 107); obtain ⟨qa2, qa3⟩ := box2 zA_; have fa2 := zA_.frozen 0; have fa3 := zA_.frozen 1; have la5 := zA.lt; have na5 : w3.heap.size ≠ w5.heap.size := (by omega); have na5' : w5.heap.size ≠ w3.heap.size := (by omega))); (try (have zB := (zB).on hb5; obtain ⟨qb0, qb1⟩ := box2 zB; have fb0 := zB.frozen 0; have fb1 := zB.frozen 1)))
        | (go_at_call 73; with_reducible refine (m2 (w4.alloc (.cells #[.int .i64 0, .int .i64 0] 107))).mono ?_; rintro e w5 ⟨rfl, hb5⟩; have hB5 := (hB4.alloc (hB4).size (.cells #[.int .i64 0, .int .i64 0] 107)).trans (hb5.mono ((hB4.alloc (hB4).size (.cells #[.int .i64 0, .int .i64 0] 107))).size); have s5 := hB5.size; have s45 := hb5.size; (try simp at s45); (try (have zA := ((zA.alloc (.cells #[.int .i64 0, .int .i64 0] 107))).on hb5; obtain ⟨qa0, qa1⟩ := box2 zA; have fa0 := zA.frozen 0; have fa1 := zA.frozen 1; have zA_ := zA.alloc (.cells #[.int .i64 0, .int .i64 0] 107); obtain ⟨qa2, qa3⟩ := box2 zA_; have fa2 := zA_.frozen 0; have fa3 := zA_.frozen 1; have la5 := zA.lt; have na5 : w3.heap.size ≠ w5.heap.size := (by omega); have na5' : w5.heap.size ≠ w3.heap.size := (by omega))); (try (have zB := ((zB.alloc (.cells #[.int .i64 0, .int .i64 0] 107))).on hb5; obtain ⟨qb0, qb1⟩ := box2 zB; have fb0 := zB.frozen 0; have fb1 := zB.frozen 1)); have zC := ((Bk.new w4 107 #[.int .i64 0, .int .i64 0])).on hb5; obtain ⟨qc0, qc1⟩ := box2 zC; have fc0 := zC.frozen 0; have fc1 := zC.frozen 1; have zC_ := zC.alloc (.cells #[.int .i64 0, .int .i64 0] 107); obtain ⟨qc2, qc3⟩ := box2 zC_; have fc2 := zC_.frozen 0; have fc3 := zC_.frozen 1; have lc5 := zC.lt; have nc5 : w4.heap.size ≠ w5.heap.size := (by omega); have nc5' : w5.heap.size ≠ w4.heap.size := (by omega))
        | (go_at_call 73; with_reducible refine (m2 ((w4.alloc (.cells #[.int .i64 0, .int .i64 0] 107)).alloc (.cells #[.int .i64 0, .int .i64 0] 107))).mono ?_; rintro e w5 ⟨rfl, hb5⟩; have hB5 := ((hB4.alloc (hB4).size (.cells #[.int .i64 0, .int .i64 0] 107)).alloc ((hB4.alloc (hB4).size (.cells #[.int .i64 0, .int .i64 0] 107))).size (.cells #[.int .i64 0, .int .i64 0] 107)).trans (hb5.mono (((hB4.alloc (hB4).size (.cells #[.int .i64 0, .int .i64 0] 107)).alloc ((hB4.alloc (hB4).size (.cells #[.int .i64 0, .int .i64 0] 107))).size (.cells #[.int .i64 0, .int .i64 0] 107))).size); have s5 := hB5.size; have s45 := hb5.size; (try simp at s45); (try (have zA := (((zA.alloc (.cells #[.int .i64 0, .int .i64 0] 107)).alloc (.cells #[.int .i64 0, .int .i64 0] 107))).on hb5; obtain ⟨qa0, qa1⟩ := box2 zA; have fa0 := zA.frozen 0; have fa1 := zA.frozen 1; have zA_ := zA.alloc (.cells #[.int .i64 0, .int .i64 0] 107); obtain ⟨qa2, qa3⟩ := box2 zA_; have fa2 := zA_.frozen 0; have fa3 := zA_.frozen 1; have la5 := zA.lt; have na5 : w3.heap.size ≠ w5.heap.size := (by omega); have na5' : w5.heap.size ≠ w3.heap.size := (by omega))); (try (have zB := (((zB.alloc (.cells #[.int .i64 0, .int .i64 0] 107)).alloc (.cells #[.int .i64 0, .int .i64 0] 107))).on hb5; obtain ⟨qb0, qb1⟩ := box2 zB; have fb0 := zB.frozen 0; have fb1 := zB.frozen 1)); have zC := ((Bk.new w4 107 #[.int .i64 0, .int .i64 0]).alloc (.cells #[.int .i64 0, .int .i64 0] 107)).on hb5; obtain ⟨qc0, qc1⟩ := box2 zC; have fc0 := zC.frozen 0; have fc1 := zC.frozen 1; have zC_ := zC.alloc (.cells #[.int .i64 0, .int .i64 0] 107); obtain ⟨qc2, qc3⟩ := box2 zC_; have fc2 := zC_.frozen 0; have fc3 := zC_.frozen 1; have lc5 := zC.lt; have nc5 : w4.heap.size ≠ w5.heap.size := (by omega); have nc5' : w5.heap.size ≠ w4.heap.size := (by omega); have zD := (Bk.new (w4.alloc (.cells #[.int .i64 0, .int .i64 0] 107)) 107 #[.int .i64 0, .int .i64 0]).on hb5; rw [show (w4.alloc (.cells #[.int .i64 0, .int .i64 0] 107)).heap.size = w4.heap.size + 1 from (by simp)] at zD; obtain ⟨qd0, qd1⟩ := box2 zD; have fd0 := zD.frozen 0; have fd1 := zD.frozen 1))
    all_goals
      go_wp2_with fail
      go_meet
      refine ⟨_, _, rfl, rfl, ?_, ?_, ?_, ?_, ?_⟩
      · first | (go_simp; done) | (simp [go_sem, *]; done)
      · first | (go_simp; done) | (simp [go_sem, *]; done)
      · first | (go_simp; done) | (simp [go_sem, *]; done)
      · first | (go_simp; done) | (simp [go_sem, *]; done)
      · (repeat' (first | with_reducible exact hB5 | with_reducible exact hB4 | with_reducible exact hV0 | with_reducible exact hV1 | with_reducible exact hV2 | with_reducible refine Below.alloc ?_ ?_ _ | with_reducible refine Below.setCell ?_ ?_ _)) <;> first | omega | (simp; done) | (simp; omega)
  case rest =>
    obtain ⟨b5, b6, rfl, rfl, c0, c1, d0, d1, hB⟩ := hcut
    replace z2 := z2.on hB
    replace hB := tw.trans (hB.mono tw.size)
    obtain ⟨q0, q1, q2, q3⟩ := box4 z2
    have f0 := z2.frozen 0
    have f1 := z2.frozen 1
    have f2 := z2.frozen 2
    have f3 := z2.frozen 3
    have hfin := below4 hB (show w.heap.size ≤ bo by omega) (.int .i64 (min X U)) (.int .i64 (min Y V)) (.int .i64 (max X U)) (.int .i64 (max Y V))
    clear z0 z1 z2 hB m1 m2 tw
    go_wp2
    refine bodyPost_ret (v := .agg #[.int .i64 (min X U), .int .i64 (min Y V), .int .i64 (max X U), .int .i64 (max Y V)]) (by simp [results, Tryz.results54, go_sem, *]) rfl ?_
    exact ⟨rfl, hfin⟩

end Go.Proofs.YtgegbgkokkdmpaaGreat
