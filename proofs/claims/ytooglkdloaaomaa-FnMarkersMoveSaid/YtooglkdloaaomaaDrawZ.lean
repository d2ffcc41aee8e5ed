/- The draws of the law FnMarkersMove: l01From, l01Next, l02DrawRect, l03DrawRegion, l01DrawTransform, l02Spoil, l03Spoil, with the input's bytes below a mark; DrawMoveRegion. No conditions. -/
import Derived.Test.YtooglkdloaaomaaDrawK
import Derived.Test.YtooglkdloaaomaaThruA
import Derived.Test.YtooglkdloaaomaaDrawM
namespace Go.Proofs.Ytooglkdloaaomaa.Z
open Go.RowKit

/-- The input lies below this block. -/
class Low where
  low : Nat
variable [Low]


/-- The source of numbers in block g. -/
structure Dice (w : World) (g : Nat) : Prop where
  blk : ∃ (A : Option Addr) (n c i : Nat) (s : Int), Bk w g 107 #[.slice A n c, .int .i64 i, .int .i64 s] ∧ i ≤ n ∧ n ≤ 1000000 ∧ 0 ≤ s ∧ s ≤ 2147483646 ∧ ArgB w A n ∧ (∀ p, A = some p → 0 < n → p.block < Low.low ∧ Low.low ≤ g)
section
variable {w w' : World} {g : Nat}
theorem Dice.lt (h : Dice w g) : g < w.heap.size := let ⟨_, _, _, _, _, hb, _⟩ := h.blk; hb.lt
theorem Dice.below {B : Nat} (h : Dice w g) (hb : Below B w w') (hg : g < B) : Dice w' g := by
  obtain ⟨A, n, c, i, s, h1, h2, h3, h4, h5, h6, h7⟩ := h.blk
  exact ⟨A, n, c, i, s, h1.below hb hg, h2, h3, h4, h5, h6.low (fun p hp hn => by have := h7 p hp hn; omega) hb, h7⟩
theorem Dice.on (h : Dice w g) (hb : Below w.heap.size w w') : Dice w' g := h.below hb h.lt
theorem Dice.grown {row : Option Nat} (h : Dice w g) (hg : w.grownBy w' row) (hr : ∀ q, row = some q → g < q) : Dice w' g :=
  h.below (B := g + 1) (grown_below hg (fun q hq => hr q hq) h.lt) (by omega)
theorem Dice.alloc (h : Dice w g) (o : Obj) : Dice (w.alloc o) g := h.on ((Below.refl _ _).alloc (Nat.le_refl _) o)
theorem Dice.other (h : Dice w g) {p : Addr} (hp : g < p.block) (x : Value) : Dice (w.setCell p x) g := h.below (B := g + 1) ((Below.refl _ _).setCell (p := p) hp x) (by omega)
theorem Dice.drew (h : Dice w g) : Dice w.drew g := h.on (Below.refl _ _).drew
end
theorem dice_put {w : World} {g : Nat} {A : Option Addr} {n c i : Nat} {s : Int} (hB : Bk w g 107 #[.slice A n c, .int .i64 i, .int .i64 s]) (h3 : n ≤ 1000000) (h6 : ArgB w A n) (h7 : ∀ p, A = some p → 0 < n → p.block < Low.low ∧ Low.low ≤ g) :
    (∀ (k : Nat) (t : Int), 0 ≤ t → t ≤ 2147483646 → i ≤ n → Dice ((w.drewN k).setCell ⟨g, 2, none⟩ (.int .i64 t)) g ∧ w.grownBy ((w.drewN k).setCell ⟨g, 2, none⟩ (.int .i64 t)) (some g)) ∧
    (∀ k : Nat, 0 ≤ s → s ≤ 2147483646 → i + 1 ≤ n → Dice ((w.drewN k).setCell ⟨g, 1, none⟩ (.int .i64 ((i : Int) + 1))) g ∧ w.grownBy ((w.drewN k).setCell ⟨g, 1, none⟩ (.int .i64 ((i : Int) + 1))) (some g)) ∧
    (∀ (k : Nat) (t : Int), 0 ≤ t → t ≤ 2147483646 → i + 1 ≤ n → Dice (((w.drewN k).setCell ⟨g, 1, none⟩ (.int .i64 ((i : Int) + 1))).setCell ⟨g, 2, none⟩ (.int .i64 t)) g ∧ w.grownBy (((w.drewN k).setCell ⟨g, 1, none⟩ (.int .i64 ((i : Int) + 1))).setCell ⟨g, 2, none⟩ (.int .i64 t)) (some g)) := by
  have ei : (i : Int) + 1 = ((i + 1 : Nat) : Int) := by omega
  have hl : ∀ {w' : World}, Below g w w' → ArgB w' A n := fun hb => h6.low (B := g) (fun p hp hn => Nat.lt_of_lt_of_le (h7 p hp hn).1 (h7 p hp hn).2) hb
  have hr : ∀ k, Below g w (w.drewN k) := fun k => below_drewN (Below.refl g w) k
  rw [ei]
  refine ⟨fun k t h0 h1 h2 => ⟨⟨A, n, c, i, t, (hB.drewN k).store 2 _, h2, h3, h0, h1, hl ((hr k).setCell (p := ⟨g, 2, none⟩) (Nat.le_refl _) _), h7⟩, only_store (only_drewN (only_refl w _) k) 2 _⟩,
    fun k h0 h1 h2 => ⟨⟨A, n, c, i + 1, s, (hB.drewN k).store 1 _, h2, h3, h0, h1, hl ((hr k).setCell (p := ⟨g, 1, none⟩) (Nat.le_refl _) _), h7⟩, only_store (only_drewN (only_refl w _) k) 1 _⟩,
    fun k t h0 h1 h2 => ⟨⟨A, n, c, i + 1, t, ((hB.drewN k).store 1 _).store 2 _, h2, h3, h0, h1, hl (((hr k).setCell (p := ⟨g, 1, none⟩) (Nat.le_refl _) _).setCell (p := ⟨g, 2, none⟩) (Nat.le_refl _) _), h7⟩, only_store (only_store (only_drewN (only_refl w _) k) 1 _) 2 _⟩⟩

set_option maxHeartbeats 1600000 in
set_option maxRecDepth 100000 in
/-- l01Next. -/
theorem next_any (g : Nat) (n : Int) (w : World) (hD : Dice w g) (hn : 2 ≤ n ∧ n ≤ 1000000) : Calls Try.prog 70 #[.pointer (some ⟨g, 0, none⟩), .int .i64 n] w fun e w' => ∃ k : Int, e = .returned (.int .i64 k) ∧ (0 ≤ k ∧ k < n) ∧ Dice w' g ∧ w.grownBy w' (some g) := by
  obtain ⟨A, m, c, i, s, hB, h2, h3, h4, h5, h6, h7⟩ := hD.blk
  obtain ⟨d0, d1, d2⟩ := box3 hB
  have z1 := hB.frozen 1
  have z2 := hB.frozen 2
  have hg := hB.lt
  have hn1 : ¬ n ≤ 1 := by omega
  have hn0 : n ≠ 0 := by omega
  clear hD
  obtain ⟨k1, k2, k3⟩ := dice_put hB h3 h6 h7
  have K1 := Lib.hid k1
  have K2 := Lib.hid k2
  have K3 := Lib.hid k3
  clear k1 k2 k3
  by_cases hlt : i < m
  · have hltz : (i : Int) < m := by omega
    obtain ⟨b, off, x, rfl, hb, f0, hx0, hx1⟩ := h6.elem i hlt
    have hbg : b < g := Nat.lt_of_lt_of_le (h7 _ rfl (by omega)).1 (h7 _ rfl (by omega)).2
    have e0 := Go.IntWalk.i64_in ((i : Int) + 1) (by omega)
    have ex := Go.IntWalk.i64_in x (by omega)
    by_cases hbig : n > 256
    · have e1 := Go.IntWalk.i64_in (s * 48271) (by omega)
      have e2 := Go.IntWalk.i64_in (s * 48271 + x) (by omega)
      have e3 := Go.IntWalk.i64_in (s * 48271 + x + 1) (by omega)
      have hr := emod_in (x := s * 48271 + x + 1) (n := 2147483647) (by omega)
      clear hB h6 h7 hn
      go_enter Try.func70, Try.ntmps70
      go_wp2
      go_quiet (fail)
      go_wp2
      go_quiet (fail)
      go_wp2
      go_ret
      exact ⟨_, rfl, emod_in (by omega), (K3.out _ _ hr.1 (by omega) (by omega)).1, (K3.out _ _ hr.1 (by omega) (by omega)).2⟩
    · clear hB h6 h7 hn
      go_enter Try.func70, Try.ntmps70
      go_wp2
      go_quiet (fail)
      go_wp2
      go_quiet (fail)
      go_wp2
      go_ret
      exact ⟨_, rfl, emod_in (by omega), (K2.out _ h4 h5 (by omega)).1, (K2.out _ h4 h5 (by omega)).2⟩
  · have hlz : ¬ (i : Int) < m := by omega
    have e1 := Go.IntWalk.i64_in (s * 48271) (by omega)
    have e2 := Go.IntWalk.i64_in (s * 48271 + 11) (by omega)
    have hr := emod_in (x := s * 48271 + 11) (n := 2147483647) (by omega)
    clear hB h6 h7 hn
    go_enter Try.func70, Try.ntmps70
    go_wp2
    go_quiet (fail)
    go_wp2
    go_ret
    exact ⟨_, rfl, emod_in (by omega), (K1.out _ _ hr.1 (by omega) h2).1, (K1.out _ _ hr.1 (by omega) h2).2⟩


set_option maxHeartbeats 1600000 in
set_option maxRecDepth 100000 in
/-- l01From. -/
theorem from_any (A : Option Addr) (n c : Nat) (w : World) (hA : ArgB w A n) (hn : n ≤ 4096) (hlo : ∀ p, A = some p → 0 < n → p.block < Low.low) (hls : Low.low ≤ w.heap.size) : Calls Try.prog 68 #[.slice A n c] w fun e w' => ∃ g, e = .returned (.pointer (some ⟨g, 0, none⟩)) ∧ w.heap.size ≤ g ∧ Dice w' g ∧ Below w.heap.size w w' := by
  have hm : n ≤ 9223372036854775807 := by omega
  have z0 := Bk.new w 107 #[.slice A n c, .int .i64 0, .int .i64 12345]
  have t0 : Below w.heap.size w (w.alloc (.cells #[.slice A n c, .int .i64 0, .int .i64 12345] 107)) := (Below.refl _ _).alloc (Nat.le_refl _) _
  go_enter Try.func68, Try.ntmps68
  go_wp2
  go_loopw [4] (fun iv wr => ∃ (k : Nat) (s : Int), k ≤ n ∧ iv = .int .i64 k ∧ 0 ≤ s ∧ s ≤ 2147483646 ∧ Bk wr w.heap.size 107 #[.slice A n c, .int .i64 0, .int .i64 s] ∧ Below w.heap.size w wr) (fun iv _ => n - (intOf iv).toNat)
  case atStart => exact ⟨0, 12345, Nat.zero_le _, rfl, by omega, by omega, z0, t0⟩
  case round =>
    obtain ⟨k, s, hk, rfl, hs0, hs1, hB, hb⟩ := hrel
    clear z0 t0
    by_cases hc : k < n ∧ k < 64
    · obtain ⟨hlt, h64⟩ := hc
      have h64z : (k : Int) < 64 := by omega
      obtain ⟨b, off, x, rfl, hbl, f0, hx0, hx1⟩ := (hA.on hb).elem k hlt
      obtain ⟨d0, d1, d2⟩ := box3 hB
      have z2 := hB.frozen 2
      have e1 := Go.IntWalk.i64_in (s * 31) (by omega)
      have e2 := Go.IntWalk.i64_in (s * 31 + x) (by omega)
      have ex := Go.IntWalk.i64_in x (by omega)
      have hr := emod_in (x := s * 31 + x) (n := 2147483647) (by omega)
      have hst := Lib.hid (hB.store 2 (.int .i64 ((s * 31 + x) % 2147483647)))
      have hbz := hb.setCell (p := ⟨w.heap.size, 2, none⟩) (Nat.le_refl _) (.int .i64 ((s * 31 + x) % 2147483647))
      clear hB
      go_wp2
      go_still_tail 15, (by kernel_rfl)
      change wpList _ _ _ _ _ wr.drew
      go_wp2
      exact ⟨⟨k + 1, (s * 31 + x) % 2147483647, by omega, by go_num, hr.1, by omega, hst.out, hbz.drew⟩, by simp [intOf]; omega⟩
    · by_cases hlt : k < n
      · have h64z : ¬ (k : Int) < 64 := by omega
        go_wp2
        go_ret
        exact ⟨_, rfl, Nat.le_refl _, ⟨A, n, c, 0, s, hB, Nat.zero_le _, by omega, hs0, hs1, hA.on hb, fun p hp hn => ⟨hlo p hp hn, hls⟩⟩, hb⟩
      · go_wp2
        go_ret
        exact ⟨_, rfl, Nat.le_refl _, ⟨A, n, c, 0, s, hB, Nat.zero_le _, by omega, hs0, hs1, hA.on hb, fun p hp hn => ⟨hlo p hp hn, hls⟩⟩, hb⟩

theorem dice_four {w wb : World} {g : Nat} (hD : Dice wb g) (hg : g < w.heap.size) (hG : w.grownBy wb (some g)) (x0 x1 x2 x3 : Value) :
    Dice ((((wb.setCell ⟨w.heap.size, 0, none⟩ x0).setCell ⟨w.heap.size, 1, none⟩ x1).setCell ⟨w.heap.size, 2, none⟩ x2).setCell ⟨w.heap.size, 3, none⟩ x3) g ∧
    w.grownBy ((((wb.setCell ⟨w.heap.size, 0, none⟩ x0).setCell ⟨w.heap.size, 1, none⟩ x1).setCell ⟨w.heap.size, 2, none⟩ x2).setCell ⟨w.heap.size, 3, none⟩ x3) (some g) :=
  ⟨(((hD.other (p := ⟨w.heap.size, 0, none⟩) hg x0).other (p := ⟨w.heap.size, 1, none⟩) hg x1).other (p := ⟨w.heap.size, 2, none⟩) hg x2).other (p := ⟨w.heap.size, 3, none⟩) hg x3,
   only_above hG (((((Below.refl _ wb).setCell (p := ⟨w.heap.size, 0, none⟩) (Nat.le_refl _) x0).setCell (p := ⟨w.heap.size, 1, none⟩) (Nat.le_refl _) x1).setCell (p := ⟨w.heap.size, 2, none⟩) (Nat.le_refl _) x2).setCell (p := ⟨w.heap.size, 3, none⟩) (Nat.le_refl _) x3)⟩

set_option maxHeartbeats 3200000 in
set_option maxRecDepth 100000 in
/-- l02DrawRect. -/
theorem drawRect_any (g : Nat) (w : World) (hD : Dice w g) : Calls Try.prog 153 #[.pointer (some ⟨g, 0, none⟩)] w fun e w' => ∃ r : Rc, e = .returned r.val ∧ okRc r = true ∧ Dice w' g ∧ w.grownBy w' (some g) := by
  have hg := hD.lt
  have z0 := Bk.new w 32 #[.int .i64 0, .int .i64 0, .int .i64 0, .int .i64 0]
  have hD0 := hD.alloc (.cells #[.int .i64 0, .int .i64 0, .int .i64 0, .int .i64 0] 32)
  have hA := only_alloc (only_refl w (some g)) (.cells #[.int .i64 0, .int .i64 0, .int .i64 0, .int .i64 0] 32)
  clear hD
  unfold Rc.val
  go_enter Try.func153, Try.ntmps153
  go_wp2_with fail
  refine (next_any g 22 _ hD0 (by omega)).mono ?_
  rintro e w1 ⟨k1, rfl, hk1, hD1, hG1⟩
  have e1 := Go.IntWalk.i64_in (k1 - 12) (by omega)
  go_wp2_with fail
  refine (next_any g 22 _ hD1 (by omega)).mono ?_
  rintro e w2 ⟨k2, rfl, hk2, hD2, hG2⟩
  have e2 := Go.IntWalk.i64_in (k2 - 12) (by omega)
  go_wp2_with fail
  refine (next_any g 16 _ hD2 (by omega)).mono ?_
  rintro e w3 ⟨k3, rfl, hk3, hD3, hG3⟩
  by_cases hk30 : k3 = 0
  · subst hk30
    go_wp2_with fail
    refine (next_any g 3 _ hD3 (by omega)).mono ?_
    rintro e w4 ⟨k4, rfl, hk4, hD4, hG4⟩
    have e4 := Go.IntWalk.i64_in (39 - k4) (by omega)
    go_wp2_with fail
    refine (next_any g 16 _ hD4 (by omega)).mono ?_
    rintro e w5 ⟨k5, rfl, hk5, hD5, hG5⟩
    by_cases hk50 : k5 = 0
    · subst hk50
      go_wp2_with fail
      refine (next_any g 7 _ hD5 (by omega)).mono ?_
      rintro e wa ⟨ka, rfl, hka, hDa, hGa⟩
      have ea := Go.IntWalk.i64_in (ka + 1) (by omega)
      go_wp2_with fail
      refine (next_any g 7 _ hDa (by omega)).mono ?_
      rintro e wb ⟨kb, rfl, hkb, hDb, hGb⟩
      have eb := Go.IntWalk.i64_in (kb + 1) (by omega)
      have ex := Go.IntWalk.i64_in ((39 - k4) + (ka + 1)) (by omega)
      have ey := Go.IntWalk.i64_in ((-40) + (kb + 1)) (by omega)
      have hGz := (only_trans (only_trans (only_trans (only_trans (only_trans (only_trans hG1 hG2) hG3) hG4) hG5) hGa) hGb)
      have hz := z0.grown hGz (by simp; omega)
      obtain ⟨c0, c1, c2, c3⟩ := box4 hz
      have f0 := hz.frozen 0
      have f1 := hz.frozen 1
      have f2 := hz.frozen 2
      have f3 := hz.frozen 3
      have hrb : g < w.heap.size := hg
      clear hGa hGb hG2 hG3 hG4 hG5
      go_wp2
      refine bodyPost_ret (v := .agg #[.int .i64 (39 - k4), .int .i64 (-40), .int .i64 (min 40 ((39 - k4) + (ka + 1))), .int .i64 (min 40 ((-40) + (kb + 1)))]) (by simp [results, Try.results153, go_sem, *]) rfl ?_
      refine ⟨⟨(39 - k4), (-40), min 40 ((39 - k4) + (ka + 1)), min 40 ((-40) + (kb + 1))⟩, rfl, ?_, ?_, ?_⟩
      · rw [okRc_iff]
        dsimp only
        omega
      · exact (dice_four hDb hg (only_trans hA hGz) _ _ _ _).1
      · exact (dice_four hDb hg (only_trans hA hGz) _ _ _ _).2
    · go_wp2_with fail
      refine (next_any g 7 _ hD5 (by omega)).mono ?_
      rintro e wa ⟨ka, rfl, hka, hDa, hGa⟩
      have ea := Go.IntWalk.i64_in (ka + 1) (by omega)
      go_wp2_with fail
      refine (next_any g 7 _ hDa (by omega)).mono ?_
      rintro e wb ⟨kb, rfl, hkb, hDb, hGb⟩
      have eb := Go.IntWalk.i64_in (kb + 1) (by omega)
      have ex := Go.IntWalk.i64_in ((39 - k4) + (ka + 1)) (by omega)
      have ey := Go.IntWalk.i64_in ((k2 - 12) + (kb + 1)) (by omega)
      have hGz := (only_trans (only_trans (only_trans (only_trans (only_trans (only_trans hG1 hG2) hG3) hG4) hG5) hGa) hGb)
      have hz := z0.grown hGz (by simp; omega)
      obtain ⟨c0, c1, c2, c3⟩ := box4 hz
      have f0 := hz.frozen 0
      have f1 := hz.frozen 1
      have f2 := hz.frozen 2
      have f3 := hz.frozen 3
      have hrb : g < w.heap.size := hg
      clear hGa hGb hG2 hG3 hG4 hG5
      go_wp2
      refine bodyPost_ret (v := .agg #[.int .i64 (39 - k4), .int .i64 (k2 - 12), .int .i64 (min 40 ((39 - k4) + (ka + 1))), .int .i64 (min 40 ((k2 - 12) + (kb + 1)))]) (by simp [results, Try.results153, go_sem, *]) rfl ?_
      refine ⟨⟨(39 - k4), (k2 - 12), min 40 ((39 - k4) + (ka + 1)), min 40 ((k2 - 12) + (kb + 1))⟩, rfl, ?_, ?_, ?_⟩
      · rw [okRc_iff]
        dsimp only
        omega
      · exact (dice_four hDb hg (only_trans hA hGz) _ _ _ _).1
      · exact (dice_four hDb hg (only_trans hA hGz) _ _ _ _).2
  · go_wp2_with fail
    refine (next_any g 16 _ hD3 (by omega)).mono ?_
    rintro e w5 ⟨k5, rfl, hk5, hD5, hG5⟩
    by_cases hk50 : k5 = 0
    · subst hk50
      go_wp2_with fail
      refine (next_any g 7 _ hD5 (by omega)).mono ?_
      rintro e wa ⟨ka, rfl, hka, hDa, hGa⟩
      have ea := Go.IntWalk.i64_in (ka + 1) (by omega)
      go_wp2_with fail
      refine (next_any g 7 _ hDa (by omega)).mono ?_
      rintro e wb ⟨kb, rfl, hkb, hDb, hGb⟩
      have eb := Go.IntWalk.i64_in (kb + 1) (by omega)
      have ex := Go.IntWalk.i64_in ((k1 - 12) + (ka + 1)) (by omega)
      have ey := Go.IntWalk.i64_in ((-40) + (kb + 1)) (by omega)
      have hGz := (only_trans (only_trans (only_trans (only_trans (only_trans hG1 hG2) hG3) hG5) hGa) hGb)
      have hz := z0.grown hGz (by simp; omega)
      obtain ⟨c0, c1, c2, c3⟩ := box4 hz
      have f0 := hz.frozen 0
      have f1 := hz.frozen 1
      have f2 := hz.frozen 2
      have f3 := hz.frozen 3
      have hrb : g < w.heap.size := hg
      clear hGa hGb hG2 hG3 hG5
      go_wp2
      refine bodyPost_ret (v := .agg #[.int .i64 (k1 - 12), .int .i64 (-40), .int .i64 (min 40 ((k1 - 12) + (ka + 1))), .int .i64 (min 40 ((-40) + (kb + 1)))]) (by simp [results, Try.results153, go_sem, *]) rfl ?_
      refine ⟨⟨(k1 - 12), (-40), min 40 ((k1 - 12) + (ka + 1)), min 40 ((-40) + (kb + 1))⟩, rfl, ?_, ?_, ?_⟩
      · rw [okRc_iff]
        dsimp only
        omega
      · exact (dice_four hDb hg (only_trans hA hGz) _ _ _ _).1
      · exact (dice_four hDb hg (only_trans hA hGz) _ _ _ _).2
    · go_wp2_with fail
      refine (next_any g 7 _ hD5 (by omega)).mono ?_
      rintro e wa ⟨ka, rfl, hka, hDa, hGa⟩
      have ea := Go.IntWalk.i64_in (ka + 1) (by omega)
      go_wp2_with fail
      refine (next_any g 7 _ hDa (by omega)).mono ?_
      rintro e wb ⟨kb, rfl, hkb, hDb, hGb⟩
      have eb := Go.IntWalk.i64_in (kb + 1) (by omega)
      have ex := Go.IntWalk.i64_in ((k1 - 12) + (ka + 1)) (by omega)
      have ey := Go.IntWalk.i64_in ((k2 - 12) + (kb + 1)) (by omega)
      have hGz := (only_trans (only_trans (only_trans (only_trans (only_trans hG1 hG2) hG3) hG5) hGa) hGb)
      have hz := z0.grown hGz (by simp; omega)
      obtain ⟨c0, c1, c2, c3⟩ := box4 hz
      have f0 := hz.frozen 0
      have f1 := hz.frozen 1
      have f2 := hz.frozen 2
      have f3 := hz.frozen 3
      have hrb : g < w.heap.size := hg
      clear hGa hGb hG2 hG3 hG5
      go_wp2
      refine bodyPost_ret (v := .agg #[.int .i64 (k1 - 12), .int .i64 (k2 - 12), .int .i64 (min 40 ((k1 - 12) + (ka + 1))), .int .i64 (min 40 ((k2 - 12) + (kb + 1)))]) (by simp [results, Try.results153, go_sem, *]) rfl ?_
      refine ⟨⟨(k1 - 12), (k2 - 12), min 40 ((k1 - 12) + (ka + 1)), min 40 ((k2 - 12) + (kb + 1))⟩, rfl, ?_, ?_, ?_⟩
      · rw [okRc_iff]
        dsimp only
        omega
      · exact (dice_four hDb hg (only_trans hA hGz) _ _ _ _).1
      · exact (dice_four hDb hg (only_trans hA hGz) _ _ _ _).2

set_option maxHeartbeats 1600000 in
set_option maxRecDepth 100000 in
/-- l03DrawRegion. -/
theorem drawRegion3_any (g : Nat) (w : World) (hD : Dice w g) : Calls Try.prog 113 #[.pointer (some ⟨g, 0, none⟩)] w fun e w' => ∃ v rs, e = .returned v ∧ RL w' w.heap.size v rs ∧ rs.length ≤ 7000 ∧ Dice w' g ∧ w.grownBy w' (some g) := by
  have hg := hD.lt
  have r0 : RL (w.alloc (.cells #[] 32)) w.heap.size (.slice (some ⟨w.heap.size, 0, none⟩) 0 0) [] := World.ownsRow_lit w #[] 0 (Nat.le_refl _) (by simp [maxLen]) rfl
  have hD0 := hD.alloc (.cells #[] 32)
  have hA := only_alloc (only_refl w (some g)) (.cells #[] 32)
  clear hD
  go_enter Try.func113, Try.ntmps113
  go_wp2_with fail
  refine (next_any g 6 _ hD0 (by omega)).mono ?_
  rintro e w1 ⟨k1, rfl, hk1, hD1, hG1⟩
  go_wp2_with fail
  refine (next_any g 3 _ hD1 (by omega)).mono ?_
  rintro e w2 ⟨k2, rfl, hk2, hD2, hG2⟩
  have e2 := Go.IntWalk.i64_in (k1 + k2) (by omega)
  have hA2 := only_trans hA (only_trans hG1 hG2)
  have r2 := (r0.keptG hG1 hg).keptG hG2 hg
  clear r0 hD0 hD1 hG1 hG2 hA
  go_wp2
  go_loopw [3, 4] (fun lv nv wr => ∃ (k : Int) (qs : List Rc), 0 ≤ k ∧ k ≤ 7 ∧ (qs.length : Int) + k ≤ 7 ∧ nv = .int .i64 k ∧ RL wr w.heap.size lv qs ∧ okAll qs = true ∧ Dice wr g ∧ w.grownBy wr (some g)) (fun _ nv _ => (intOf nv).toNat)
  case atStart => exact ⟨k1 + k2, [], by omega, by omega, by simp; omega, rfl, r2, rfl, hD2, hA2⟩
  case round =>
    obtain ⟨k, qs, h0, h7, hql, rfl, hR, hok, hDr, hGr⟩ := hrel
    have Hok := Lib.hid hok
    clear r2 hD2 hA2 hok
    by_cases hk : k > 0
    · have ek := Go.IntWalk.i64_in (k - 1) (by omega)
      go_wp2_with fail
      refine (drawRect_any g _ hDr).mono ?_
      rintro e w3 ⟨⟨x0, y0, x1, y1⟩, rfl, hrc, hD3, hG3⟩
      have hR3 := hR.keptG hG3 hg
      have hA3 := only_trans hGr hG3
      have hl3 : qs.length ≤ 1000000 := by omega
      have Hrc := Lib.hid hrc
      have hsz := hA3.size
      clear hR hDr hGr hG3 hrc
      unfold Rc.val
      go_wp2_with (at_builtin; refine wpList_append_R rfl (.tmp 15) (.tmp 18) rfl w.heap.size _ qs rfl hR3 _ _ _ _ rfl hl3 hsz ?_; intro v' w' p1 p2 p3)
      exact ⟨⟨k - 1, qs ++ [⟨x0, y0, x1, y1⟩], by omega, by omega, by rw [List.length_append, List.length_singleton]; omega, rfl, p1, okAll_append Hok.out (by simp [okAll, Hrc.out]), hD3.below p3 hg, only_above hA3 p3⟩, by simp [intOf]; omega⟩
    · go_wp2_with fail
      refine (l03Bits_any _ qs _ (hR.less (Nat.zero_le _)) Hok.out).mono ?_
      rintro e w3 ⟨u3, rfl, hG3, hb3⟩
      go_wp2_with fail
      refine (l03Canon_any u3 _ _ (hG3.less (Nat.zero_le _))).mono ?_
      rintro e w4 ⟨u4, rfl, hR4, hb4⟩
      go_wp2
      go_ret
      exact ⟨_, _, rfl, hR4.less (Nat.le_trans hGr.size hb3.size), Nat.le_trans (canon_few _) (by omega), (hDr.on hb3).on hb4, only_below (only_below hGr hb3) hb4⟩

theorem next_ge1 (g : Nat) (n : Int) (w : World) (hD : Dice w g) (hn : 1 ≤ n ∧ n ≤ 1000000) : Calls Try.prog 70 #[.pointer (some ⟨g, 0, none⟩), .int .i64 n] w fun e w' => ∃ k : Int, e = .returned (.int .i64 k) ∧ (0 ≤ k ∧ k < n) ∧ Dice w' g ∧ w.grownBy w' (some g) := by
  by_cases h : n = 1
  · subst h
    refine (next_one g w).mono ?_
    rintro e w' ⟨rfl, rfl⟩
    exact ⟨0, rfl, by omega, hD, only_refl _ _⟩
  · exact next_any g n w hD (by omega)
theorem only_set3 {w wb : World} {g b : Nat} (hD : Dice wb g) (hg : g < b) (hwb : w.heap.size ≤ b) (hG : w.grownBy wb (some g)) (x0 x1 x2 : Value) :
    Dice (((wb.setCell ⟨b, 0, none⟩ x0).setCell ⟨b, 1, none⟩ x1).setCell ⟨b, 2, none⟩ x2) g ∧ w.grownBy (((wb.setCell ⟨b, 0, none⟩ x0).setCell ⟨b, 1, none⟩ x1).setCell ⟨b, 2, none⟩ x2) (some g) :=
  ⟨((hD.other (p := ⟨b, 0, none⟩) hg x0).other (p := ⟨b, 1, none⟩) hg x1).other (p := ⟨b, 2, none⟩) hg x2, only_above hG ((((Below.refl w.heap.size wb).setCell (p := ⟨b, 0, none⟩) hwb x0).setCell (p := ⟨b, 1, none⟩) hwb x1).setCell (p := ⟨b, 2, none⟩) hwb x2)⟩

theorem only_set4 {w wb : World} {g b : Nat} (hD : Dice wb g) (hg : g < b) (hwb : w.heap.size ≤ b) (hG : w.grownBy wb (some g)) (x0 x1 x2 x3 : Value) :
    Dice ((((wb.setCell ⟨b, 0, none⟩ x0).setCell ⟨b, 1, none⟩ x1).setCell ⟨b, 2, none⟩ x2).setCell ⟨b, 3, none⟩ x3) g ∧ w.grownBy ((((wb.setCell ⟨b, 0, none⟩ x0).setCell ⟨b, 1, none⟩ x1).setCell ⟨b, 2, none⟩ x2).setCell ⟨b, 3, none⟩ x3) (some g) :=
  ⟨(((hD.other (p := ⟨b, 0, none⟩) hg x0).other (p := ⟨b, 1, none⟩) hg x1).other (p := ⟨b, 2, none⟩) hg x2).other (p := ⟨b, 3, none⟩) hg x3, only_above hG (below4 (Below.refl w.heap.size wb) hwb x0 x1 x2 x3)⟩

set_option maxHeartbeats 1600000 in
set_option maxRecDepth 100000 in
theorem drawT_any (g : Nat) (w : World) (hD : Dice w g) : Calls Try.prog 111 #[.pointer (some ⟨g, 0, none⟩)] w fun e w' => ∃ o x y : Int, e = .returned (.agg #[.int .i64 o, .int .i64 x, .int .i64 y]) ∧ Dice w' g ∧ w.grownBy w' (some g) := by
  have hg := hD.lt
  have z0 := Bk.new w 61 #[.int .i64 0, .int .i64 0, .int .i64 0]
  have hD0 := hD.alloc (.cells #[.int .i64 0, .int .i64 0, .int .i64 0] 61)
  have hA0 := only_alloc (only_refl w (some g)) (.cells #[.int .i64 0, .int .i64 0, .int .i64 0] 61)
  clear hD
  go_enter Try.func111, Try.ntmps111
  go_wp2_with fail
  refine (next_any g 8 _ hD0 (by omega)).mono ?_
  rintro e w1 ⟨k1, rfl, hk1, hD1, hG1⟩
  go_wp2_with fail
  refine (next_any g 25 _ hD1 (by omega)).mono ?_
  rintro e w2 ⟨k2, rfl, hk2, hD2, hG2⟩
  have e2 := Go.IntWalk.i64_in (k2 - 12) (by omega)
  go_wp2_with fail
  refine (next_any g 25 _ hD2 (by omega)).mono ?_
  rintro e w3 ⟨k3, rfl, hk3, hD3, hG3⟩
  have e3 := Go.IntWalk.i64_in (k3 - 12) (by omega)
  have hA3 := only_trans (only_trans (only_trans hA0 hG1) hG2) hG3
  have z3 := ((z0.grown hG1 (by simp; omega)).grown hG2 (by simp; omega)).grown hG3 (by simp; omega)
  have hwl := z3.lt
  have z4 := z3.alloc (.cells #[.int .i64 k1, .int .i64 (k2 - 12), .int .i64 (k3 - 12)] 61)
  have hD4 := hD3.alloc (.cells #[.int .i64 k1, .int .i64 (k2 - 12), .int .i64 (k3 - 12)] 61)
  have hA4 := only_alloc hA3 (.cells #[.int .i64 k1, .int .i64 (k2 - 12), .int .i64 (k3 - 12)] 61)
  have zt := Bk.new w3 61 #[.int .i64 k1, .int .i64 (k2 - 12), .int .i64 (k3 - 12)]
  clear z0 z3 hD0 hA0 hD1 hG1 hD2 hG2 hD3 hG3 hA3
  go_wp2_with fail
  refine (next_any g 12 _ hD4 (by omega)).mono ?_
  rintro e w5 ⟨k5, rfl, hk5, hD5, hG5⟩
  have z5 := z4.grown hG5 (by simp; omega)
  have zt5 := zt.grown hG5 (by simp; omega)
  have hA5 := only_trans hA4 hG5
  clear z4 hD4 hA4 zt hG5
  by_cases hk0 : k5 = 0
  · subst hk0
    go_wp2_with fail
    refine (next_any g 163 _ hD5 (by omega)).mono ?_
    rintro e w6 ⟨k6, rfl, hk6, hD6, hG6⟩
    have e6 := Go.IntWalk.i64_in (k6 - 80) (by omega)
    have e7 := Go.IntWalk.i64_in (k6 - 80 - 1) (by omega)
    have z6 := z5.grown hG6 (by simp; omega)
    have zt6 := zt5.grown hG6 (by simp; omega)
    have hA6 := only_trans hA5 hG6
    clear z5 zt5 hD5 hA5 hG6
    have hne : w3.heap.size ≠ w.heap.size := by omega
    have zt7 : Bk (w6.setCell ⟨w3.heap.size, 1, none⟩ (.int .i64 (k6 - 80 - 1))) w3.heap.size 61 #[.int .i64 k1, .int .i64 (k6 - 80 - 1), .int .i64 (k3 - 12)] := zt6.store 1 _
    have z7 := z6.other (p := ⟨w3.heap.size, 1, none⟩) (show w.heap.size ≠ w3.heap.size by omega) (.int .i64 (k6 - 80 - 1))
    have hD7 := hD6.other (p := ⟨w3.heap.size, 1, none⟩) (show g < w3.heap.size by omega) (.int .i64 (k6 - 80 - 1))
    have hA7 := only_above hA6 ((Below.refl w.heap.size w6).setCell (p := ⟨w3.heap.size, 1, none⟩) (show w.heap.size ≤ w3.heap.size by omega) (.int .i64 (k6 - 80 - 1)))
    obtain ⟨p0, p1, p2⟩ := box3 zt6
    have r1 := zt6.frozen 1
    obtain ⟨c0, c1, c2⟩ := box3 z7
    obtain ⟨d0, d1, d2⟩ := box3 zt7
    have f0 := z7.frozen 0
    have f1 := z7.frozen 1
    have f2 := z7.frozen 2
    have hfin := only_set3 hD7 hg (Nat.le_refl _) hA7 (.int .i64 k1) (.int .i64 (k6 - 80 - 1)) (.int .i64 (k3 - 12))
    clear z6 zt6 hD6 hA6 zt7 z7 hD7 hA7
    go_wp2
    refine bodyPost_ret (v := .agg #[.int .i64 k1, .int .i64 (k6 - 80 - 1), .int .i64 (k3 - 12)]) (by simp [results, Try.results111, go_sem, *]) rfl ?_
    exact ⟨_, _, _, rfl, hfin.1, hfin.2⟩
  · obtain ⟨c0, c1, c2⟩ := box3 z5
    obtain ⟨d0, d1, d2⟩ := box3 zt5
    have f0 := z5.frozen 0
    have f1 := z5.frozen 1
    have f2 := z5.frozen 2
    have hfin := only_set3 hD5 hg (Nat.le_refl _) hA5 (.int .i64 k1) (.int .i64 (k2 - 12)) (.int .i64 (k3 - 12))
    clear z5 zt5 hD5 hA5
    go_wp2
    refine bodyPost_ret (v := .agg #[.int .i64 k1, .int .i64 (k2 - 12), .int .i64 (k3 - 12)]) (by simp [results, Try.results111, go_sem, *]) rfl ?_
    exact ⟨_, _, _, rfl, hfin.1, hfin.2⟩

set_option maxHeartbeats 1600000 in
set_option maxRecDepth 100000 in
/-- l02Spoil. -/
theorem spoilR_any (g : Nat) (r : Rc) (w : World) (hD : Dice w g) : Calls Try.prog 152 #[.pointer (some ⟨g, 0, none⟩), r.val, .int .i64 1] w fun e w' => ∃ a b p q : Int, e = .returned (.agg #[.int .i64 a, .int .i64 b, .int .i64 p, .int .i64 q]) ∧ Dice w' g ∧ w.grownBy w' (some g) := by
  obtain ⟨x0, y0, x1, y1⟩ := r
  unfold Rc.val
  dsimp only
  have hg := hD.lt
  have z0 := (Bk.new w 32 #[.int .i64 x0, .int .i64 y0, .int .i64 x1, .int .i64 y1]).alloc (.cells #[.int .i64 0, .int .i64 0, .int .i64 0, .int .i64 0] 32)
  have z1 := Bk.new (w.alloc (.cells #[.int .i64 x0, .int .i64 y0, .int .i64 x1, .int .i64 y1] 32)) 32 #[.int .i64 0, .int .i64 0, .int .i64 0, .int .i64 0]
  have e1 : (w.alloc (.cells #[.int .i64 x0, .int .i64 y0, .int .i64 x1, .int .i64 y1] 32)).heap.size = w.heap.size + 1 := by simp
  rw [e1] at z1
  have hD0 := (hD.alloc (.cells #[.int .i64 x0, .int .i64 y0, .int .i64 x1, .int .i64 y1] 32)).alloc (.cells #[.int .i64 0, .int .i64 0, .int .i64 0, .int .i64 0] 32)
  have hA0 := only_alloc (only_alloc (only_refl w (some g)) (.cells #[.int .i64 x0, .int .i64 y0, .int .i64 x1, .int .i64 y1] 32)) (.cells #[.int .i64 0, .int .i64 0, .int .i64 0, .int .i64 0] 32)
  clear hD e1
  go_enter Try.func152, Try.ntmps152
  go_wp2_with fail
  refine (next_one g _).mono ?_
  rintro e w1 ⟨rfl, rfl⟩
  go_wp2_with fail
  refine (next_any g 4 _ hD0 (by omega)).mono ?_
  rintro e w2 ⟨k, rfl, hk, hD2, hG2⟩
  have z02 := z0.grown hG2 (by simp; omega)
  have z12 := z1.grown hG2 (by simp; omega)
  have hA2 := only_trans hA0 hG2
  clear z0 z1 hD0 hA0 hG2
  by_cases h0 : k = 0
  · subst h0
    have z3 : Bk (w2.setCell ⟨w.heap.size, 2, none⟩ (.int .i64 x0)) w.heap.size 32 #[.int .i64 x0, .int .i64 y0, .int .i64 x0, .int .i64 y1] := z02.store 2 _
    have z4 := z12.other (p := ⟨w.heap.size, 2, none⟩) (show w.heap.size + 1 ≠ w.heap.size by omega) (.int .i64 x0)
    have hD3 := hD2.other (p := ⟨w.heap.size, 2, none⟩) hg (.int .i64 x0)
    have hA3 := only_above hA2 ((Below.refl w.heap.size w2).setCell (p := ⟨w.heap.size, 2, none⟩) (Nat.le_refl _) (.int .i64 x0))
    obtain ⟨c0, c1, c2, c3⟩ := box4 z02
    have g0 := z02.frozen 2
    obtain ⟨p0, p1, p2, p3⟩ := box4 z3
    obtain ⟨d0, d1, d2, d3⟩ := box4 z4
    have q0 := z4.frozen 0
    have q1 := z4.frozen 1
    have q2 := z4.frozen 2
    have q3 := z4.frozen 3
    have hfin := only_set4 hD3 (show g < w.heap.size + 1 by omega) (show w.heap.size ≤ w.heap.size + 1 by omega) hA3 (.int .i64 x0) (.int .i64 y0) (.int .i64 x0) (.int .i64 y1)
    clear z02 z12 z3 z4 hD2 hA2 hD3 hA3
    go_wp2
    refine bodyPost_ret (v := .agg #[.int .i64 x0, .int .i64 y0, .int .i64 x0, .int .i64 y1]) (by simp [results, Try.results152, go_sem, *]) rfl ?_
    exact ⟨_, _, _, _, rfl, hfin.1, hfin.2⟩
  · have b0 : (k == 0) = false := by simpa using h0
    by_cases h1 : k = 1
    · subst h1
      have z3 : Bk (w2.setCell ⟨w.heap.size, 3, none⟩ (.int .i64 (wrap64 (y0 - 1)))) w.heap.size 32 #[.int .i64 x0, .int .i64 y0, .int .i64 x1, .int .i64 (wrap64 (y0 - 1))] := z02.store 3 _
      have z4 := z12.other (p := ⟨w.heap.size, 3, none⟩) (show w.heap.size + 1 ≠ w.heap.size by omega) (.int .i64 (wrap64 (y0 - 1)))
      have hD3 := hD2.other (p := ⟨w.heap.size, 3, none⟩) hg (.int .i64 (wrap64 (y0 - 1)))
      have hA3 := only_above hA2 ((Below.refl w.heap.size w2).setCell (p := ⟨w.heap.size, 3, none⟩) (Nat.le_refl _) (.int .i64 (wrap64 (y0 - 1))))
      obtain ⟨c0, c1, c2, c3⟩ := box4 z02
      have g0 := z02.frozen 3
      obtain ⟨p0, p1, p2, p3⟩ := box4 z3
      obtain ⟨d0, d1, d2, d3⟩ := box4 z4
      have q0 := z4.frozen 0
      have q1 := z4.frozen 1
      have q2 := z4.frozen 2
      have q3 := z4.frozen 3
      have hfin := only_set4 hD3 (show g < w.heap.size + 1 by omega) (show w.heap.size ≤ w.heap.size + 1 by omega) hA3 (.int .i64 x0) (.int .i64 y0) (.int .i64 x1) (.int .i64 (wrap64 (y0 - 1)))
      clear z02 z12 z3 z4 hD2 hA2 hD3 hA3
      go_wp2
      refine bodyPost_ret (v := .agg #[.int .i64 x0, .int .i64 y0, .int .i64 x1, .int .i64 (wrap64 (y0 - 1))]) (by simp [results, Try.results152, go_sem, *]) rfl ?_
      exact ⟨_, _, _, _, rfl, hfin.1, hfin.2⟩
    · have b1 : (k == 1) = false := by simpa using h1
      by_cases h2 : k = 2
      · subst h2
        have z3 : Bk (w2.setCell ⟨w.heap.size, 0, none⟩ (.int .i64 (-41))) w.heap.size 32 #[.int .i64 (-41), .int .i64 y0, .int .i64 x1, .int .i64 y1] := z02.store 0 _
        have z4 := z12.other (p := ⟨w.heap.size, 0, none⟩) (show w.heap.size + 1 ≠ w.heap.size by omega) (.int .i64 (-41))
        have hD3 := hD2.other (p := ⟨w.heap.size, 0, none⟩) hg (.int .i64 (-41))
        have hA3 := only_above hA2 ((Below.refl w.heap.size w2).setCell (p := ⟨w.heap.size, 0, none⟩) (Nat.le_refl _) (.int .i64 (-41)))
        obtain ⟨c0, c1, c2, c3⟩ := box4 z02
        have g0 := z02.frozen 0
        obtain ⟨p0, p1, p2, p3⟩ := box4 z3
        obtain ⟨d0, d1, d2, d3⟩ := box4 z4
        have q0 := z4.frozen 0
        have q1 := z4.frozen 1
        have q2 := z4.frozen 2
        have q3 := z4.frozen 3
        have hfin := only_set4 hD3 (show g < w.heap.size + 1 by omega) (show w.heap.size ≤ w.heap.size + 1 by omega) hA3 (.int .i64 (-41)) (.int .i64 y0) (.int .i64 x1) (.int .i64 y1)
        clear z02 z12 z3 z4 hD2 hA2 hD3 hA3
        go_wp2
        refine bodyPost_ret (v := .agg #[.int .i64 (-41), .int .i64 y0, .int .i64 x1, .int .i64 y1]) (by simp [results, Try.results152, go_sem, *]) rfl ?_
        exact ⟨_, _, _, _, rfl, hfin.1, hfin.2⟩
      · have b2 : (k == 2) = false := by simpa using h2
        have z3 : Bk (w2.setCell ⟨w.heap.size, 3, none⟩ (.int .i64 41)) w.heap.size 32 #[.int .i64 x0, .int .i64 y0, .int .i64 x1, .int .i64 41] := z02.store 3 _
        have z4 := z12.other (p := ⟨w.heap.size, 3, none⟩) (show w.heap.size + 1 ≠ w.heap.size by omega) (.int .i64 41)
        have hD3 := hD2.other (p := ⟨w.heap.size, 3, none⟩) hg (.int .i64 41)
        have hA3 := only_above hA2 ((Below.refl w.heap.size w2).setCell (p := ⟨w.heap.size, 3, none⟩) (Nat.le_refl _) (.int .i64 41))
        obtain ⟨c0, c1, c2, c3⟩ := box4 z02
        have g0 := z02.frozen 3
        obtain ⟨p0, p1, p2, p3⟩ := box4 z3
        obtain ⟨d0, d1, d2, d3⟩ := box4 z4
        have q0 := z4.frozen 0
        have q1 := z4.frozen 1
        have q2 := z4.frozen 2
        have q3 := z4.frozen 3
        have hfin := only_set4 hD3 (show g < w.heap.size + 1 by omega) (show w.heap.size ≤ w.heap.size + 1 by omega) hA3 (.int .i64 x0) (.int .i64 y0) (.int .i64 x1) (.int .i64 41)
        clear z02 z12 z3 z4 hD2 hA2 hD3 hA3
        go_wp2
        refine bodyPost_ret (v := .agg #[.int .i64 x0, .int .i64 y0, .int .i64 x1, .int .i64 41]) (by simp [results, Try.results152, go_sem, *]) rfl ?_
        exact ⟨_, _, _, _, rfl, hfin.1, hfin.2⟩

set_option maxHeartbeats 3200000 in
set_option maxRecDepth 100000 in
/-- l03Spoil. -/
theorem spoilL_any (g : Nat) (v : Value) (rs : List Rc) (w : World) (hD : Dice w g) (hv : RL w (g + 1) v rs) (hl : rs.length ≤ 7000) : Calls Try.prog 112 #[.pointer (some ⟨g, 0, none⟩), v, .int .i64 12] w fun e w' => ∃ u qs, e = .returned u ∧ RL w' (g + 1) u qs ∧ qs.length ≤ 7001 ∧ Dice w' g ∧ w.grownBy w' (some g) := by
  have hg := hD.lt
  obtain ⟨A, c, rfl, hc, hm, -⟩ := hv.form
  go_enter Try.func112, Try.ntmps112
  go_wp2_with fail
  refine (next_any g 12 _ hD (by omega)).mono ?_
  rintro e w1 ⟨k, rfl, hk, hD1, hG1⟩
  have hv1 := hv.keptG hG1 (Nat.lt_succ_self g)
  clear hD hv
  by_cases hk0 : k = 0
  · subst hk0
    have r1 : RL (w1.alloc (.cells #[] 32)) w.heap.size (.slice (some ⟨w1.heap.size, 0, none⟩) 0 0) [] := row_empty w1 w.heap.size _ rfl hG1.size
    have hv2 := RL.alloc hv1 (.cells #[] 32)
    have hD2 := hD1.alloc (.cells #[] 32)
    have hA2 := only_alloc hG1 (.cells #[] 32)
    have hs2 := hA2.size
    have hlen : ([] : List Rc).length + rs.length ≤ 1000000 := by rw [List.length_nil]; omega
    clear hv1 hD1 hG1
    by_cases hl0 : rs.length = 0
    · have hlb : ((rs.length : Int) == 0) = true := by rw [hl0]; rfl
      clear hl0
      go_wp2_with (first | (at_builtin; refine wpList_append_RR rfl (.tmp 14) (.tmp 15) rfl w.heap.size (g + 1) _ _ _ _ rfl r1 rfl hv2 hlen hs2 ?_; intro v' w3 hR3 hb3; rw [List.nil_append] at hR3; obtain ⟨A', c', rfl, hc', hm', -⟩ := hR3.form; have hD3 := hD2.below hb3 hg; have hA3 := only_above hA2 hb3; clear hv2 hD2 hA2 hb3 r1 hs2; have hs3 := hA3.size; have hl3 : rs.length ≤ 1000000 := by omega) | (at_builtin; refine wpList_append_R rfl (.tmp 20) (.tmp 22) rfl w.heap.size _ rs rfl hR3 _ _ _ _ rfl hl3 hs3 ?_; intro v4 w4 hR4 hG4 hb4))
      go_ret
      exact ⟨_, _, rfl, hR4.less (by omega), by rw [List.length_append, List.length_singleton]; omega, hD3.below hb4 hg, only_above hA3 hb4⟩
    · have hlb : ((rs.length : Int) == 0) = false := by simpa using hl0
      go_wp2_with (at_builtin; refine wpList_append_RR rfl (.tmp 14) (.tmp 15) rfl w.heap.size (g + 1) _ _ _ _ rfl r1 rfl hv2 hlen hs2 ?_; intro v' w3 hR3 hb3; rw [List.nil_append] at hR3; obtain ⟨A', c', rfl, hc', hm', -⟩ := hR3.form; have hD3 := hD2.below hb3 hg; have hA3 := only_above hA2 hb3; clear hv2 hD2 hA2 hb3 r1 hs2)
      go_wp2_with fail
      refine (next_ge1 g _ _ hD3 (by omega)).mono ?_
      rintro e w4 ⟨i, rfl, hi, hD4, hG4⟩
      have hR4 := hR3.keptG hG4 hg
      have hA4 := only_trans hA3 hG4
      clear hR3 hD3 hA3 hG4
      go_wp2_with fail
      refine (next_any g 3 _ hD4 (by omega)).mono ?_
      rintro e w5 ⟨q, rfl, hq, hD5, hG5⟩
      have hR5 := hR4.keptG hG5 hg
      have hA5 := only_trans hA4 hG5
      clear hR4 hD4 hA4 hG5
      obtain ⟨m, rfl⟩ := Int.eq_ofNat_of_zero_le hi.1
      have hml : m < rs.length := by omega
      obtain ⟨gr, x0, y0, x1, y1, rfl, hr, hgr, f0, f1, f2, f3⟩ := hR5.elem hml
      have Hr := Lib.hid hr
      clear hr
      have hbs := hR5.base
      by_cases h0 : q = 0
      · subst h0
        go_wp2_with (go_at_call 152; refine (spoilR_any g ⟨x0, y0, x1, y1⟩ _ hD5).mono ?_; rintro e w6 ⟨a, b, p, s, rfl, hD6, hG6⟩; have hR6 := hR5.keptG hG6 hg; obtain ⟨q0, q1, q2, q3, z0, z1, z2, z3⟩ := hR6.any4 hml; have z := hR6.frozen; have t0 := z (m * 4); have t1 := z (m * 4 + 1); have t2 := z (m * 4 + 2); have t3 := z (m * 4 + 3); clear z)
        go_ret
        have hgg : g < gr := by omega
        exact ⟨_, _, rfl, ((hR5.keptG hG6 hg).set4 hml a b p s).less (by omega), by rw [List.length_set]; omega, (((hD6.other (p := ⟨gr, m * 4, none⟩) hgg _).other (p := ⟨gr, m * 4 + 1, none⟩) hgg _).other (p := ⟨gr, m * 4 + 2, none⟩) hgg _).other (p := ⟨gr, m * 4 + 3, none⟩) hgg _, only_above (only_trans hA5 hG6) ((((((Below.refl w.heap.size w6).setCell (p := ⟨gr, m * 4, none⟩) hbs.1 _).setCell (p := ⟨gr, m * 4 + 1, none⟩) hbs.1 _).setCell (p := ⟨gr, m * 4 + 2, none⟩) hbs.1 _).setCell (p := ⟨gr, m * 4 + 3, none⟩) hbs.1 _))⟩
      · have b0 : (q == 0) = false := by simpa using h0
        by_cases h1 : q = 1
        · subst h1
          have hs5 := hA5.size
          have hl5 : rs.length ≤ 1000000 := by omega
          go_wp2_with (at_builtin; refine wpList_append_R rfl (.tmp 51) (.tmp 56) rfl w.heap.size _ rs rfl hR5 _ _ _ _ rfl hl5 hs5 ?_; intro v6 w6 hR6 hG6 hb6)
          go_ret
          exact ⟨_, _, rfl, hR6.less (by omega), by rw [List.length_append, List.length_singleton]; omega, hD5.below hb6 hg, only_above hA5 hb6⟩
        · have b1 : (q == 1) = false := by simpa using h1
          have t2 := hR5.frozen (m * 4 + 2)
          go_wp2
          go_ret
          exact ⟨_, _, rfl, (hR5.setX Hr.out (wrap64 (x1 + 1))).less (by omega), by rw [List.length_set]; omega, hD5.other (p := ⟨gr, m * 4 + 2, none⟩) (by show g < gr; omega) _, only_above hA5 ((Below.refl w.heap.size w5).setCell (p := ⟨gr, m * 4 + 2, none⟩) hbs.1 _)⟩
  · have hkb : (k == 0) = false := by simpa using hk0
    have hkn : (k != 0) = true := by simpa using hk0
    go_wp2
    go_ret
    exact ⟨_, _, rfl, hv1, by omega, hD1, hG1⟩


/-- A store into a block that is neither the source nor the input. -/
theorem Dice.skip {w : World} {g b : Nat} (h : Dice w g) (hne : g ≠ b) (hlo : Low.low ≤ b) (j : Nat) (x : Value) : Dice (w.setCell ⟨b, j, none⟩ x) g := by
  obtain ⟨A, n, c, i, s, h1, h2, h3, h4, h5, h6, h7⟩ := h.blk
  exact ⟨A, n, c, i, s, h1.other (p := ⟨b, j, none⟩) hne x, h2, h3, h4, h5, h6.low (B := b) (fun p hp hn => Nat.lt_of_lt_of_le (h7 p hp hn).1 hlo) ((Below.refl b w).setCell (p := ⟨b, j, none⟩) (Nat.le_refl _) x), h7⟩
def set3 (w : World) (b : Nat) (x0 x1 x2 : Value) : World := ((w.setCell ⟨b, 0, none⟩ x0).setCell ⟨b, 1, none⟩ x1).setCell ⟨b, 2, none⟩ x2
theorem set3_dice {w : World} {g b : Nat} (h : Dice w g) (hne : g ≠ b) (hlo : Low.low ≤ b) (x0 x1 x2 : Value) : Dice (((w.setCell ⟨b, 0, none⟩ x0).setCell ⟨b, 1, none⟩ x1).setCell ⟨b, 2, none⟩ x2) g := ((h.skip hne hlo 0 x0).skip hne hlo 1 x1).skip hne hlo 2 x2

set_option maxHeartbeats 1600000 in
set_option maxRecDepth 100000 in
theorem drawMove_aux (A : Option Addr) (n c : Nat) (w : World) (hA : ArgB w A n) (hn : n ≤ 4096) (hlo : ∀ p, A = some p → 0 < n → p.block < Low.low) (hls : Low.low ≤ w.heap.size) : Calls Try.prog 57 #[.slice A n c] w fun e w' => ∃ (o x y : Int) (v : Value) (rs : List Rc), e = .returned (.tuple #[.agg #[.int .i64 o, .int .i64 x, .int .i64 y], v]) ∧ RL w' w.heap.size v rs ∧ rs.length ≤ 7001 ∧ Below w.heap.size w w' := by
  have r0 := Bk.new w 61 #[.int .i64 0, .int .i64 0, .int .i64 0]
  have hA0 := hA.on ((Below.refl w.heap.size w).alloc (Nat.le_refl _) (.cells #[.int .i64 0, .int .i64 0, .int .i64 0] 61))
  have hb0 := (Below.refl w.heap.size w).alloc (Nat.le_refl _) (.cells #[.int .i64 0, .int .i64 0, .int .i64 0] 61)
  have hs0 : (w.alloc (.cells #[.int .i64 0, .int .i64 0, .int .i64 0] 61)).heap.size = w.heap.size + 1 := by simp
  have hls0 : Low.low ≤ (w.alloc (.cells #[.int .i64 0, .int .i64 0, .int .i64 0] 61)).heap.size := Nat.le_trans hls hb0.size
  clear hA
  go_enter Try.func57, Try.ntmps57
  go_wp2_with fail
  refine (from_any A n c _ hA0 hn hlo hls0).mono ?_
  rintro e w1 ⟨g, rfl, hg, hD1, hb1⟩
  rw [hs0] at hg
  have r1 := r0.on hb1
  replace hb1 := hb0.trans (hb1.mono hb0.size)
  clear r0 hA0 hb0 hs0 hls0
  go_wp2_with fail
  refine (drawT_any g _ hD1).mono ?_
  rintro e w2 ⟨o, x, y, rfl, hD2, hG2⟩
  have hng : some w.heap.size ≠ some g := by simp; omega
  have r2 := r1.grown hG2 hng
  have hgq : ∀ q, some g = some q → w.heap.size ≤ q := fun q hq => by simp at hq; omega
  have hb2 := hb1.trans (grown_below hG2 hgq hb1.size)
  have hgl := hD2.lt
  have hwl := r2.lt
  have z3 := Bk.new w2 61 #[.int .i64 o, .int .i64 x, .int .i64 y]
  have r3 := r2.alloc (.cells #[.int .i64 o, .int .i64 x, .int .i64 y] 61)
  have hD3 := hD2.alloc (.cells #[.int .i64 o, .int .i64 x, .int .i64 y] 61)
  have hb3 := hb2.alloc hb2.size (.cells #[.int .i64 o, .int .i64 x, .int .i64 y] 61)
  clear r1 hb1 hD1 hG2 r2 hb2 hD2
  go_wp2
  revert z3 r3 hD3 hb3 hgl hwl
  generalize w2.alloc (.cells #[.int .i64 o, .int .i64 x, .int .i64 y] 61) = w3
  generalize w2.heap.size = b
  intro hgl hwl z3 r3 hD3 hb3
  have hne : some b ≠ some g := by simp; omega
  have hgw : g ≠ w.heap.size := by omega
  have hbw : b ≠ w.heap.size := by omega
  have hwg : w.heap.size < g + 1 := by omega
  have hD := hD3.drew
  have z := z3.drew
  have r := r3.drew
  have hb := hb3.drew
  have t1 := fun (wz : World) (h : Bk wz b 61 #[.int .i64 o, .int .i64 x, .int .i64 y]) => box3 h
  have hT := fun (wz : World) (h : Dice wz g) => set3_dice h hgw hls (.int .i64 o) (.int .i64 x) (.int .i64 y)
  have hZ := fun (wz : World) (h : Bk wz b 61 #[.int .i64 o, .int .i64 x, .int .i64 y]) => ((h.other (p := ⟨w.heap.size, 0, none⟩) hbw (.int .i64 o)).other (p := ⟨w.heap.size, 1, none⟩) hbw (.int .i64 x)).other (p := ⟨w.heap.size, 2, none⟩) hbw (.int .i64 y)
  have hW := fun (wz : World) (h : Bk wz w.heap.size 61 #[.int .i64 0, .int .i64 0, .int .i64 0]) => (show Bk (((wz.setCell ⟨w.heap.size, 0, none⟩ (.int .i64 o)).setCell ⟨w.heap.size, 1, none⟩ (.int .i64 x)).setCell ⟨w.heap.size, 2, none⟩ (.int .i64 y)) w.heap.size 61 #[.int .i64 o, .int .i64 x, .int .i64 y] from ((h.store 0 _).store 1 _).store 2 _)
  have hV := fun (wz : World) (h : Below w.heap.size w wz) => ((h.setCell (p := ⟨w.heap.size, 0, none⟩) (Nat.le_refl _) (.int .i64 o)).setCell (p := ⟨w.heap.size, 1, none⟩) (Nat.le_refl _) (.int .i64 x)).setCell (p := ⟨w.heap.size, 2, none⟩) (Nat.le_refl _) (.int .i64 y)
  have hU := fun (wz : World) (v : Value) (L : List Rc) (h : RL wz (g + 1) v L) => h.keptG (only_store (only_store (only_store (only_refl wz (some w.heap.size)) 0 (.int .i64 o)) 1 (.int .i64 x)) 2 (.int .i64 y)) hwg
  clear hD3 z3 r3 hb3
  have P := True.intro
  obtain ⟨c0, c1, c2⟩ := box3 r
  have f0 := r.frozen 0
  have f1 := r.frozen 1
  have f2 := r.frozen 2
  go_region_held3 (fun w' => w'.cell? ⟨b, 0, none⟩ = some (.int .i64 o) ∧ w'.cell? ⟨b, 1, none⟩ = some (.int .i64 x) ∧ w'.cell? ⟨b, 2, none⟩ = some (.int .i64 y)) (first | exact t1 _ z | exact t1 _ (hZ _ z))
    (first
      | (go_at_call 113; (first | refine (drawRegion3_any g _ hD).mono ?_ | (have r := hW _ r; have z := hZ _ z; have hb := hV _ hb; have hD := hT _ hD; refine (drawRegion3_any g _ hD).mono ?_)); have hDl := hD.lt; rintro e w6 ⟨v, rs, rfl, hR, hl, hD, hG⟩; have hR := hR.less ((hDl : g < _)); have z := z.grown hG hne; have r := r.grown hG hng; have hb := hb.trans (grown_below hG hgq hb.size); (obtain ⟨c0, c1, c2⟩ := box3 r); have f0 := r.frozen 0; have f1 := r.frozen 1; have f2 := r.frozen 2)
      | (go_at_call 112; (first | refine (spoilL_any g _ _ _ hD hR hl).mono ?_ | (have r := hW _ r; have z := hZ _ z; have hb := hV _ hb; have hD := hT _ hD; have hR := hU _ _ _ hR; refine (spoilL_any g _ _ _ hD hR hl).mono ?_)); rintro e w7 ⟨u, qs, rfl, hQ, hql, hD, hG⟩; have z := z.grown hG hne; have r := r.grown hG hng; have hb := hb.trans (grown_below hG hgq hb.size); (obtain ⟨c0, c1, c2⟩ := box3 r); have f0 := r.frozen 0; have f1 := r.frozen 1; have f2 := r.frozen 2))
  all_goals
    first
      | (have r := hW _ r
         have hb := hV _ hb
         have hQ := hU _ _ _ hQ
         obtain ⟨q0, q1, q2⟩ := box3 r
         clear z r t1 hT hZ hW hV hU hD
         go_wp2
         refine bodyPost_ret (v := .tuple #[.agg #[.int .i64 o, .int .i64 x, .int .i64 y], u]) (by simp [results, Try.results57, go_sem, *]) rfl ?_
         exact ⟨_, _, _, _, _, rfl, hQ.less (by omega), hql, hb⟩)
      | (clear z t1 hT hZ hW hV hU hD
         go_wp2
         refine bodyPost_ret (v := .tuple #[.agg #[.int .i64 o, .int .i64 x, .int .i64 y], u]) (by simp [results, Try.results57, go_sem, *]) rfl ?_
         exact ⟨_, _, _, _, _, rfl, hQ.less (by omega), hql, hb⟩)


end Go.Proofs.Ytooglkdloaaomaa.Z

namespace Go.Proofs.Ytooglkdloaaomaa
open Go.RowKit

/-- DrawMoveRegion. -/
theorem drawMove_any (A : Option Addr) (n c : Nat) (w : World) (hA : ArgB w A n) (hn : n ≤ 4096) : Calls Try.prog 57 #[.slice A n c] w fun e w' => ∃ (o x y : Int) (v : Value) (rs : List Rc), e = .returned (.tuple #[.agg #[.int .i64 o, .int .i64 x, .int .i64 y], v]) ∧ RL w' w.heap.size v rs ∧ rs.length ≤ 7001 ∧ Below w.heap.size w w' :=
  @Z.drawMove_aux ⟨w.heap.size⟩ A n c w hA hn hA.at_ (Nat.le_refl _)

end Go.Proofs.Ytooglkdloaaomaa
