/- Contracts: l06Across, l06Pair, l06Line, the reference's FacingEdges. Conditions: a set of cells in memory, a region in memory. -/
import Derived.Test.YtjiljodchebniaaGreatQ19
import Derived.Deep.RegionHeld3
import Derived.Deep.CutRange

namespace Go.Proofs.YtjiljodchebniaaGreat
open Go.RowKit

set_option maxHeartbeats 400000 in
/-- l06Across. -/
theorem across_any (u : Value) (G : Gr) (v : Bool) (t a : Int) (w : World) (hG : GS w 0 u G) :
    Calls Tryz.prog 74 #[u, .int .i64 t, .int .i64 a, .bool (!v)] w fun e w' => e = .returned (.bool (lnG G v a t)) ∧ w = w' := by
  have HQ : Hid (∀ (a b : Int), Calls Tryz.prog 103 #[u, .int .i64 a, .int .i64 b] w fun e w' => e = .returned (.bool (hasG G a b)) ∧ w = w') := Lib.hid fun a b => l03Has_any u G a b w hG
  clear hG
  cases v
  · rw [lnG_h]
    go_enter Tryz.func74, Tryz.ntmps74
    go_wp2_with (go_at_call 103; (with_reducible refine (HQ.out _ _).mono ?_); rintro e w1 ⟨rfl, rfl⟩)
    go_ret
    exact ⟨rfl, rfl⟩
  · rw [lnG_v]
    go_enter Tryz.func74, Tryz.ntmps74
    go_wp2_with (go_at_call 103; (with_reducible refine (HQ.out _ _).mono ?_); rintro e w1 ⟨rfl, rfl⟩)
    go_ret
    exact ⟨rfl, rfl⟩
theorem Bk.keep {w : World} {b : Nat} {t : TypeId} {cs : Array Value} (h : Bk w b t cs) : Hid (∀ W, Below w.heap.size w W → Bk W b t cs) := Lib.hid fun _ hW => h.on hW


set_option maxHeartbeats 3200000 in
set_option maxRecDepth 100000 in
theorem pairH_any (u : Value) (G : Gr) (a p q : Int) (w : World) (hG : GS w 0 u G) (h1 : stG G true p a = 1) (h2 : stG G true q a = -1) (hp : -40 ≤ p ∧ p ≤ 40) (hq : -40 ≤ q ∧ q ≤ 40) (ha : -40 ≤ a ∧ a ≤ 40) :
    Calls Tryz.prog 76 #[u, .int .i64 p, .int .i64 q, .int .i64 a, .bool true, .bool true] w fun e w' => ∃ x0 x1 x2 x3 x4 x5 x6 x7 xd, e = .returned (.agg #[.int .i64 x0, .int .i64 x1, .int .i64 x2, .int .i64 x3, .int .i64 x4, .int .i64 x5, .int .i64 x6, .int .i64 x7, .int .i64 xd]) ∧ pairOf G false a p q = ⟨⟨x0, x1, x2, x3⟩, ⟨x4, x5, x6, x7⟩⟩ ∧ xd = q - p ∧ Below w.heap.size w w' := by
  have e1 := Go.IntWalk.i64_in (a + 1) (by omega)
  have e2 := Go.IntWalk.i64_in (q - p) (by omega)
  obtain ⟨⟨x0, x1, x2, x3⟩, hX⟩ : ∃ E, wholeE G true 1 p a = E := ⟨_, rfl⟩
  obtain ⟨⟨x4, x5, x6, x7⟩, hY⟩ : ∃ E, wholeE G true (-1) q a = E := ⟨_, rfl⟩
  have HA := Lib.hid (show ∀ W, Below w.heap.size w W → Calls Tryz.prog 105 #[u, .agg #[.int .i64 p, .int .i64 (a + 1), .int .i64 p, .int .i64 a]] W fun e w' => e = .returned (.agg #[.int .i64 x0, .int .i64 x1, .int .i64 x2, .int .i64 x3]) ∧ Below W.heap.size W w' from fun W hW => by
    have := wholeC_any u G p a W (hG.on hW) h1
    rw [hX] at this
    exact this)
  have HB := Lib.hid (show ∀ W, Below w.heap.size w W → Calls Tryz.prog 105 #[u, .agg #[.int .i64 q, .int .i64 a, .int .i64 q, .int .i64 (a + 1)]] W fun e w' => e = .returned (.agg #[.int .i64 x4, .int .i64 x5, .int .i64 x6, .int .i64 x7]) ∧ Below W.heap.size W w' from fun W hW => by
    have := wholeD_any u G q a W (hG.on hW) h2
    rw [hY] at this
    exact this)
  have HP : Hid (pairOf G false a p q = ⟨⟨x0, x1, x2, x3⟩, ⟨x4, x5, x6, x7⟩⟩) := Lib.hid (by unfold pairOf; simp only [Bool.not_false]; rw [hX, hY])
  have k0 := Bk.new w 50 #[.int .i64 0, .int .i64 0, .int .i64 0, .int .i64 0, .int .i64 0, .int .i64 0, .int .i64 0, .int .i64 0, .int .i64 0]
  have k1 := Bk.new (w.alloc (.cells #[.int .i64 0, .int .i64 0, .int .i64 0, .int .i64 0, .int .i64 0, .int .i64 0, .int .i64 0, .int .i64 0, .int .i64 0] 50)) 48 #[.int .i64 p, .int .i64 (a + 1), .int .i64 p, .int .i64 a]
  have k2 := Bk.new ((w.alloc (.cells #[.int .i64 0, .int .i64 0, .int .i64 0, .int .i64 0, .int .i64 0, .int .i64 0, .int .i64 0, .int .i64 0, .int .i64 0] 50)).alloc (.cells #[.int .i64 p, .int .i64 (a + 1), .int .i64 p, .int .i64 a] 48)) 48 #[.int .i64 q, .int .i64 a, .int .i64 q, .int .i64 (a + 1)]
  have s1 : (w.alloc (.cells #[.int .i64 0, .int .i64 0, .int .i64 0, .int .i64 0, .int .i64 0, .int .i64 0, .int .i64 0, .int .i64 0, .int .i64 0] 50)).heap.size = w.heap.size + 1 := by simp
  have s2 : ((w.alloc (.cells #[.int .i64 0, .int .i64 0, .int .i64 0, .int .i64 0, .int .i64 0, .int .i64 0, .int .i64 0, .int .i64 0, .int .i64 0] 50)).alloc (.cells #[.int .i64 p, .int .i64 (a + 1), .int .i64 p, .int .i64 a] 48)).heap.size = w.heap.size + 1 + 1 := by simp
  have s3 : (((w.alloc (.cells #[.int .i64 0, .int .i64 0, .int .i64 0, .int .i64 0, .int .i64 0, .int .i64 0, .int .i64 0, .int .i64 0, .int .i64 0] 50)).alloc (.cells #[.int .i64 p, .int .i64 (a + 1), .int .i64 p, .int .i64 a] 48)).alloc (.cells #[.int .i64 q, .int .i64 a, .int .i64 q, .int .i64 (a + 1)] 48)).heap.size = w.heap.size + 1 + 1 + 1 := by simp
  rw [s1] at k1
  rw [s2] at k2
  have b3 : Below w.heap.size w (((w.alloc (.cells #[.int .i64 0, .int .i64 0, .int .i64 0, .int .i64 0, .int .i64 0, .int .i64 0, .int .i64 0, .int .i64 0, .int .i64 0] 50)).alloc (.cells #[.int .i64 p, .int .i64 (a + 1), .int .i64 p, .int .i64 a] 48)).alloc (.cells #[.int .i64 q, .int .i64 a, .int .i64 q, .int .i64 (a + 1)] 48)) := (((Below.refl _ _).alloc (Nat.le_refl _) _).alloc (by simp) _).alloc (by simp; omega) _
  have m0 := (k0.alloc (.cells #[.int .i64 p, .int .i64 (a + 1), .int .i64 p, .int .i64 a] 48)).alloc (.cells #[.int .i64 q, .int .i64 a, .int .i64 q, .int .i64 (a + 1)] 48)
  have m1 := k1.alloc (.cells #[.int .i64 q, .int .i64 a, .int .i64 q, .int .i64 (a + 1)] 48)
  have m2 := k2
  clear hG h1 h2 hX hY k0 k1 k2 s1 s2
  obtain ⟨W0, hW0⟩ : ∃ W, W = (((w.alloc (.cells #[.int .i64 0, .int .i64 0, .int .i64 0, .int .i64 0, .int .i64 0, .int .i64 0, .int .i64 0, .int .i64 0, .int .i64 0] 50)).alloc (.cells #[.int .i64 p, .int .i64 (a + 1), .int .i64 p, .int .i64 a] 48)).alloc (.cells #[.int .i64 q, .int .i64 a, .int .i64 q, .int .i64 (a + 1)] 48)) := ⟨_, rfl⟩
  rw [← hW0] at m0 m1 m2 s3 b3
  go_enter Tryz.func76, Tryz.ntmps76
  go_wp2
  rw [← hW0]
  have K0 := m0.keep
  have HB0 := Lib.hid b3
  have HC := Lib.hid (show ∀ W, W0.grownBy W (some w.heap.size) → (W.cell? ⟨w.heap.size + 1, 0, none⟩ = some (.int .i64 p) ∧ W.cell? ⟨w.heap.size + 1, 1, none⟩ = some (.int .i64 (a + 1)) ∧ W.cell? ⟨w.heap.size + 1, 2, none⟩ = some (.int .i64 p) ∧ W.cell? ⟨w.heap.size + 1, 3, none⟩ = some (.int .i64 a)) ∧ W.cell? ⟨w.heap.size + 1 + 1, 0, none⟩ = some (.int .i64 q) ∧ W.cell? ⟨w.heap.size + 1 + 1, 1, none⟩ = some (.int .i64 a) ∧ W.cell? ⟨w.heap.size + 1 + 1, 2, none⟩ = some (.int .i64 q) ∧ W.cell? ⟨w.heap.size + 1 + 1, 3, none⟩ = some (.int .i64 (a + 1)) from fun W hW => ⟨box4 (only_bk hW m1 (by omega)), box4 (only_bk hW m2 (by omega))⟩)
  have tc := Lib.hid (Below.refl W0.heap.size W0).drew
  have gc := Lib.hid (only_drew (only_refl W0 (some w.heap.size)))
  have hs0 : w.heap.size ≤ W0.heap.size := by omega
  clear hW0 m0 b3
  go_region_held3 (fun W => (W.cell? ⟨w.heap.size + 1, 0, none⟩ = some (.int .i64 p) ∧ W.cell? ⟨w.heap.size + 1, 1, none⟩ = some (.int .i64 (a + 1)) ∧ W.cell? ⟨w.heap.size + 1, 2, none⟩ = some (.int .i64 p) ∧ W.cell? ⟨w.heap.size + 1, 3, none⟩ = some (.int .i64 a)) ∧ W.cell? ⟨w.heap.size + 1 + 1, 0, none⟩ = some (.int .i64 q) ∧ W.cell? ⟨w.heap.size + 1 + 1, 1, none⟩ = some (.int .i64 a) ∧ W.cell? ⟨w.heap.size + 1 + 1, 2, none⟩ = some (.int .i64 q) ∧ W.cell? ⟨w.heap.size + 1 + 1, 3, none⟩ = some (.int .i64 (a + 1)))
    (first | with_reducible exact HC.out _ gc.out | with_reducible exact HC.out _ gx.out | with_reducible exact HC.out _ gy.out | with_reducible exact HC.out _ (only_store (only_store (only_store (only_store (only_store (only_store (only_store (only_store (only_store gy.out 0 _) 1 _) 2 _) 3 _) 4 _) 5 _) 6 _) 7 _) 8 _))
    (first
      | (go_at_call 105; (with_reducible refine (HA.out _ (HB0.out.trans (tc.out.mono hs0))).mono ?_); rintro e w1 ⟨rfl, hb1⟩; have tx := Lib.hid (tc.out.trans (hb1.mono tc.out.size)); have gx := Lib.hid (only_below gc.out hb1))
      | (go_at_call 105; (with_reducible refine (HB.out _ (HB0.out.trans (tx.out.mono hs0))).mono ?_); rintro e w2 ⟨rfl, hb2⟩; have ty := Lib.hid (tx.out.trans (hb2.mono tx.out.size)); have gy := Lib.hid (only_below gx.out hb2); obtain ⟨r0, r1, r2, r3, r4, r5, r6, r7, r8⟩ := box9 (K0.out _ ty.out); have rf := (K0.out _ ty.out).frozen))
  all_goals
    go_wp2
    refine bodyPost_ret (v := .agg #[.int .i64 x0, .int .i64 x1, .int .i64 x2, .int .i64 x3, .int .i64 x4, .int .i64 x5, .int .i64 x6, .int .i64 x7, .int .i64 (q - p)]) (by simp [results, Tryz.results76, go_sem, *]) rfl ?_
    exact ⟨x0, x1, x2, x3, x4, x5, x6, x7, _, rfl, HP.out, rfl, (((((((((HB0.out.trans (ty.out.mono hs0)).setCell (p := ⟨w.heap.size, 0, none⟩) (Nat.le_refl _) _).setCell (p := ⟨w.heap.size, 1, none⟩) (Nat.le_refl _) _).setCell (p := ⟨w.heap.size, 2, none⟩) (Nat.le_refl _) _).setCell (p := ⟨w.heap.size, 3, none⟩) (Nat.le_refl _) _).setCell (p := ⟨w.heap.size, 4, none⟩) (Nat.le_refl _) _).setCell (p := ⟨w.heap.size, 5, none⟩) (Nat.le_refl _) _).setCell (p := ⟨w.heap.size, 6, none⟩) (Nat.le_refl _) _).setCell (p := ⟨w.heap.size, 7, none⟩) (Nat.le_refl _) _).setCell (p := ⟨w.heap.size, 8, none⟩) (Nat.le_refl _) _⟩

set_option maxHeartbeats 3200000 in
set_option maxRecDepth 100000 in
theorem pairV_any (u : Value) (G : Gr) (a p q : Int) (w : World) (hG : GS w 0 u G) (h1 : stG G false p a = 1) (h2 : stG G false q a = -1) (hp : -40 ≤ p ∧ p ≤ 40) (hq : -40 ≤ q ∧ q ≤ 40) (ha : -40 ≤ a ∧ a ≤ 40) :
    Calls Tryz.prog 76 #[u, .int .i64 p, .int .i64 q, .int .i64 a, .bool false, .bool true] w fun e w' => ∃ x0 x1 x2 x3 x4 x5 x6 x7 xd, e = .returned (.agg #[.int .i64 x0, .int .i64 x1, .int .i64 x2, .int .i64 x3, .int .i64 x4, .int .i64 x5, .int .i64 x6, .int .i64 x7, .int .i64 xd]) ∧ pairOf G true a p q = ⟨⟨x0, x1, x2, x3⟩, ⟨x4, x5, x6, x7⟩⟩ ∧ xd = q - p ∧ Below w.heap.size w w' := by
  have e1 := Go.IntWalk.i64_in (a + 1) (by omega)
  have e2 := Go.IntWalk.i64_in (q - p) (by omega)
  obtain ⟨⟨x0, x1, x2, x3⟩, hX⟩ : ∃ E, wholeE G false 1 p a = E := ⟨_, rfl⟩
  obtain ⟨⟨x4, x5, x6, x7⟩, hY⟩ : ∃ E, wholeE G false (-1) q a = E := ⟨_, rfl⟩
  have HA := Lib.hid (show ∀ W, Below w.heap.size w W → Calls Tryz.prog 105 #[u, .agg #[.int .i64 a, .int .i64 p, .int .i64 (a + 1), .int .i64 p]] W fun e w' => e = .returned (.agg #[.int .i64 x0, .int .i64 x1, .int .i64 x2, .int .i64 x3]) ∧ Below W.heap.size W w' from fun W hW => by
    have := wholeA_any u G p a W (hG.on hW) h1
    rw [hX] at this
    exact this)
  have HB := Lib.hid (show ∀ W, Below w.heap.size w W → Calls Tryz.prog 105 #[u, .agg #[.int .i64 (a + 1), .int .i64 q, .int .i64 a, .int .i64 q]] W fun e w' => e = .returned (.agg #[.int .i64 x4, .int .i64 x5, .int .i64 x6, .int .i64 x7]) ∧ Below W.heap.size W w' from fun W hW => by
    have := wholeB_any u G q a W (hG.on hW) h2
    rw [hY] at this
    exact this)
  have HP : Hid (pairOf G true a p q = ⟨⟨x0, x1, x2, x3⟩, ⟨x4, x5, x6, x7⟩⟩) := Lib.hid (by unfold pairOf; simp only [Bool.not_true]; rw [hX, hY])
  have k0 := Bk.new w 50 #[.int .i64 0, .int .i64 0, .int .i64 0, .int .i64 0, .int .i64 0, .int .i64 0, .int .i64 0, .int .i64 0, .int .i64 0]
  have k1 := Bk.new (w.alloc (.cells #[.int .i64 0, .int .i64 0, .int .i64 0, .int .i64 0, .int .i64 0, .int .i64 0, .int .i64 0, .int .i64 0, .int .i64 0] 50)) 48 #[.int .i64 a, .int .i64 p, .int .i64 (a + 1), .int .i64 p]
  have k2 := Bk.new ((w.alloc (.cells #[.int .i64 0, .int .i64 0, .int .i64 0, .int .i64 0, .int .i64 0, .int .i64 0, .int .i64 0, .int .i64 0, .int .i64 0] 50)).alloc (.cells #[.int .i64 a, .int .i64 p, .int .i64 (a + 1), .int .i64 p] 48)) 48 #[.int .i64 (a + 1), .int .i64 q, .int .i64 a, .int .i64 q]
  have s1 : (w.alloc (.cells #[.int .i64 0, .int .i64 0, .int .i64 0, .int .i64 0, .int .i64 0, .int .i64 0, .int .i64 0, .int .i64 0, .int .i64 0] 50)).heap.size = w.heap.size + 1 := by simp
  have s2 : ((w.alloc (.cells #[.int .i64 0, .int .i64 0, .int .i64 0, .int .i64 0, .int .i64 0, .int .i64 0, .int .i64 0, .int .i64 0, .int .i64 0] 50)).alloc (.cells #[.int .i64 a, .int .i64 p, .int .i64 (a + 1), .int .i64 p] 48)).heap.size = w.heap.size + 1 + 1 := by simp
  have s3 : (((w.alloc (.cells #[.int .i64 0, .int .i64 0, .int .i64 0, .int .i64 0, .int .i64 0, .int .i64 0, .int .i64 0, .int .i64 0, .int .i64 0] 50)).alloc (.cells #[.int .i64 a, .int .i64 p, .int .i64 (a + 1), .int .i64 p] 48)).alloc (.cells #[.int .i64 (a + 1), .int .i64 q, .int .i64 a, .int .i64 q] 48)).heap.size = w.heap.size + 1 + 1 + 1 := by simp
  rw [s1] at k1
  rw [s2] at k2
  have b3 : Below w.heap.size w (((w.alloc (.cells #[.int .i64 0, .int .i64 0, .int .i64 0, .int .i64 0, .int .i64 0, .int .i64 0, .int .i64 0, .int .i64 0, .int .i64 0] 50)).alloc (.cells #[.int .i64 a, .int .i64 p, .int .i64 (a + 1), .int .i64 p] 48)).alloc (.cells #[.int .i64 (a + 1), .int .i64 q, .int .i64 a, .int .i64 q] 48)) := (((Below.refl _ _).alloc (Nat.le_refl _) _).alloc (by simp) _).alloc (by simp; omega) _
  have m0 := (k0.alloc (.cells #[.int .i64 a, .int .i64 p, .int .i64 (a + 1), .int .i64 p] 48)).alloc (.cells #[.int .i64 (a + 1), .int .i64 q, .int .i64 a, .int .i64 q] 48)
  have m1 := k1.alloc (.cells #[.int .i64 (a + 1), .int .i64 q, .int .i64 a, .int .i64 q] 48)
  have m2 := k2
  clear hG h1 h2 hX hY k0 k1 k2 s1 s2
  obtain ⟨W0, hW0⟩ : ∃ W, W = (((w.alloc (.cells #[.int .i64 0, .int .i64 0, .int .i64 0, .int .i64 0, .int .i64 0, .int .i64 0, .int .i64 0, .int .i64 0, .int .i64 0] 50)).alloc (.cells #[.int .i64 a, .int .i64 p, .int .i64 (a + 1), .int .i64 p] 48)).alloc (.cells #[.int .i64 (a + 1), .int .i64 q, .int .i64 a, .int .i64 q] 48)) := ⟨_, rfl⟩
  rw [← hW0] at m0 m1 m2 s3 b3
  go_enter Tryz.func76, Tryz.ntmps76
  go_wp2
  rw [← hW0]
  have K0 := m0.keep
  have HB0 := Lib.hid b3
  have HC := Lib.hid (show ∀ W, W0.grownBy W (some w.heap.size) → (W.cell? ⟨w.heap.size + 1, 0, none⟩ = some (.int .i64 a) ∧ W.cell? ⟨w.heap.size + 1, 1, none⟩ = some (.int .i64 p) ∧ W.cell? ⟨w.heap.size + 1, 2, none⟩ = some (.int .i64 (a + 1)) ∧ W.cell? ⟨w.heap.size + 1, 3, none⟩ = some (.int .i64 p)) ∧ W.cell? ⟨w.heap.size + 1 + 1, 0, none⟩ = some (.int .i64 (a + 1)) ∧ W.cell? ⟨w.heap.size + 1 + 1, 1, none⟩ = some (.int .i64 q) ∧ W.cell? ⟨w.heap.size + 1 + 1, 2, none⟩ = some (.int .i64 a) ∧ W.cell? ⟨w.heap.size + 1 + 1, 3, none⟩ = some (.int .i64 q) from fun W hW => ⟨box4 (only_bk hW m1 (by omega)), box4 (only_bk hW m2 (by omega))⟩)
  have tc := Lib.hid (Below.refl W0.heap.size W0).drew
  have gc := Lib.hid (only_drew (only_refl W0 (some w.heap.size)))
  have hs0 : w.heap.size ≤ W0.heap.size := by omega
  clear hW0 m0 b3
  go_region_held3 (fun W => (W.cell? ⟨w.heap.size + 1, 0, none⟩ = some (.int .i64 a) ∧ W.cell? ⟨w.heap.size + 1, 1, none⟩ = some (.int .i64 p) ∧ W.cell? ⟨w.heap.size + 1, 2, none⟩ = some (.int .i64 (a + 1)) ∧ W.cell? ⟨w.heap.size + 1, 3, none⟩ = some (.int .i64 p)) ∧ W.cell? ⟨w.heap.size + 1 + 1, 0, none⟩ = some (.int .i64 (a + 1)) ∧ W.cell? ⟨w.heap.size + 1 + 1, 1, none⟩ = some (.int .i64 q) ∧ W.cell? ⟨w.heap.size + 1 + 1, 2, none⟩ = some (.int .i64 a) ∧ W.cell? ⟨w.heap.size + 1 + 1, 3, none⟩ = some (.int .i64 q))
    (first | with_reducible exact HC.out _ gc.out | with_reducible exact HC.out _ gx.out | with_reducible exact HC.out _ gy.out | with_reducible exact HC.out _ (only_store (only_store (only_store (only_store (only_store (only_store (only_store (only_store (only_store gy.out 0 _) 1 _) 2 _) 3 _) 4 _) 5 _) 6 _) 7 _) 8 _))
    (first
      | (go_at_call 105; (with_reducible refine (HA.out _ (HB0.out.trans (tc.out.mono hs0))).mono ?_); rintro e w1 ⟨rfl, hb1⟩; have tx := Lib.hid (tc.out.trans (hb1.mono tc.out.size)); have gx := Lib.hid (only_below gc.out hb1))
      | (go_at_call 105; (with_reducible refine (HB.out _ (HB0.out.trans (tx.out.mono hs0))).mono ?_); rintro e w2 ⟨rfl, hb2⟩; have ty := Lib.hid (tx.out.trans (hb2.mono tx.out.size)); have gy := Lib.hid (only_below gx.out hb2); obtain ⟨r0, r1, r2, r3, r4, r5, r6, r7, r8⟩ := box9 (K0.out _ ty.out); have rf := (K0.out _ ty.out).frozen))
  all_goals
    go_wp2
    refine bodyPost_ret (v := .agg #[.int .i64 x0, .int .i64 x1, .int .i64 x2, .int .i64 x3, .int .i64 x4, .int .i64 x5, .int .i64 x6, .int .i64 x7, .int .i64 (q - p)]) (by simp [results, Tryz.results76, go_sem, *]) rfl ?_
    exact ⟨x0, x1, x2, x3, x4, x5, x6, x7, _, rfl, HP.out, rfl, (((((((((HB0.out.trans (ty.out.mono hs0)).setCell (p := ⟨w.heap.size, 0, none⟩) (Nat.le_refl _) _).setCell (p := ⟨w.heap.size, 1, none⟩) (Nat.le_refl _) _).setCell (p := ⟨w.heap.size, 2, none⟩) (Nat.le_refl _) _).setCell (p := ⟨w.heap.size, 3, none⟩) (Nat.le_refl _) _).setCell (p := ⟨w.heap.size, 4, none⟩) (Nat.le_refl _) _).setCell (p := ⟨w.heap.size, 5, none⟩) (Nat.le_refl _) _).setCell (p := ⟨w.heap.size, 6, none⟩) (Nat.le_refl _) _).setCell (p := ⟨w.heap.size, 7, none⟩) (Nat.le_refl _) _).setCell (p := ⟨w.heap.size, 8, none⟩) (Nat.le_refl _) _⟩

end Go.Proofs.YtjiljodchebniaaGreat
