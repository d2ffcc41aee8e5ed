/- Contracts: the program's besides. Conditions: an upright or level edge on the chip; a set of cells in memory. Contracts: l06Length, l20Touches. Conditions: an edge on the chip; a set of cells in memory. Contracts: l20Edges, l20Paired. Conditions: regions and a list of edges in memory. Contract: the reference's ViolationEdges. Conditions: a list of lists, a list of rules, a region in memory. Plain law of FnErrorEdges: the edges of a short run belong to one violation. No conditions. -/
import Derived.Test.YtjiljodchebniaaGreatQ11
import Derived.Deep.RegionHeld3
import Derived.Test.YtjiljodchebniaaGreatQ18
import Derived.Test.YtjiljodchebniaaGreatQ38
import Derived.Test.YtjiljodchebniaaGreatQ15
import Derived.Test.YtjiljodchebniaaGreatQ41

namespace Go.Proofs.YtjiljodchebniaaGreat
open Go.RowKit

theorem bes_no {M : Gr} {e : Ed} (h : ¬ TouchC M e) : besB M e = false := by
  cases hb : besB M e with
  | false => rfl
  | true => exact absurd ((besB_iff M e).1 hb) h
theorem run_pt {a b : Int} (h : a ≤ b) : min a b = a ∧ max a b = b := by omega

set_option maxHeartbeats 1600000 in
set_option maxRecDepth 100000 in
/-- besides, an upright edge. -/
theorem besV_any (x y0 y1 : Int) (g : Nat) (M : Gr) (w : World) (hM : GB w g 89 M) (hx : -40 ≤ x ∧ x ≤ 40) (h0 : -40 ≤ y0 ∧ y0 ≤ 40) (h1 : -40 ≤ y1 ∧ y1 ≤ 40) (hne : y0 ≠ y1) :
    Calls Tryz.prog 29 #[.agg #[.int .i64 x, .int .i64 y0, .int .i64 x, .int .i64 y1], .pointer (some ⟨g, 0, none⟩)] w fun e w' => e = .returned (.bool (besB M ⟨x, y0, x, y1⟩)) ∧ Below w.heap.size w w' := by
  have b0 := (Below.refl w.heap.size w).alloc (Nat.le_refl _) (.cells #[.int .i64 x, .int .i64 y0, .int .i64 x, .int .i64 y1] 48)
  have z0 := Bk.new w 48 #[.int .i64 x, .int .i64 y0, .int .i64 x, .int .i64 y1]
  have HZ := Lib.hid (show ∀ W, Below (w.heap.size + 1) (w.alloc (.cells #[.int .i64 x, .int .i64 y0, .int .i64 x, .int .i64 y1] 48)) W → (W.cell? ⟨w.heap.size, 0, none⟩ = some (.int .i64 x) ∧ W.cell? ⟨w.heap.size, 1, none⟩ = some (.int .i64 y0) ∧ W.cell? ⟨w.heap.size, 2, none⟩ = some (.int .i64 x) ∧ W.cell? ⟨w.heap.size, 3, none⟩ = some (.int .i64 y1)) ∧ GB W g 89 M from fun W hW => ⟨box4 (z0.below hW (Nat.lt_succ_self _)), (hM.on b0).below hW (Nat.lt_succ_of_lt hM.lt)⟩)
  have s0 : (w.alloc (.cells #[.int .i64 x, .int .i64 y0, .int .i64 x, .int .i64 y1] 48)).heap.size = w.heap.size + 1 := by simp
  have B0 := Lib.hid b0
  clear hM z0 b0
  obtain ⟨lo, hlo⟩ : ∃ lo, min y0 y1 = lo := ⟨_, rfl⟩
  obtain ⟨hi, hhi⟩ : ∃ hi, max y0 y1 = hi := ⟨_, rfl⟩
  have hlh : lo < hi ∧ -40 ≤ lo ∧ hi ≤ 40 := by omega
  have hyy : (y0 == y1) = false := by simpa using hne
  have HL := Lib.hid (And.intro hlo hhi)
  go_enter Tryz.func29, Tryz.ntmps29
  go_wp2
  generalize hW0 : w.alloc (.cells #[.int .i64 x, .int .i64 y0, .int .i64 x, .int .i64 y1] 48) = W0 at *
  go_loopw [5] (fun yv wr => ∃ y : Int, yv = .int .i64 y ∧ lo ≤ y ∧ y ≤ hi + 1 ∧ Hid (∀ u, lo ≤ u → u < y → u < hi → hasG M (x - 1) u = false ∧ hasG M x u = false) ∧ Below (w.heap.size + 1) W0 wr) (fun yv _ => (hi + 1 - intOf yv).toNat)
  case atStart => exact ⟨lo, rfl, by omega, by omega, Lib.hid (fun u h1 h2 => by omega), Below.refl _ _⟩
  case round =>
    obtain ⟨y, rfl, hy0, hy1, HY, hb⟩ := hrel
    obtain ⟨⟨d0, d1, d2, d3⟩, hGr⟩ := HZ.out _ hb
    have HG := Lib.hid hGr
    clear hGr
    by_cases hle : y ≤ hi
    · have ey := Go.IntWalk.i64_in (y + 1) (by omega)
      have ex := Go.IntWalk.i64_in (x + 1) (by omega)
      have ex1 := Go.IntWalk.i64_in (x - 1) (by omega)
      go_wp2
      obtain ⟨wo, hwo⟩ : ∃ wo, wo = wr := ⟨_, rfl⟩
      subst hwo
      go_loopw [6] (fun xv wx => ∃ x' : Int, xv = .int .i64 x' ∧ (x' = x ∨ (x' = x + 1 ∧ Hid (y < hi → hasG M (x - 1) y = false ∧ hasG M x y = false))) ∧ Below (w.heap.size + 1) W0 wx) (fun xv _ => (x + 2 - intOf xv).toNat)
      case atStart => exact ⟨x, by simp, .inl rfl, hb⟩
      case round =>
        obtain ⟨x', rfl, hx', hbx⟩ := hrel
        clear d0 d1 d2 d3
        obtain ⟨⟨c0, c1, c2, c3⟩, hG2⟩ := HZ.out _ hbx
        have HG2 := Lib.hid hG2
        have hszx : w.heap.size + 1 ≤ wr.heap.size := by have := hbx.size; omega
        clear hG2
        rcases hx' with hxe | ⟨hxe, HC⟩
        · subst hxe
          by_cases hy8 : y < hi
          · cases ha : hasG M (x' - 1) y with
            | true =>
              have hT : besB M ⟨x', y0, x', y1⟩ = true := (besB_iff _ _).2 (.inl ⟨rfl, y, by dsimp only; omega, by dsimp only; omega, .inl ha⟩)
              have HT := Lib.hid hT
              clear hT
              go_wp2_with (go_at_call 57; (with_reducible refine (has_any g M (x' - 1) y _ HG2.out).mono ?_); rintro e w1 ⟨he, hb1⟩; rw [ha] at he; subst he; have hbx1 := hbx.trans (hb1.mono hszx); have hz1 : w.heap.size + 1 ≤ w1.heap.size := Nat.le_trans hszx hb1.size; obtain ⟨⟨p0, p1, p2, p3⟩, hG3⟩ := HZ.out _ hbx1; have HG3 := Lib.hid hG3; clear hG3)
              go_ret
              exact ⟨ret_bool HT.out.symm, B0.out.trans (hbx1.mono (Nat.le_succ _))⟩
            | false =>
              cases hc : hasG M x' y with
              | true =>
                have hT : besB M ⟨x', y0, x', y1⟩ = true := (besB_iff _ _).2 (.inl ⟨rfl, y, by dsimp only; omega, by dsimp only; omega, .inr hc⟩)
                have HT := Lib.hid hT
                clear hT
                go_wp2_with (first
                  | (go_at_call 57; (with_reducible refine (has_any g M (x' - 1) y _ HG2.out).mono ?_); rintro e w1 ⟨he, hb1⟩; rw [ha] at he; subst he; have hbx1 := hbx.trans (hb1.mono hszx); have hz1 : w.heap.size + 1 ≤ w1.heap.size := Nat.le_trans hszx hb1.size; obtain ⟨⟨p0, p1, p2, p3⟩, hG3⟩ := HZ.out _ hbx1; have HG3 := Lib.hid hG3; clear hG3)
                  | (go_at_call 57; (with_reducible refine (has_any g M x' y _ HG3.out).mono ?_); rintro e w2 ⟨he, hb2⟩; rw [hc] at he; subst he; have hbx2 := hbx1.trans (hb2.mono hz1); obtain ⟨⟨q0, q1, q2, q3⟩, -⟩ := HZ.out _ hbx2))
                go_ret
                exact ⟨ret_bool HT.out.symm, B0.out.trans (hbx2.mono (Nat.le_succ _))⟩
              | false =>
                go_wp2_with (first
                  | (go_at_call 57; (with_reducible refine (has_any g M (x' - 1) y _ HG2.out).mono ?_); rintro e w1 ⟨he, hb1⟩; rw [ha] at he; subst he; have hbx1 := hbx.trans (hb1.mono hszx); have hz1 : w.heap.size + 1 ≤ w1.heap.size := Nat.le_trans hszx hb1.size; obtain ⟨⟨p0, p1, p2, p3⟩, hG3⟩ := HZ.out _ hbx1; have HG3 := Lib.hid hG3; clear hG3)
                  | (go_at_call 57; (with_reducible refine (has_any g M x' y _ HG3.out).mono ?_); rintro e w2 ⟨he, hb2⟩; rw [hc] at he; subst he; have hbx2 := hbx1.trans (hb2.mono hz1); obtain ⟨⟨q0, q1, q2, q3⟩, -⟩ := HZ.out _ hbx2))
                exact ⟨⟨x' + 1, rfl, .inr ⟨rfl, Lib.hid (fun _ => by first | exact ⟨trivial, trivial⟩ | exact ⟨ha, hc⟩)⟩, hbx2⟩, by simp [intOf]; omega⟩
          · have HCC : Hid (y < hi → hasG M (x' - 1) y = false ∧ hasG M x' y = false) := Lib.hid fun h => absurd h hy8
            go_wp2
            exact ⟨⟨x' + 1, rfl, .inr ⟨rfl, HCC⟩, hbx⟩, by simp [intOf]; omega⟩
        · subst hxe
          have HY2 : Hid (∀ u, lo ≤ u → u < y + 1 → u < hi → hasG M (x - 1) u = false ∧ hasG M x u = false) := Lib.hid (fun u h1 h2 h3 => by
            by_cases hu : u = y
            · rw [hu]; rw [hu] at h3; exact HC.out h3
            · exact HY.out u h1 (by omega) h3)
          have hnx : ¬ (x + 1 ≤ x) := by omega
          go_wp2
          exact ⟨⟨y + 1, rfl, by omega, by omega, HY2, hbx⟩, by simp [intOf]; omega⟩
    · obtain rfl : y = hi + 1 := by omega
      have hT : besB M ⟨x, y0, x, y1⟩ = false := bes_no (by
        rintro (⟨-, u, h1, h2, h3⟩ | ⟨h, -⟩)
        · dsimp only at h1 h2 h3
          have := HY.out u (by omega) (by omega) (by omega)
          rw [this.1, this.2] at h3
          rcases h3 with h3 | h3 <;> cases h3
        · exact hne h)
      have HT := Lib.hid hT
      have hnl : ¬ (hi + 1 ≤ hi) := by omega
      clear hT
      go_wp2
      go_ret
      exact ⟨ret_bool HT.out.symm, B0.out.trans (hb.mono (Nat.le_succ _))⟩

set_option maxHeartbeats 1600000 in
set_option maxRecDepth 100000 in
/-- besides, a level edge. -/
theorem besH_any (y x0 x1 : Int) (g : Nat) (M : Gr) (w : World) (hM : GB w g 89 M) (hy : -40 ≤ y ∧ y ≤ 40) (h0 : -40 ≤ x0 ∧ x0 ≤ 40) (h1 : -40 ≤ x1 ∧ x1 ≤ 40) (hne : x0 ≠ x1) :
    Calls Tryz.prog 29 #[.agg #[.int .i64 x0, .int .i64 y, .int .i64 x1, .int .i64 y], .pointer (some ⟨g, 0, none⟩)] w fun e w' => e = .returned (.bool (besB M ⟨x0, y, x1, y⟩)) ∧ Below w.heap.size w w' := by
  have b0 := (Below.refl w.heap.size w).alloc (Nat.le_refl _) (.cells #[.int .i64 x0, .int .i64 y, .int .i64 x1, .int .i64 y] 48)
  have z0 := Bk.new w 48 #[.int .i64 x0, .int .i64 y, .int .i64 x1, .int .i64 y]
  have HZ := Lib.hid (show ∀ W, Below (w.heap.size + 1) (w.alloc (.cells #[.int .i64 x0, .int .i64 y, .int .i64 x1, .int .i64 y] 48)) W → (W.cell? ⟨w.heap.size, 0, none⟩ = some (.int .i64 x0) ∧ W.cell? ⟨w.heap.size, 1, none⟩ = some (.int .i64 y) ∧ W.cell? ⟨w.heap.size, 2, none⟩ = some (.int .i64 x1) ∧ W.cell? ⟨w.heap.size, 3, none⟩ = some (.int .i64 y)) ∧ GB W g 89 M from fun W hW => ⟨box4 (z0.below hW (Nat.lt_succ_self _)), (hM.on b0).below hW (Nat.lt_succ_of_lt hM.lt)⟩)
  have s0 : (w.alloc (.cells #[.int .i64 x0, .int .i64 y, .int .i64 x1, .int .i64 y] 48)).heap.size = w.heap.size + 1 := by simp
  have B0 := Lib.hid b0
  clear hM z0 b0
  obtain ⟨lo, hlo⟩ : ∃ lo, min x0 x1 = lo := ⟨_, rfl⟩
  obtain ⟨hi, hhi⟩ : ∃ hi, max x0 x1 = hi := ⟨_, rfl⟩
  have hlh : lo < hi ∧ -40 ≤ lo ∧ hi ≤ 40 := by omega
  have hxx : (x0 == x1) = false := by simpa using hne
  have HL := Lib.hid (And.intro hlo hhi)
  go_enter Tryz.func29, Tryz.ntmps29
  go_wp2
  generalize hW0 : w.alloc (.cells #[.int .i64 x0, .int .i64 y, .int .i64 x1, .int .i64 y] 48) = W0 at *
  go_loopw [5] (fun yv wr => ∃ y' : Int, yv = .int .i64 y' ∧ (y' = y ∨ (y' = y + 1 ∧ Hid (∀ u, lo ≤ u → u < hi → hasG M u (y - 1) = false ∧ hasG M u y = false))) ∧ Below (w.heap.size + 1) W0 wr) (fun yv _ => (y + 2 - intOf yv).toNat)
  case atStart => exact ⟨y, by simp, .inl rfl, Below.refl _ _⟩
  case round =>
    obtain ⟨y', rfl, hy', hb⟩ := hrel
    obtain ⟨⟨d0, d1, d2, d3⟩, hGr⟩ := HZ.out _ hb
    clear hGr
    rcases hy' with hye | ⟨hye, HC⟩
    · subst hye
      have ey := Go.IntWalk.i64_in (y' + 1) (by omega)
      have ey1 := Go.IntWalk.i64_in (y' - 1) (by omega)
      go_wp2
      obtain ⟨wo, hwo⟩ : ∃ wo, wo = wr := ⟨_, rfl⟩
      subst hwo
      go_loopw [6] (fun xv wx => ∃ x : Int, xv = .int .i64 x ∧ lo ≤ x ∧ x ≤ hi + 1 ∧ Hid (∀ u, lo ≤ u → u < x → u < hi → hasG M u (y' - 1) = false ∧ hasG M u y' = false) ∧ Below (w.heap.size + 1) W0 wx) (fun xv _ => (hi + 1 - intOf xv).toNat)
      case atStart => exact ⟨lo, rfl, by omega, by omega, Lib.hid (fun u h1 h2 => by omega), hb⟩
      case round =>
        obtain ⟨x, rfl, hx0, hx1, HX, hbx⟩ := hrel
        clear d0 d1 d2 d3
        obtain ⟨⟨c0, c1, c2, c3⟩, hG2⟩ := HZ.out _ hbx
        have HG2 := Lib.hid hG2
        have hszx : w.heap.size + 1 ≤ wr.heap.size := by have := hbx.size; omega
        clear hG2
        by_cases hle : x ≤ hi
        · have ex := Go.IntWalk.i64_in (x + 1) (by omega)
          by_cases hx8 : x < hi
          · cases ha : hasG M x (y' - 1) with
            | true =>
              have hT : besB M ⟨x0, y', x1, y'⟩ = true := (besB_iff _ _).2 (.inr ⟨rfl, x, by dsimp only; omega, by dsimp only; omega, .inl ha⟩)
              have HT := Lib.hid hT
              clear hT
              go_wp2_with (go_at_call 57; (with_reducible refine (has_any g M x (y' - 1) _ HG2.out).mono ?_); rintro e w1 ⟨he, hb1⟩; rw [ha] at he; subst he; have hbx1 := hbx.trans (hb1.mono hszx); have hz1 : w.heap.size + 1 ≤ w1.heap.size := Nat.le_trans hszx hb1.size; obtain ⟨⟨p0, p1, p2, p3⟩, hG3⟩ := HZ.out _ hbx1; have HG3 := Lib.hid hG3; clear hG3)
              go_ret
              exact ⟨ret_bool HT.out.symm, B0.out.trans (hbx1.mono (Nat.le_succ _))⟩
            | false =>
              cases hc : hasG M x y' with
              | true =>
                have hT : besB M ⟨x0, y', x1, y'⟩ = true := (besB_iff _ _).2 (.inr ⟨rfl, x, by dsimp only; omega, by dsimp only; omega, .inr hc⟩)
                have HT := Lib.hid hT
                clear hT
                go_wp2_with (first
                  | (go_at_call 57; (with_reducible refine (has_any g M x (y' - 1) _ HG2.out).mono ?_); rintro e w1 ⟨he, hb1⟩; rw [ha] at he; subst he; have hbx1 := hbx.trans (hb1.mono hszx); have hz1 : w.heap.size + 1 ≤ w1.heap.size := Nat.le_trans hszx hb1.size; obtain ⟨⟨p0, p1, p2, p3⟩, hG3⟩ := HZ.out _ hbx1; have HG3 := Lib.hid hG3; clear hG3)
                  | (go_at_call 57; (with_reducible refine (has_any g M x y' _ HG3.out).mono ?_); rintro e w2 ⟨he, hb2⟩; rw [hc] at he; subst he; have hbx2 := hbx1.trans (hb2.mono hz1); obtain ⟨⟨q0, q1, q2, q3⟩, -⟩ := HZ.out _ hbx2))
                go_ret
                exact ⟨ret_bool HT.out.symm, B0.out.trans (hbx2.mono (Nat.le_succ _))⟩
              | false =>
                have HX2 : Hid (∀ u, lo ≤ u → u < x + 1 → u < hi → hasG M u (y' - 1) = false ∧ hasG M u y' = false) := Lib.hid (fun u h1 h2 h3 => by
                  by_cases hu : u = x
                  · rw [hu]; exact ⟨ha, hc⟩
                  · exact HX.out u h1 (by omega) h3)
                go_wp2_with (first
                  | (go_at_call 57; (with_reducible refine (has_any g M x (y' - 1) _ HG2.out).mono ?_); rintro e w1 ⟨he, hb1⟩; rw [ha] at he; subst he; have hbx1 := hbx.trans (hb1.mono hszx); have hz1 : w.heap.size + 1 ≤ w1.heap.size := Nat.le_trans hszx hb1.size; obtain ⟨⟨p0, p1, p2, p3⟩, hG3⟩ := HZ.out _ hbx1; have HG3 := Lib.hid hG3; clear hG3)
                  | (go_at_call 57; (with_reducible refine (has_any g M x y' _ HG3.out).mono ?_); rintro e w2 ⟨he, hb2⟩; rw [hc] at he; subst he; have hbx2 := hbx1.trans (hb2.mono hz1); obtain ⟨⟨q0, q1, q2, q3⟩, -⟩ := HZ.out _ hbx2))
                exact ⟨⟨x + 1, rfl, by omega, by omega, HX2, hbx2⟩, by simp [intOf]; omega⟩
          · have HX2 : Hid (∀ u, lo ≤ u → u < x + 1 → u < hi → hasG M u (y' - 1) = false ∧ hasG M u y' = false) := Lib.hid (fun u h1 h2 h3 => HX.out u h1 (by omega) h3)
            go_wp2
            exact ⟨⟨x + 1, rfl, by omega, by omega, HX2, hbx⟩, by simp [intOf]; omega⟩
        · obtain rfl : x = hi + 1 := by omega
          have HC : Hid (∀ u, lo ≤ u → u < hi → hasG M u (y' - 1) = false ∧ hasG M u y' = false) := Lib.hid (fun u h1 h2 => HX.out u h1 (by omega) h2)
          have hnl : ¬ (hi + 1 ≤ hi) := by omega
          go_wp2
          exact ⟨⟨y' + 1, rfl, .inr ⟨rfl, HC⟩, hbx⟩, by simp [intOf]; omega⟩
    · subst hye
      have hT : besB M ⟨x0, y, x1, y⟩ = false := bes_no (by
        rintro (⟨h, -⟩ | ⟨-, u, h1, h2, h3⟩)
        · exact hne h
        · dsimp only at h1 h2 h3
          have := HC.out u (by omega) (by omega)
          rw [this.1, this.2] at h3
          rcases h3 with h3 | h3 <;> cases h3)
      have HT := Lib.hid hT
      have hnl : ¬ (y + 1 ≤ y) := by omega
      clear hT
      go_wp2
      go_ret
      exact ⟨ret_bool HT.out.symm, B0.out.trans (hb.mono (Nat.le_succ _))⟩

/-- besides, of an edge of a set. -/
theorem bes_any (e : Ed) (G : Gr) (g : Nat) (M : Gr) (w : World) (hM : GB w g 89 M) (he : EdgeC G e) : Calls Tryz.prog 29 #[e.val, .pointer (some ⟨g, 0, none⟩)] w fun e' w' => e' = .returned (.bool (besB M e)) ∧ Below w.heap.size w w' := by
  obtain ⟨x0, y0, x1, y1⟩ := e
  obtain ⟨a1, a2, a3, a4, h⟩ := edge_in he
  dsimp only at a1 a2 a3 a4 h
  rcases h with ⟨rfl, h⟩ | ⟨rfl, h⟩
  · exact besV_any x0 y0 y1 g M w hM a1 a2 a4 h
  · exact besH_any y0 x0 x1 g M w hM a2 a1 a3 h

end Go.Proofs.YtjiljodchebniaaGreat

namespace Go.Proofs.YtjiljodchebniaaGreat
open Go.RowKit

end Go.Proofs.YtjiljodchebniaaGreat

namespace Go.Proofs.YtjiljodchebniaaGreat
open Go.RowKit

theorem putAllE_step (M : Gr) (out K : List Ed) (i : Nat) (e : Ed) (h : K[i]? = some e) : putAllE M out (K.take (i + 1)) = if besB M e = true then putE (putAllE M out (K.take i)) e else putAllE M out (K.take i) := by
  unfold putAllE
  rw [List.take_add_one, h, Option.toList, List.foldl_append]
  rfl
theorem putAllE_len (M : Gr) : ∀ (K out : List Ed), (putAllE M out K).length ≤ out.length + K.length
  | [], out => by simp [putAllE]
  | e :: K, out => by
    have h := putAllE_len M K (if besB M e = true then putE out e else out)
    have h2 := putE_len out e
    show (putAllE M (if besB M e = true then putE out e else out) K).length ≤ _
    split at h <;> simp_all <;> omega

end Go.Proofs.YtjiljodchebniaaGreat

namespace Go.Proofs.YtjiljodchebniaaGreat
open Go.RowKit

noncomputable def veL (rss : List (List Rc)) (q : Ru) (ms : List Rc) : List Ed := sqz (srtE ((bndTo (cellsG (layAt rss q.l)) 81 ++ (if pairB q.k = true then bndTo (cellsG (layAt rss q.o)) 81 else [])).filter (besB (cellsG ms))))
noncomputable def veLst (rss : List (List Rc)) (qs : List Ru) (k : Int) (ms : List Rc) : List Ed := if (layB rss && deckB qs && vioV k ms) = true then (match qs[k.toNat]? with | some q => veL rss q ms | none => []) else []
noncomputable def veC (rss : List (List Rc)) (qs : List Ru) (k : Int) (ms : List Rc) : Int := if (layB rss && deckB qs && vioV k ms) = true then (if k < qs.length then 0 else 5) else 1
theorem ve_no {rss : List (List Rc)} {qs : List Ru} {k : Int} {ms : List Rc} (h : (layB rss && deckB qs && vioV k ms) = false) : veLst rss qs k ms = [] ∧ veC rss qs k ms = 1 := by
  unfold veLst veC
  rw [h]
  exact ⟨rfl, rfl⟩
theorem vio_facts {k : Int} {ms : List Rc} (h : vioV k ms = true) : (0 ≤ k ∧ k ≤ 11) ∧ okAll ms = true := by
  unfold vioV connV inB at h
  simp only [Bool.and_eq_true, decide_eq_true_eq] at h
  exact ⟨h.1, okAll_of_reg h.2.1⟩
theorem ve_far {rss : List (List Rc)} {qs : List Ru} {k : Int} {ms : List Rc} (h : (layB rss && deckB qs && vioV k ms) = true) (hk : ¬ k < qs.length) : veLst rss qs k ms = [] ∧ veC rss qs k ms = 5 := by
  have hv : vioV k ms = true := by simp only [Bool.and_eq_true] at h; exact h.2
  have h0 := (vio_facts hv).1
  unfold veLst veC
  rw [if_pos h, if_pos h, if_neg hk, List.getElem?_eq_none (by omega)]
  exact ⟨rfl, rfl⟩
theorem ve_yes {rss : List (List Rc)} {qs : List Ru} {k : Int} {ms : List Rc} {q : Ru} (h : (layB rss && deckB qs && vioV k ms) = true) (hq : qs[k.toNat]? = some q) (hk : k < qs.length) : veLst rss qs k ms = veL rss q ms ∧ veC rss qs k ms = 0 := by
  unfold veLst veC
  rw [if_pos h, if_pos h, if_pos hk, hq]
  exact ⟨rfl, rfl⟩
theorem veL_one {rss : List (List Rc)} {q : Ru} {ms : List Rc} {K : List Ed} (hp : pairB q.k = false) (hK : EdgesOf (cellsG (layAt rss q.l)) K) : veL rss q ms = putAllE (cellsG ms) [] K := by
  unfold veL
  rw [hp, if_neg (by decide), List.append_nil]
  exact edges_same (fun e => bnd_mem _ e) hK
theorem veL_two {rss : List (List Rc)} {q : Ru} {ms : List Rc} {K K2 : List Ed} (hp : pairB q.k = true) (hK : EdgesOf (cellsG (layAt rss q.l)) K) (hK2 : EdgesOf (cellsG (layAt rss q.o)) K2) : veL rss q ms = putAllE (cellsG ms) (putAllE (cellsG ms) [] K) K2 := by
  unfold veL
  rw [if_pos hp]
  exact edges_same2 (fun e => bnd_mem _ e) hK (fun e => bnd_mem _ e) hK2

theorem lay_reg {rss : List (List Rc)} (h : layB rss = true) {i : Nat} (hi : i < rss.length) : isReg (layAt rss (i : Int)) = true := by
  unfold layAt
  rw [Int.toNat_natCast, List.getD_eq_getElem?_getD, List.getElem?_eq_getElem hi]
  exact ((layB_iff rss).1 h).2 _ (List.getElem_mem hi)

/-- What stays while ViolationEdges runs. -/
structure VE (w W : World) (lv : Value) (rss : List (List Rc)) (A : Option Addr) (n c : Nat) (qs : List Ru) (k : Int) (vm : Value) (ms : List Rc) : Prop where
  dk : Bk W w.heap.size 34 #[.slice A n c]
  vi : Bk W (w.heap.size + 1) 45 #[.int .i64 k, vm]
  ru : QL W 0 (.slice A n c) qs
  la : RLL W 0 lv rss
  rg : RL W 0 vm ms
  bel : Below w.heap.size w W
theorem VE.on {w W W' : World} {lv : Value} {rss : List (List Rc)} {A : Option Addr} {n c : Nat} {qs : List Ru} {k : Int} {vm : Value} {ms : List Rc} (h : VE w W lv rss A n c qs k vm ms) (hb : Below W.heap.size W W') : VE w W' lv rss A n c qs k vm ms :=
  ⟨h.dk.on hb, h.vi.on hb, h.ru.on hb, h.la.on hb, h.rg.on hb, h.bel.trans (hb.mono h.bel.size)⟩
theorem VE.start {w : World} {lv : Value} {rss : List (List Rc)} {A : Option Addr} {n c : Nat} {qs : List Ru} {vm : Value} {ms : List Rc} (k : Int) (hl : RLL w 0 lv rss) (hq : QL w 0 (.slice A n c) qs) (hm : RL w 0 vm ms) : VE w ((w.alloc (.cells #[.slice A n c] 34)).alloc (.cells #[.int .i64 k, vm] 45)) lv rss A n c qs k vm ms := by
  have b1 := (Below.refl w.heap.size w).alloc (Nat.le_refl _) (.cells #[.slice A n c] 34)
  have b2 := b1.alloc b1.size (.cells #[.int .i64 k, vm] 45)
  refine ⟨(Bk.new w _ _).alloc _, ?_, hq.on b2, hl.on b2, hm.on b2, b2⟩
  have := Bk.new (w.alloc (.cells #[.slice A n c] 34)) 45 #[.int .i64 k, vm]
  simpa using this

end Go.Proofs.YtjiljodchebniaaGreat

namespace Go.Proofs.YtjiljodchebniaaGreat

/-- The layout with one region, on layer 3. -/
def layE (rs : List Rc) : List (List Rc) := [[], [], [], rs, [], [], [], []]
def ruE (w : Int) : Ru := ⟨0, 3, 0, w, 0⟩
theorem layE_ok {rs : List Rc} (h : isReg rs = true) : layB (layE rs) = true := by
  rw [layB_iff]
  refine ⟨rfl, fun r hr => ?_⟩
  have h0 : isReg [] = true := reg_none
  unfold layE at hr
  simp only [List.mem_cons, List.not_mem_nil, or_false] at hr
  rcases hr with rfl | rfl | rfl | rfl | rfl | rfl | rfl | rfl <;> assumption
theorem ruE_ok {w : Int} (h : inB 1 w 8 = true) : ruleB (ruE w) = true := by
  unfold ruleB ruE valueB otherB pairB inB at *
  simp at h ⊢
  exact h
theorem deckE_ok {w : Int} (h : inB 1 w 8 = true) : deckB [ruE w] = true := by
  unfold deckB
  rw [Bool.and_eq_true]
  refine ⟨rfl, ?_⟩
  rw [List.all_eq_true]
  intro j hj
  have hj0 : j = 0 := by simpa using hj
  subst hj0
  rw [good_at (q := ruE w) rfl, ruE_ok h]
  rfl
theorem rmE {rs : List Rc} {w : Int} (h : isReg rs = true) (hw : inB 1 w 8 = true) : rmV (layE rs) (ruE w) = canon (shortG (allG (cellsG rs)) w) := by
  rw [rmV_yes (layE_ok h) (ruE_ok hw)]
  unfold ruE
  rw [ruleM_0]
  exact markV_yes (rs := rs) (by rw [chkV_of h]; exact hw)
theorem lnG_same {G H : Gr} (h : sameG G H) (v : Bool) (a t : Int) : lnG G v a t = lnG H v a t := by
  cases v
  · rw [lnG_h, lnG_h]; exact hasG_same h t a
  · rw [lnG_v, lnG_v]; exact hasG_same h a t
theorem checkE (rs : List Rc) (w : Int) : checkV (layE rs) [ruE w] = compV 0 (rmV (layE rs) (ruE w)) := by
  unfold checkV
  rw [List.length_singleton, check_step (q := ruE w) rfl, check_zero, List.nil_append]
  rfl
/-- A pair of facing edges belongs to one violation. -/
theorem face_vio {rs : List Rc} {w : Int} (h : isReg rs = true) (hw : inB 1 w 8 = true) {x : EP} (hx : FaceC (cellsG rs) w x) :
    ∃ ms, ((0 : Int), ms) ∈ checkV (layE rs) [ruE w] ∧ isReg ms = true ∧ x.f ∈ veLst (layE rs) [ruE w] 0 ms ∧ x.s ∈ veLst (layE rs) [ruE w] 0 ms ∧ veC (layE rs) [ruE w] 0 ms = 0 := by
  obtain ⟨v, a, p, q, hs, rfl⟩ := hx
  have hm : ∀ t, p ≤ t → t < q → lnG (cellsG (rmV (layE rs) (ruE w))) v a t = true := fun t h1 h2 => by
    rw [rmE h hw, lnG_same (cells_canon _)]
    exact narrow_of hs h1 h2
  have hin := short_in hs
  have h1 := hs.1
  obtain ⟨P, hP, hPp⟩ : ∃ P ∈ comps (cellsG (rmV (layE rs) (ruE w))), lnG P v a p = true := by
    have hp := hm p (Int.le_refl _) h1
    have key : ∀ x y : Int, hasG (cellsG (rmV (layE rs) (ruE w))) x y = true → ∃ P ∈ comps (cellsG (rmV (layE rs) (ruE w))), hasG P x y = true := by
      intro x y hxy
      have i1 := hasG_in hxy
      unfold hasG at hxy
      rw [Bool.and_eq_true] at hxy
      obtain ⟨P, hP, h2⟩ := (comps_cover _ (by unfold ix; omega)).1 hxy.2
      exact ⟨P, hP, by unfold hasG; rw [hxy.1, h2]; rfl⟩
    cases v
    · exact key p a hp
    · exact key a p hp
  have hall := line_one (comps_whole hP) v a p q p hm ⟨Int.le_refl _, h1⟩ hPp
  have hcell : ∀ t, p ≤ t → t < q → lnG (cellsG (canon P)) (!v) t a = true := fun t g1 g2 => by
    rw [lnG_same (cells_canon P), ← ln_flip]
    exact hall t g1 g2
  have t1 : TouchC (cellsG (canon P)) (pairOf (cellsG rs) v a p q).f := touch_at (whole_has 1 (!v) p a) (.inr (hcell p (Int.le_refl _) h1))
  have t2 : TouchC (cellsG (canon P)) (pairOf (cellsG rs) v a p q).s := touch_at (whole_has (-1) (!v) q a) (.inl (hcell (q - 1) (by omega) (by omega)))
  have hvio : (layB (layE rs) && deckB [ruE w] && vioV 0 (canon P)) = true := by
    rw [layE_ok h, deckE_ok hw]
    unfold vioV
    rw [comp_conn hP]
    rfl
  obtain ⟨e1, e2⟩ := ve_yes (q := ruE w) hvio rfl (by simp)
  have hmem : ∀ e, EdgeC (cellsG rs) e → TouchC (cellsG (canon P)) e → e ∈ veLst (layE rs) [ruE w] 0 (canon P) := fun e g1 g2 => by
    rw [e1]
    unfold veL
    rw [sqz_mem, srtE_mem, List.mem_filter, besB_iff]
    exact ⟨List.mem_append_left _ ((bnd_mem _ e).2 g1), g2⟩
  refine ⟨canon P, ?_, isReg_canon P, hmem _ (pair_edges hs).1 t1, hmem _ (pair_edges hs).2 t2, e2⟩
  rw [checkE]
  unfold compV
  rw [List.mem_map]
  exact ⟨canon P, List.mem_map.2 ⟨P, hP, rfl⟩, rfl⟩
/-- There are pairs exactly if there are violations. -/
theorem face_nil {rs : List Rc} {w : Int} (h : isReg rs = true) (hw : inB 1 w 8 = true) : faceL (cellsG rs) w = [] ↔ checkV (layE rs) [ruE w] = [] := by
  constructor
  · intro h1
    rw [checkE]
    unfold compV
    rw [List.map_eq_nil_iff, List.map_eq_nil_iff, comps_nil]
    intro i hi
    cases hc : cellsG (rmV (layE rs) (ruE w)) i with
    | false => rfl
    | true =>
      rw [rmE h hw, cells_canon _ i hi] at hc
      have hx : hasG (shortG (allG (cellsG rs)) w) (((i % 80 : Nat) : Int) - 40) (((i / 80 : Nat) : Int) - 40) = true := by
        unfold hasG
        rw [Bool.and_eq_true, onC_iff]
        refine ⟨by omega, ?_⟩
        unfold ix
        rw [show ((((i / 80 : Nat) : Int) - 40 + 40) * 80 + (((i % 80 : Nat) : Int) - 40) + 40).toNat = i by omega]
        exact hc
      obtain ⟨v, a, p, q, hs⟩ := narrow_has hx
      have := (faceL_mem (cellsG rs) w _).2 ⟨v, a, p, q, hs, rfl⟩
      rw [h1] at this
      cases this
  · intro h1
    cases hf : faceL (cellsG rs) w with
    | nil => rfl
    | cons x l =>
      obtain ⟨ms, hm, -⟩ := face_vio h hw ((faceL_mem (cellsG rs) w x).1 (by rw [hf]; exact List.mem_cons_self))
      rw [h1] at hm
      cases hm

end Go.Proofs.YtjiljodchebniaaGreat
