/- Contracts: the program's besides. Conditions: an upright or level edge on the chip; a set of cells in memory. -/
import Derived.Test.YtemeegpmdhgocaaGreatEdI
namespace Go.Proofs.YtemeegpmdhgocaaGreat
open Go.RowKit

theorem bes_no {M : Gr} {e : Ed} (h : ¬ TouchC M e) : besB M e = false := by
  cases hb : besB M e with
  | false => rfl
  | true => exact absurd ((besB_iff M e).1 hb) h
theorem run_pt {a b : Int} (h : a ≤ b) : min a b = a ∧ max a b = b := by omega

set_option maxHeartbeats 1600000 in
set_option maxRecDepth 100000 in
/-- besides, an upright edge. -/
theorem besV_any (x y0 y1 : Int) (g : Nat) (M : Gr) (w : World) (hM : GB w g 96 M) (hx : -40 ≤ x ∧ x ≤ 40) (h0 : -40 ≤ y0 ∧ y0 ≤ 40) (h1 : -40 ≤ y1 ∧ y1 ≤ 40) (hne : y0 ≠ y1) :
    Calls Tryz.prog 36 #[.agg #[.int .i64 x, .int .i64 y0, .int .i64 x, .int .i64 y1], .pointer (some ⟨g, 0, none⟩)] w fun e w' => e = .returned (.bool (besB M ⟨x, y0, x, y1⟩)) ∧ Below w.heap.size w w' := by
  have b0 := (Below.refl w.heap.size w).alloc (Nat.le_refl _) (.cells #[.int .i64 x, .int .i64 y0, .int .i64 x, .int .i64 y1] 70)
  have z0 := Bk.new w 70 #[.int .i64 x, .int .i64 y0, .int .i64 x, .int .i64 y1]
  have HZ := Lib.hid (show ∀ W, Below (w.heap.size + 1) (w.alloc (.cells #[.int .i64 x, .int .i64 y0, .int .i64 x, .int .i64 y1] 70)) W → (W.cell? ⟨w.heap.size, 0, none⟩ = some (.int .i64 x) ∧ W.cell? ⟨w.heap.size, 1, none⟩ = some (.int .i64 y0) ∧ W.cell? ⟨w.heap.size, 2, none⟩ = some (.int .i64 x) ∧ W.cell? ⟨w.heap.size, 3, none⟩ = some (.int .i64 y1)) ∧ GB W g 96 M from fun W hW => ⟨box4 (z0.below hW (Nat.lt_succ_self _)), (hM.on b0).below hW (Nat.lt_succ_of_lt hM.lt)⟩)
  have s0 : (w.alloc (.cells #[.int .i64 x, .int .i64 y0, .int .i64 x, .int .i64 y1] 70)).heap.size = w.heap.size + 1 := by simp
  have B0 := Lib.hid b0
  clear hM z0 b0
  obtain ⟨lo, hlo⟩ : ∃ lo, min y0 y1 = lo := ⟨_, rfl⟩
  obtain ⟨hi, hhi⟩ : ∃ hi, max y0 y1 = hi := ⟨_, rfl⟩
  have hlh : lo < hi ∧ -40 ≤ lo ∧ hi ≤ 40 := by omega
  have hyy : (y0 == y1) = false := by simpa using hne
  have HL := Lib.hid (And.intro hlo hhi)
  go_enter Tryz.func36, Tryz.ntmps36
  go_wp2
  generalize hW0 : w.alloc (.cells #[.int .i64 x, .int .i64 y0, .int .i64 x, .int .i64 y1] 70) = W0 at *
  go_loopw [5] (fun yv wr => ∃ y : Int, yv = .int .i64 y ∧ lo ≤ y ∧ y ≤ hi + 1 ∧ Hid (∀ u, lo ≤ u → u < y → u < hi → hasG M (x - 1) u = false ∧ hasG M x u = false) ∧ Below (w.heap.size + 1) W0 wr) (fun yv _ => (hi + 1 - intOf yv).toNat)
  case atStart => exact ⟨lo, rfl, by omega, by omega, Lib.hid (fun u h1 h2 => by omega), Below.refl _ _⟩
  case round =>
    obtain ⟨y, rfl, hy0, hy1, HY, hb⟩ := hrel
    obtain ⟨⟨d0, d1, d2, d3⟩, hGr⟩ := HZ.out _ hb
    have HG := Lib.hid hGr
    clear hGr
    by_cases hle : y ≤ hi
    · have ey := Go.IntWalk.i64_in (y + 1) (by omega)
      have ex := Go.IntWalk.i64_in (x + 1) (by omega)
      have ex1 := Go.IntWalk.i64_in (x - 1) (by omega)
      go_wp2
      obtain ⟨wo, hwo⟩ : ∃ wo, wo = wr := ⟨_, rfl⟩
      subst hwo
      go_loopw [6] (fun xv wx => ∃ x' : Int, xv = .int .i64 x' ∧ (x' = x ∨ (x' = x + 1 ∧ Hid (y < hi → hasG M (x - 1) y = false ∧ hasG M x y = false))) ∧ Below (w.heap.size + 1) W0 wx) (fun xv _ => (x + 2 - intOf xv).toNat)
      case atStart => exact ⟨x, by simp, .inl rfl, hb⟩
      case round =>
        obtain ⟨x', rfl, hx', hbx⟩ := hrel
        clear d0 d1 d2 d3
        obtain ⟨⟨c0, c1, c2, c3⟩, hG2⟩ := HZ.out _ hbx
        have HG2 := Lib.hid hG2
        have hszx : w.heap.size + 1 ≤ wr.heap.size := by have := hbx.size; omega
        clear hG2
        rcases hx' with hxe | ⟨hxe, HC⟩
        · subst hxe
          by_cases hy8 : y < hi
          · cases ha : hasG M (x' - 1) y with
            | true =>
              have hT : besB M ⟨x', y0, x', y1⟩ = true := (besB_iff _ _).2 (.inl ⟨rfl, y, by dsimp only; omega, by dsimp only; omega, .inl ha⟩)
              have HT := Lib.hid hT
              clear hT
              go_wp2_with (go_at_call 67; (with_reducible refine (has_any g M (x' - 1) y _ HG2.out).mono ?_); rintro e w1 ⟨he, hb1⟩; rw [ha] at he; subst he; have hbx1 := hbx.trans (hb1.mono hszx); have hz1 : w.heap.size + 1 ≤ w1.heap.size := Nat.le_trans hszx hb1.size; obtain ⟨⟨p0, p1, p2, p3⟩, hG3⟩ := HZ.out _ hbx1; have HG3 := Lib.hid hG3; clear hG3)
              go_ret
              exact ⟨ret_bool HT.out.symm, B0.out.trans (hbx1.mono (Nat.le_succ _))⟩
            | false =>
              cases hc : hasG M x' y with
              | true =>
                have hT : besB M ⟨x', y0, x', y1⟩ = true := (besB_iff _ _).2 (.inl ⟨rfl, y, by dsimp only; omega, by dsimp only; omega, .inr hc⟩)
                have HT := Lib.hid hT
                clear hT
                go_wp2_with (first
                  | (go_at_call 67; (with_reducible refine (has_any g M (x' - 1) y _ HG2.out).mono ?_); rintro e w1 ⟨he, hb1⟩; rw [ha] at he; subst he; have hbx1 := hbx.trans (hb1.mono hszx); have hz1 : w.heap.size + 1 ≤ w1.heap.size := Nat.le_trans hszx hb1.size; obtain ⟨⟨p0, p1, p2, p3⟩, hG3⟩ := HZ.out _ hbx1; have HG3 := Lib.hid hG3; clear hG3)
                  | (go_at_call 67; (with_reducible refine (has_any g M x' y _ HG3.out).mono ?_); rintro e w2 ⟨he, hb2⟩; rw [hc] at he; subst he; have hbx2 := hbx1.trans (hb2.mono hz1); obtain ⟨⟨q0, q1, q2, q3⟩, -⟩ := HZ.out _ hbx2))
                go_ret
                exact ⟨ret_bool HT.out.symm, B0.out.trans (hbx2.mono (Nat.le_succ _))⟩
              | false =>
                go_wp2_with (first
                  | (go_at_call 67; (with_reducible refine (has_any g M (x' - 1) y _ HG2.out).mono ?_); rintro e w1 ⟨he, hb1⟩; rw [ha] at he; subst he; have hbx1 := hbx.trans (hb1.mono hszx); have hz1 : w.heap.size + 1 ≤ w1.heap.size := Nat.le_trans hszx hb1.size; obtain ⟨⟨p0, p1, p2, p3⟩, hG3⟩ := HZ.out _ hbx1; have HG3 := Lib.hid hG3; clear hG3)
                  | (go_at_call 67; (with_reducible refine (has_any g M x' y _ HG3.out).mono ?_); rintro e w2 ⟨he, hb2⟩; rw [hc] at he; subst he; have hbx2 := hbx1.trans (hb2.mono hz1); obtain ⟨⟨q0, q1, q2, q3⟩, -⟩ := HZ.out _ hbx2))
                exact ⟨⟨x' + 1, rfl, .inr ⟨rfl, Lib.hid (fun _ => by first | exact ⟨trivial, trivial⟩ | exact ⟨ha, hc⟩)⟩, hbx2⟩, by simp [intOf]; omega⟩
          · have HCC : Hid (y < hi → hasG M (x' - 1) y = false ∧ hasG M x' y = false) := Lib.hid fun h => absurd h hy8
            go_wp2
            exact ⟨⟨x' + 1, rfl, .inr ⟨rfl, HCC⟩, hbx⟩, by simp [intOf]; omega⟩
        · subst hxe
          have HY2 : Hid (∀ u, lo ≤ u → u < y + 1 → u < hi → hasG M (x - 1) u = false ∧ hasG M x u = false) := Lib.hid (fun u h1 h2 h3 => by
            by_cases hu : u = y
            · rw [hu]; rw [hu] at h3; exact HC.out h3
            · exact HY.out u h1 (by omega) h3)
          have hnx : ¬ (x + 1 ≤ x) := by omega
          go_wp2
          exact ⟨⟨y + 1, rfl, by omega, by omega, HY2, hbx⟩, by simp [intOf]; omega⟩
    · obtain rfl : y = hi + 1 := by omega
      have hT : besB M ⟨x, y0, x, y1⟩ = false := bes_no (by
        rintro (⟨-, u, h1, h2, h3⟩ | ⟨h, -⟩)
        · dsimp only at h1 h2 h3
          have := HY.out u (by omega) (by omega) (by omega)
          rw [this.1, this.2] at h3
          rcases h3 with h3 | h3 <;> cases h3
        · exact hne h)
      have HT := Lib.hid hT
      have hnl : ¬ (hi + 1 ≤ hi) := by omega
      clear hT
      go_wp2
      go_ret
      exact ⟨ret_bool HT.out.symm, B0.out.trans (hb.mono (Nat.le_succ _))⟩

set_option maxHeartbeats 1600000 in
set_option maxRecDepth 100000 in
/-- besides, a level edge. -/
theorem besH_any (y x0 x1 : Int) (g : Nat) (M : Gr) (w : World) (hM : GB w g 96 M) (hy : -40 ≤ y ∧ y ≤ 40) (h0 : -40 ≤ x0 ∧ x0 ≤ 40) (h1 : -40 ≤ x1 ∧ x1 ≤ 40) (hne : x0 ≠ x1) :
    Calls Tryz.prog 36 #[.agg #[.int .i64 x0, .int .i64 y, .int .i64 x1, .int .i64 y], .pointer (some ⟨g, 0, none⟩)] w fun e w' => e = .returned (.bool (besB M ⟨x0, y, x1, y⟩)) ∧ Below w.heap.size w w' := by
  have b0 := (Below.refl w.heap.size w).alloc (Nat.le_refl _) (.cells #[.int .i64 x0, .int .i64 y, .int .i64 x1, .int .i64 y] 70)
  have z0 := Bk.new w 70 #[.int .i64 x0, .int .i64 y, .int .i64 x1, .int .i64 y]
  have HZ := Lib.hid (show ∀ W, Below (w.heap.size + 1) (w.alloc (.cells #[.int .i64 x0, .int .i64 y, .int .i64 x1, .int .i64 y] 70)) W → (W.cell? ⟨w.heap.size, 0, none⟩ = some (.int .i64 x0) ∧ W.cell? ⟨w.heap.size, 1, none⟩ = some (.int .i64 y) ∧ W.cell? ⟨w.heap.size, 2, none⟩ = some (.int .i64 x1) ∧ W.cell? ⟨w.heap.size, 3, none⟩ = some (.int .i64 y)) ∧ GB W g 96 M from fun W hW => ⟨box4 (z0.below hW (Nat.lt_succ_self _)), (hM.on b0).below hW (Nat.lt_succ_of_lt hM.lt)⟩)
  have s0 : (w.alloc (.cells #[.int .i64 x0, .int .i64 y, .int .i64 x1, .int .i64 y] 70)).heap.size = w.heap.size + 1 := by simp
  have B0 := Lib.hid b0
  clear hM z0 b0
  obtain ⟨lo, hlo⟩ : ∃ lo, min x0 x1 = lo := ⟨_, rfl⟩
  obtain ⟨hi, hhi⟩ : ∃ hi, max x0 x1 = hi := ⟨_, rfl⟩
  have hlh : lo < hi ∧ -40 ≤ lo ∧ hi ≤ 40 := by omega
  have hxx : (x0 == x1) = false := by simpa using hne
  have HL := Lib.hid (And.intro hlo hhi)
  go_enter Tryz.func36, Tryz.ntmps36
  go_wp2
  generalize hW0 : w.alloc (.cells #[.int .i64 x0, .int .i64 y, .int .i64 x1, .int .i64 y] 70) = W0 at *
  go_loopw [5] (fun yv wr => ∃ y' : Int, yv = .int .i64 y' ∧ (y' = y ∨ (y' = y + 1 ∧ Hid (∀ u, lo ≤ u → u < hi → hasG M u (y - 1) = false ∧ hasG M u y = false))) ∧ Below (w.heap.size + 1) W0 wr) (fun yv _ => (y + 2 - intOf yv).toNat)
  case atStart => exact ⟨y, by simp, .inl rfl, Below.refl _ _⟩
  case round =>
    obtain ⟨y', rfl, hy', hb⟩ := hrel
    obtain ⟨⟨d0, d1, d2, d3⟩, hGr⟩ := HZ.out _ hb
    clear hGr
    rcases hy' with hye | ⟨hye, HC⟩
    · subst hye
      have ey := Go.IntWalk.i64_in (y' + 1) (by omega)
      have ey1 := Go.IntWalk.i64_in (y' - 1) (by omega)
      go_wp2
      obtain ⟨wo, hwo⟩ : ∃ wo, wo = wr := ⟨_, rfl⟩
      subst hwo
      go_loopw [6] (fun xv wx => ∃ x : Int, xv = .int .i64 x ∧ lo ≤ x ∧ x ≤ hi + 1 ∧ Hid (∀ u, lo ≤ u → u < x → u < hi → hasG M u (y' - 1) = false ∧ hasG M u y' = false) ∧ Below (w.heap.size + 1) W0 wx) (fun xv _ => (hi + 1 - intOf xv).toNat)
      case atStart => exact ⟨lo, rfl, by omega, by omega, Lib.hid (fun u h1 h2 => by omega), hb⟩
      case round =>
        obtain ⟨x, rfl, hx0, hx1, HX, hbx⟩ := hrel
        clear d0 d1 d2 d3
        obtain ⟨⟨c0, c1, c2, c3⟩, hG2⟩ := HZ.out _ hbx
        have HG2 := Lib.hid hG2
        have hszx : w.heap.size + 1 ≤ wr.heap.size := by have := hbx.size; omega
        clear hG2
        by_cases hle : x ≤ hi
        · have ex := Go.IntWalk.i64_in (x + 1) (by omega)
          by_cases hx8 : x < hi
          · cases ha : hasG M x (y' - 1) with
            | true =>
              have hT : besB M ⟨x0, y', x1, y'⟩ = true := (besB_iff _ _).2 (.inr ⟨rfl, x, by dsimp only; omega, by dsimp only; omega, .inl ha⟩)
              have HT := Lib.hid hT
              clear hT
              go_wp2_with (go_at_call 67; (with_reducible refine (has_any g M x (y' - 1) _ HG2.out).mono ?_); rintro e w1 ⟨he, hb1⟩; rw [ha] at he; subst he; have hbx1 := hbx.trans (hb1.mono hszx); have hz1 : w.heap.size + 1 ≤ w1.heap.size := Nat.le_trans hszx hb1.size; obtain ⟨⟨p0, p1, p2, p3⟩, hG3⟩ := HZ.out _ hbx1; have HG3 := Lib.hid hG3; clear hG3)
              go_ret
              exact ⟨ret_bool HT.out.symm, B0.out.trans (hbx1.mono (Nat.le_succ _))⟩
            | false =>
              cases hc : hasG M x y' with
              | true =>
                have hT : besB M ⟨x0, y', x1, y'⟩ = true := (besB_iff _ _).2 (.inr ⟨rfl, x, by dsimp only; omega, by dsimp only; omega, .inr hc⟩)
                have HT := Lib.hid hT
                clear hT
                go_wp2_with (first
                  | (go_at_call 67; (with_reducible refine (has_any g M x (y' - 1) _ HG2.out).mono ?_); rintro e w1 ⟨he, hb1⟩; rw [ha] at he; subst he; have hbx1 := hbx.trans (hb1.mono hszx); have hz1 : w.heap.size + 1 ≤ w1.heap.size := Nat.le_trans hszx hb1.size; obtain ⟨⟨p0, p1, p2, p3⟩, hG3⟩ := HZ.out _ hbx1; have HG3 := Lib.hid hG3; clear hG3)
                  | (go_at_call 67; (with_reducible refine (has_any g M x y' _ HG3.out).mono ?_); rintro e w2 ⟨he, hb2⟩; rw [hc] at he; subst he; have hbx2 := hbx1.trans (hb2.mono hz1); obtain ⟨⟨q0, q1, q2, q3⟩, -⟩ := HZ.out _ hbx2))
                go_ret
                exact ⟨ret_bool HT.out.symm, B0.out.trans (hbx2.mono (Nat.le_succ _))⟩
              | false =>
                have HX2 : Hid (∀ u, lo ≤ u → u < x + 1 → u < hi → hasG M u (y' - 1) = false ∧ hasG M u y' = false) := Lib.hid (fun u h1 h2 h3 => by
                  by_cases hu : u = x
                  · rw [hu]; exact ⟨ha, hc⟩
                  · exact HX.out u h1 (by omega) h3)
                go_wp2_with (first
                  | (go_at_call 67; (with_reducible refine (has_any g M x (y' - 1) _ HG2.out).mono ?_); rintro e w1 ⟨he, hb1⟩; rw [ha] at he; subst he; have hbx1 := hbx.trans (hb1.mono hszx); have hz1 : w.heap.size + 1 ≤ w1.heap.size := Nat.le_trans hszx hb1.size; obtain ⟨⟨p0, p1, p2, p3⟩, hG3⟩ := HZ.out _ hbx1; have HG3 := Lib.hid hG3; clear hG3)
                  | (go_at_call 67; (with_reducible refine (has_any g M x y' _ HG3.out).mono ?_); rintro e w2 ⟨he, hb2⟩; rw [hc] at he; subst he; have hbx2 := hbx1.trans (hb2.mono hz1); obtain ⟨⟨q0, q1, q2, q3⟩, -⟩ := HZ.out _ hbx2))
                exact ⟨⟨x + 1, rfl, by omega, by omega, HX2, hbx2⟩, by simp [intOf]; omega⟩
          · have HX2 : Hid (∀ u, lo ≤ u → u < x + 1 → u < hi → hasG M u (y' - 1) = false ∧ hasG M u y' = false) := Lib.hid (fun u h1 h2 h3 => HX.out u h1 (by omega) h3)
            go_wp2
            exact ⟨⟨x + 1, rfl, by omega, by omega, HX2, hbx⟩, by simp [intOf]; omega⟩
        · obtain rfl : x = hi + 1 := by omega
          have HC : Hid (∀ u, lo ≤ u → u < hi → hasG M u (y' - 1) = false ∧ hasG M u y' = false) := Lib.hid (fun u h1 h2 => HX.out u h1 (by omega) h2)
          have hnl : ¬ (hi + 1 ≤ hi) := by omega
          go_wp2
          exact ⟨⟨y' + 1, rfl, .inr ⟨rfl, HC⟩, hbx⟩, by simp [intOf]; omega⟩
    · subst hye
      have hT : besB M ⟨x0, y, x1, y⟩ = false := bes_no (by
        rintro (⟨h, -⟩ | ⟨-, u, h1, h2, h3⟩)
        · exact hne h
        · dsimp only at h1 h2 h3
          have := HC.out u (by omega) (by omega)
          rw [this.1, this.2] at h3
          rcases h3 with h3 | h3 <;> cases h3)
      have HT := Lib.hid hT
      have hnl : ¬ (y + 1 ≤ y) := by omega
      clear hT
      go_wp2
      go_ret
      exact ⟨ret_bool HT.out.symm, B0.out.trans (hb.mono (Nat.le_succ _))⟩

/-- besides, of an edge of a set. -/
theorem bes_any (e : Ed) (G : Gr) (g : Nat) (M : Gr) (w : World) (hM : GB w g 96 M) (he : EdgeC G e) : Calls Tryz.prog 36 #[e.val, .pointer (some ⟨g, 0, none⟩)] w fun e' w' => e' = .returned (.bool (besB M e)) ∧ Below w.heap.size w w' := by
  obtain ⟨x0, y0, x1, y1⟩ := e
  obtain ⟨a1, a2, a3, a4, h⟩ := edge_in he
  dsimp only at a1 a2 a3 a4 h
  rcases h with ⟨rfl, h⟩ | ⟨rfl, h⟩
  · exact besV_any x0 y0 y1 g M w hM a1 a2 a4 h
  · exact besH_any y0 x0 x1 g M w hM a2 a1 a3 h

end Go.Proofs.YtemeegpmdhgocaaGreat
