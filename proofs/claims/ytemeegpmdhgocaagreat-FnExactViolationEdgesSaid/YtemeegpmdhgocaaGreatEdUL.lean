/- Contracts: l06Length, l20Touches. Conditions: an edge on the chip; a set of cells in memory. Contracts: l20Edges, l20Paired. Conditions: regions and a list of edges in memory. -/
import Derived.Test.YtemeegpmdhgocaaGreatEdT
import Derived.Deep.RegionHeld3
import Derived.Test.YtemeegpmdhgocaaGreatEdPQE
namespace Go.Proofs.YtemeegpmdhgocaaGreat
open Go.RowKit

set_option maxHeartbeats 400000 in
/-- l06Abs. -/
theorem abs_any (k n : Int) (w : World) (hk : -1000 ≤ k ∧ k ≤ 1000) (hn : max k (-k) = n) : Calls Tryz.prog 114 #[.int .i64 k] w fun e w' => e = .returned (.int .i64 n) ∧ w = w' := by
  have e1 := Go.IntWalk.i64_in (-k) (by omega)
  go_enter Tryz.func114, Tryz.ntmps114
  go_wp2
  go_ret
  exact ⟨rfl, rfl⟩

set_option maxHeartbeats 800000 in
set_option maxRecDepth 100000 in
/-- l06Length. -/
theorem len_any (x0 y0 x1 y1 n : Int) (w : World) (h0 : -40 ≤ x0 ∧ x0 ≤ 40) (h1 : -40 ≤ y0 ∧ y0 ≤ 40) (h2 : -40 ≤ x1 ∧ x1 ≤ 40) (h3 : -40 ≤ y1 ∧ y1 ≤ 40) (hn : max (x1 - x0) (-(x1 - x0)) + max (y1 - y0) (-(y1 - y0)) = n) :
    Calls Tryz.prog 89 #[.agg #[.int .i64 x0, .int .i64 y0, .int .i64 x1, .int .i64 y1]] w fun e w' => e = .returned (.int .i64 n) ∧ Below w.heap.size w w' := by
  have bb := (Below.refl w.heap.size w).alloc (Nat.le_refl _) (.cells #[.int .i64 x0, .int .i64 y0, .int .i64 x1, .int .i64 y1] 70)
  have z0 := Bk.new w 70 #[.int .i64 x0, .int .i64 y0, .int .i64 x1, .int .i64 y1]
  obtain ⟨c0, c1, c2, c3⟩ := box4 z0
  obtain ⟨p, hp⟩ : ∃ p, max (x1 - x0) (-(x1 - x0)) = p := ⟨_, rfl⟩
  obtain ⟨q, hq⟩ : ∃ q, max (y1 - y0) (-(y1 - y0)) = q := ⟨_, rfl⟩
  have e1 := Go.IntWalk.i64_in (x1 - x0) (by omega)
  have e2 := Go.IntWalk.i64_in (y1 - y0) (by omega)
  have e3 := Go.IntWalk.i64_in (p + q) (by omega)
  have HP := Lib.hid (fun (W : World) => abs_any (x1 - x0) p W (by omega) hp)
  have HQ := Lib.hid (fun (W : World) => abs_any (y1 - y0) q W (by omega) hq)
  obtain rfl : p + q = n := by omega
  have HB := Lib.hid bb
  clear bb hp hq hn
  go_enter Tryz.func89, Tryz.ntmps89
  go_wp2_with fail
  go_region_held3 (fun w' => w'.cell? ⟨w.heap.size, 0, none⟩ = some (.int .i64 x0) ∧ w'.cell? ⟨w.heap.size, 1, none⟩ = some (.int .i64 y0) ∧ w'.cell? ⟨w.heap.size, 2, none⟩ = some (.int .i64 x1) ∧ w'.cell? ⟨w.heap.size, 3, none⟩ = some (.int .i64 y1)) (exact box4 z0)
    (first
    | (go_at_call 114; (with_reducible refine (HP.out _).mono ?_); rintro e w1 ⟨rfl, rfl⟩)
    | (go_at_call 114; (with_reducible refine (HQ.out _).mono ?_); rintro e w1 ⟨rfl, rfl⟩))
  all_goals
    go_wp2
    go_ret
    exact ⟨rfl, HB.out.drew⟩

set_option maxHeartbeats 1600000 in
set_option maxRecDepth 100000 in
/-- l20Touches, a level edge. -/
theorem touchH_any (y x0 x1 : Int) (v : Value) (M : Gr) (w : World) (hM : GS w 0 v M) (hy : -40 ≤ y ∧ y ≤ 40) (h0 : -40 ≤ x0 ∧ x0 ≤ 40) (h1 : -40 ≤ x1 ∧ x1 ≤ 40) (hne : x0 ≠ x1) :
    Calls Tryz.prog 52 #[v, .agg #[.int .i64 x0, .int .i64 y, .int .i64 x1, .int .i64 y]] w fun e w' => e = .returned (.bool (besB M ⟨x0, y, x1, y⟩)) ∧ Below w.heap.size w w' := by
  have b0 := (Below.refl w.heap.size w).alloc (Nat.le_refl _) (.cells #[.int .i64 x0, .int .i64 y, .int .i64 x1, .int .i64 y] 70)
  have z0 := Bk.new w 70 #[.int .i64 x0, .int .i64 y, .int .i64 x1, .int .i64 y]
  have HZ := Lib.hid (show ∀ W, Below (w.heap.size + 1) (w.alloc (.cells #[.int .i64 x0, .int .i64 y, .int .i64 x1, .int .i64 y] 70)) W → (W.cell? ⟨w.heap.size, 0, none⟩ = some (.int .i64 x0) ∧ W.cell? ⟨w.heap.size, 1, none⟩ = some (.int .i64 y) ∧ W.cell? ⟨w.heap.size, 2, none⟩ = some (.int .i64 x1) ∧ W.cell? ⟨w.heap.size, 3, none⟩ = some (.int .i64 y)) ∧ GS W 0 v M from fun W hW => ⟨box4 (z0.below hW (Nat.lt_succ_self _)), (hM.on b0).on (by simpa using hW)⟩)
  have s0 : (w.alloc (.cells #[.int .i64 x0, .int .i64 y, .int .i64 x1, .int .i64 y] 70)).heap.size = w.heap.size + 1 := by simp
  have B0 := Lib.hid b0
  clear hM z0 b0
  obtain ⟨lo, hlo⟩ : ∃ lo, min x0 x1 = lo := ⟨_, rfl⟩
  obtain ⟨hi, hhi⟩ : ∃ hi, max x0 x1 = hi := ⟨_, rfl⟩
  have hlh : lo < hi ∧ -40 ≤ lo ∧ hi ≤ 40 := by omega
  have hab : (x0 == x1) = false := by simpa using hne
  have hmm : min y y = y := by omega
  have HLN := Lib.hid (fun (W : World) => len_any x0 y x1 y (hi - lo) W h0 hy h1 hy (by omega))
  have HL := Lib.hid (And.intro hlo hhi)
  go_enter Tryz.func52, Tryz.ntmps52
  go_wp2
  generalize hW0 : w.alloc (.cells #[.int .i64 x0, .int .i64 y, .int .i64 x1, .int .i64 y] 70) = W0 at *
  go_loopw [5] (fun kv wr => ∃ k : Int, kv = .int .i64 k ∧ 0 ≤ k ∧ k ≤ hi - lo ∧ Hid (∀ u, lo ≤ u → u < lo + k → hasG M u (y - 1) = false ∧ hasG M u y = false) ∧ Below (w.heap.size + 1) W0 wr) (fun kv _ => (hi - lo - intOf kv).toNat)
  case atStart => exact ⟨0, rfl, by omega, by omega, Lib.hid (fun u h1 h2 => by omega), Below.refl _ _⟩
  case round =>
    obtain ⟨k, rfl, hk0, hk1, HX, hb⟩ := hrel
    obtain ⟨⟨d0, d1, d2, d3⟩, hGr⟩ := HZ.out _ hb
    clear hGr
    have hsz : w.heap.size + 1 ≤ wr.heap.size := by have := hb.size; omega
    by_cases hlt : k < hi - lo
    · have e1 := Go.IntWalk.i64_in (lo + k) (by omega)
      have e2 := Go.IntWalk.i64_in (y - 1) (by omega)
      have e3 := Go.IntWalk.i64_in (k + 1) (by omega)
      cases ha : hasG M (lo + k) y with
      | true =>
        have hT : besB M ⟨x0, y, x1, y⟩ = true := (besB_iff _ _).2 (.inr ⟨rfl, lo + k, by dsimp only; omega, by dsimp only; omega, .inr ha⟩)
        have HT := Lib.hid hT
        clear hT
        go_wp2_with (first
          | (go_at_call 89; (with_reducible refine (HLN.out _).mono ?_); rintro e w1 ⟨rfl, hb1⟩; have hbx := hb.trans (hb1.mono hsz); obtain ⟨⟨c0, c1, c2, c3⟩, hG1⟩ := HZ.out _ hbx; have HG1 := Lib.hid hG1; clear hG1)
          | (go_at_call 90; (with_reducible refine (l03Has_any v M (lo + k) y _ HG1.out).mono ?_); rintro e w2 ⟨he, rfl⟩; rw [ha] at he; subst he))
        go_ret
        exact ⟨ret_bool HT.out.symm, B0.out.trans (hbx.mono (Nat.le_succ _))⟩
      | false =>
        cases hc : hasG M (lo + k) (y - 1) with
        | true =>
          have hT : besB M ⟨x0, y, x1, y⟩ = true := (besB_iff _ _).2 (.inr ⟨rfl, lo + k, by dsimp only; omega, by dsimp only; omega, .inl hc⟩)
          have HT := Lib.hid hT
          clear hT
          go_wp2_with (first
            | (go_at_call 89; (with_reducible refine (HLN.out _).mono ?_); rintro e w1 ⟨rfl, hb1⟩; have hbx := hb.trans (hb1.mono hsz); obtain ⟨⟨c0, c1, c2, c3⟩, hG1⟩ := HZ.out _ hbx; have HG1 := Lib.hid hG1; clear hG1)
            | (go_at_call 90; (with_reducible refine (l03Has_any v M (lo + k) y _ HG1.out).mono ?_); rintro e w2 ⟨he, rfl⟩; rw [ha] at he; subst he)
            | (go_at_call 90; (with_reducible refine (l03Has_any v M (lo + k) (y - 1) _ HG1.out).mono ?_); rintro e w3 ⟨he, rfl⟩; rw [hc] at he; subst he))
          go_ret
          exact ⟨ret_bool HT.out.symm, B0.out.trans (hbx.mono (Nat.le_succ _))⟩
        | false =>
          have HX2 : Hid (∀ u, lo ≤ u → u < lo + (k + 1) → hasG M u (y - 1) = false ∧ hasG M u y = false) := Lib.hid (fun u h1 h2 => by
            by_cases hu : u = lo + k
            · rw [hu]; exact ⟨hc, ha⟩
            · exact HX.out u h1 (by omega))
          go_wp2_with (first
            | (go_at_call 89; (with_reducible refine (HLN.out _).mono ?_); rintro e w1 ⟨rfl, hb1⟩; have hbx := hb.trans (hb1.mono hsz); obtain ⟨⟨c0, c1, c2, c3⟩, hG1⟩ := HZ.out _ hbx; have HG1 := Lib.hid hG1; clear hG1)
            | (go_at_call 90; (with_reducible refine (l03Has_any v M (lo + k) y _ HG1.out).mono ?_); rintro e w2 ⟨he, rfl⟩; rw [ha] at he; subst he)
            | (go_at_call 90; (with_reducible refine (l03Has_any v M (lo + k) (y - 1) _ HG1.out).mono ?_); rintro e w3 ⟨he, rfl⟩; rw [hc] at he; subst he))
          exact ⟨⟨k + 1, rfl, by omega, by omega, HX2, hbx⟩, by simp [intOf]; omega⟩
    · obtain rfl : hi - lo = k := by omega
      have hT : besB M ⟨x0, y, x1, y⟩ = false := bes_no (by
        rintro (⟨h, -⟩ | ⟨-, u, h1, h2, h3⟩)
        · exact hne h
        · dsimp only at h1 h2 h3
          have := HX.out u (by omega) (by omega)
          rw [this.1, this.2] at h3
          rcases h3 with h3 | h3 <;> cases h3)
      have HT := Lib.hid hT
      clear hT
      go_wp2_with (go_at_call 89; (with_reducible refine (HLN.out _).mono ?_); rintro e w1 ⟨rfl, hb1⟩; have hbx := hb.trans (hb1.mono hsz); obtain ⟨⟨c0, c1, c2, c3⟩, hG1⟩ := HZ.out _ hbx; have HG1 := Lib.hid hG1; clear hG1)
      go_ret
      exact ⟨ret_bool HT.out.symm, B0.out.trans (hbx.mono (Nat.le_succ _))⟩

set_option maxHeartbeats 1600000 in
set_option maxRecDepth 100000 in
/-- l20Touches, an upright edge. -/
theorem touchV_any (x y0 y1 : Int) (v : Value) (M : Gr) (w : World) (hM : GS w 0 v M) (hx : -40 ≤ x ∧ x ≤ 40) (h0 : -40 ≤ y0 ∧ y0 ≤ 40) (h1 : -40 ≤ y1 ∧ y1 ≤ 40) (hne : y0 ≠ y1) :
    Calls Tryz.prog 52 #[v, .agg #[.int .i64 x, .int .i64 y0, .int .i64 x, .int .i64 y1]] w fun e w' => e = .returned (.bool (besB M ⟨x, y0, x, y1⟩)) ∧ Below w.heap.size w w' := by
  have b0 := (Below.refl w.heap.size w).alloc (Nat.le_refl _) (.cells #[.int .i64 x, .int .i64 y0, .int .i64 x, .int .i64 y1] 70)
  have z0 := Bk.new w 70 #[.int .i64 x, .int .i64 y0, .int .i64 x, .int .i64 y1]
  have HZ := Lib.hid (show ∀ W, Below (w.heap.size + 1) (w.alloc (.cells #[.int .i64 x, .int .i64 y0, .int .i64 x, .int .i64 y1] 70)) W → (W.cell? ⟨w.heap.size, 0, none⟩ = some (.int .i64 x) ∧ W.cell? ⟨w.heap.size, 1, none⟩ = some (.int .i64 y0) ∧ W.cell? ⟨w.heap.size, 2, none⟩ = some (.int .i64 x) ∧ W.cell? ⟨w.heap.size, 3, none⟩ = some (.int .i64 y1)) ∧ GS W 0 v M from fun W hW => ⟨box4 (z0.below hW (Nat.lt_succ_self _)), (hM.on b0).on (by simpa using hW)⟩)
  have s0 : (w.alloc (.cells #[.int .i64 x, .int .i64 y0, .int .i64 x, .int .i64 y1] 70)).heap.size = w.heap.size + 1 := by simp
  have B0 := Lib.hid b0
  clear hM z0 b0
  obtain ⟨lo, hlo⟩ : ∃ lo, min y0 y1 = lo := ⟨_, rfl⟩
  obtain ⟨hi, hhi⟩ : ∃ hi, max y0 y1 = hi := ⟨_, rfl⟩
  have hlh : lo < hi ∧ -40 ≤ lo ∧ hi ≤ 40 := by omega
  have hab : (y0 == y1) = false := by simpa using hne
  have hmm : min x x = x := by omega
  have HLN := Lib.hid (fun (W : World) => len_any x y0 x y1 (hi - lo) W hx h0 hx h1 (by omega))
  have HL := Lib.hid (And.intro hlo hhi)
  go_enter Tryz.func52, Tryz.ntmps52
  go_wp2
  generalize hW0 : w.alloc (.cells #[.int .i64 x, .int .i64 y0, .int .i64 x, .int .i64 y1] 70) = W0 at *
  go_loopw [5] (fun kv wr => ∃ k : Int, kv = .int .i64 k ∧ 0 ≤ k ∧ k ≤ hi - lo ∧ Hid (∀ u, lo ≤ u → u < lo + k → hasG M (x - 1) u = false ∧ hasG M x u = false) ∧ Below (w.heap.size + 1) W0 wr) (fun kv _ => (hi - lo - intOf kv).toNat)
  case atStart => exact ⟨0, rfl, by omega, by omega, Lib.hid (fun u h1 h2 => by omega), Below.refl _ _⟩
  case round =>
    obtain ⟨k, rfl, hk0, hk1, HX, hb⟩ := hrel
    obtain ⟨⟨d0, d1, d2, d3⟩, hGr⟩ := HZ.out _ hb
    clear hGr
    have hsz : w.heap.size + 1 ≤ wr.heap.size := by have := hb.size; omega
    by_cases hlt : k < hi - lo
    · have e1 := Go.IntWalk.i64_in (lo + k) (by omega)
      have e2 := Go.IntWalk.i64_in (x - 1) (by omega)
      have e3 := Go.IntWalk.i64_in (k + 1) (by omega)
      cases ha : hasG M x (lo + k) with
      | true =>
        have hT : besB M ⟨x, y0, x, y1⟩ = true := (besB_iff _ _).2 (.inl ⟨rfl, lo + k, by dsimp only; omega, by dsimp only; omega, .inr ha⟩)
        have HT := Lib.hid hT
        clear hT
        go_wp2_with (first
          | (go_at_call 89; (with_reducible refine (HLN.out _).mono ?_); rintro e w1 ⟨rfl, hb1⟩; have hbx := hb.trans (hb1.mono hsz); obtain ⟨⟨c0, c1, c2, c3⟩, hG1⟩ := HZ.out _ hbx; have HG1 := Lib.hid hG1; clear hG1)
          | (go_at_call 90; (with_reducible refine (l03Has_any v M x (lo + k) _ HG1.out).mono ?_); rintro e w2 ⟨he, rfl⟩; rw [ha] at he; subst he))
        go_ret
        exact ⟨ret_bool HT.out.symm, B0.out.trans (hbx.mono (Nat.le_succ _))⟩
      | false =>
        cases hc : hasG M (x - 1) (lo + k) with
        | true =>
          have hT : besB M ⟨x, y0, x, y1⟩ = true := (besB_iff _ _).2 (.inl ⟨rfl, lo + k, by dsimp only; omega, by dsimp only; omega, .inl hc⟩)
          have HT := Lib.hid hT
          clear hT
          go_wp2_with (first
            | (go_at_call 89; (with_reducible refine (HLN.out _).mono ?_); rintro e w1 ⟨rfl, hb1⟩; have hbx := hb.trans (hb1.mono hsz); obtain ⟨⟨c0, c1, c2, c3⟩, hG1⟩ := HZ.out _ hbx; have HG1 := Lib.hid hG1; clear hG1)
            | (go_at_call 90; (with_reducible refine (l03Has_any v M x (lo + k) _ HG1.out).mono ?_); rintro e w2 ⟨he, rfl⟩; rw [ha] at he; subst he)
            | (go_at_call 90; (with_reducible refine (l03Has_any v M (x - 1) (lo + k) _ HG1.out).mono ?_); rintro e w3 ⟨he, rfl⟩; rw [hc] at he; subst he))
          go_ret
          exact ⟨ret_bool HT.out.symm, B0.out.trans (hbx.mono (Nat.le_succ _))⟩
        | false =>
          have HX2 : Hid (∀ u, lo ≤ u → u < lo + (k + 1) → hasG M (x - 1) u = false ∧ hasG M x u = false) := Lib.hid (fun u h1 h2 => by
            by_cases hu : u = lo + k
            · rw [hu]; exact ⟨hc, ha⟩
            · exact HX.out u h1 (by omega))
          go_wp2_with (first
            | (go_at_call 89; (with_reducible refine (HLN.out _).mono ?_); rintro e w1 ⟨rfl, hb1⟩; have hbx := hb.trans (hb1.mono hsz); obtain ⟨⟨c0, c1, c2, c3⟩, hG1⟩ := HZ.out _ hbx; have HG1 := Lib.hid hG1; clear hG1)
            | (go_at_call 90; (with_reducible refine (l03Has_any v M x (lo + k) _ HG1.out).mono ?_); rintro e w2 ⟨he, rfl⟩; rw [ha] at he; subst he)
            | (go_at_call 90; (with_reducible refine (l03Has_any v M (x - 1) (lo + k) _ HG1.out).mono ?_); rintro e w3 ⟨he, rfl⟩; rw [hc] at he; subst he))
          exact ⟨⟨k + 1, rfl, by omega, by omega, HX2, hbx⟩, by simp [intOf]; omega⟩
    · obtain rfl : hi - lo = k := by omega
      have hT : besB M ⟨x, y0, x, y1⟩ = false := bes_no (by
        rintro (⟨-, u, h1, h2, h3⟩ | ⟨h, -⟩)
        rotate_left
        · exact hne h
        · dsimp only at h1 h2 h3
          have := HX.out u (by omega) (by omega)
          rw [this.1, this.2] at h3
          rcases h3 with h3 | h3 <;> cases h3)
      have HT := Lib.hid hT
      clear hT
      go_wp2_with (go_at_call 89; (with_reducible refine (HLN.out _).mono ?_); rintro e w1 ⟨rfl, hb1⟩; have hbx := hb.trans (hb1.mono hsz); obtain ⟨⟨c0, c1, c2, c3⟩, hG1⟩ := HZ.out _ hbx; have HG1 := Lib.hid hG1; clear hG1)
      go_ret
      exact ⟨ret_bool HT.out.symm, B0.out.trans (hbx.mono (Nat.le_succ _))⟩

/-- l20Touches, of an edge of a set. -/
theorem touch_any (e : Ed) (G : Gr) (v : Value) (M : Gr) (w : World) (hM : GS w 0 v M) (he : EdgeC G e) : Calls Tryz.prog 52 #[v, e.val] w fun e' w' => e' = .returned (.bool (besB M e)) ∧ Below w.heap.size w w' := by
  obtain ⟨x0, y0, x1, y1⟩ := e
  obtain ⟨a1, a2, a3, a4, h⟩ := edge_in he
  dsimp only at a1 a2 a3 a4 h
  rcases h with ⟨rfl, h⟩ | ⟨rfl, h⟩
  · exact touchV_any x0 y0 y1 v M w hM a1 a2 a4 h
  · exact touchH_any y0 x0 x1 v M w hM a2 a1 a3 h

end Go.Proofs.YtemeegpmdhgocaaGreat

namespace Go.Proofs.YtemeegpmdhgocaaGreat
open Go.RowKit

theorem touch_four (a b c d : Int) (G : Gr) (v : Value) (M : Gr) (w : World) (hM : GS w 0 v M) (he : EdgeC G ⟨a, b, c, d⟩) : Calls Tryz.prog 52 #[v, .agg #[.int .i64 a, .int .i64 b, .int .i64 c, .int .i64 d]] w fun e' w' => e' = .returned (.bool (besB M ⟨a, b, c, d⟩)) ∧ Below w.heap.size w w' := touch_any ⟨a, b, c, d⟩ G v M w hM he
theorem putAllE_step (M : Gr) (out K : List Ed) (i : Nat) (e : Ed) (h : K[i]? = some e) : putAllE M out (K.take (i + 1)) = if besB M e = true then putE (putAllE M out (K.take i)) e else putAllE M out (K.take i) := by
  unfold putAllE
  rw [List.take_add_one, h, Option.toList, List.foldl_append]
  rfl
theorem putAllE_len (M : Gr) : ∀ (K out : List Ed), (putAllE M out K).length ≤ out.length + K.length
  | [], out => by simp [putAllE]
  | e :: K, out => by
    have h := putAllE_len M K (if besB M e = true then putE out e else out)
    have h2 := putE_len out e
    show (putAllE M (if besB M e = true then putE out e else out) K).length ≤ _
    split at h <;> simp_all <;> omega

set_option maxHeartbeats 1600000 in
set_option maxRecDepth 100000 in
/-- l20Edges. -/
theorem l20Edges_any (g n c : Nat) (out : List Ed) (va vm : Value) (ra rm : List Rc) (B : Nat) (w : World) (hv : EL w B (.slice (some ⟨g, 0, none⟩) n c) out) (hB : B ≤ w.heap.size) (hra : RL w 0 va ra) (hrm : RL w 0 vm rm) (oka : okAll ra = true) (okm : okAll rm = true) (hl : out.length ≤ 50000) :
    Calls Tryz.prog 26 #[.slice (some ⟨g, 0, none⟩) n c, va, vm] w fun e w' => ∃ g' n' c' K, e = .returned (.slice (some ⟨g', 0, none⟩) n' c') ∧ EL w' B (.slice (some ⟨g', 0, none⟩) n' c') (putAllE (cellsG rm) out K) ∧ EdgesOf (cellsG ra) K ∧ K.length ≤ 26000 ∧ Below w.heap.size w w' := by
  have HV := Lib.hid (show ∀ W, Below w.heap.size w W → EL W B (.slice (some ⟨g, 0, none⟩) n c) out ∧ RL W 0 va ra ∧ RL W 0 vm rm from fun W hW => ⟨hv.on hW, hra.on hW, hrm.on hW⟩)
  have Hok := Lib.hid (And.intro oka okm)
  clear hv hra hrm oka okm
  obtain ⟨M, hM⟩ : ∃ M, cellsG rm = M := ⟨_, rfl⟩
  obtain ⟨G, hG⟩ : ∃ G, cellsG ra = G := ⟨_, rfl⟩
  have HM := Lib.hid hM
  have HGe := Lib.hid hG
  rw [hM, hG]
  clear hM hG
  go_enter Tryz.func26, Tryz.ntmps26
  go_wp2_with fail
  refine (l03Bits_any vm rm _ (HV.out _ (Below.refl _ _)).2.2 Hok.out.2).mono ?_
  rintro e w1 ⟨um, rfl, hgm, hb1⟩
  rw [HM.out] at hgm
  go_wp2_with fail
  refine (l03Bits_any va ra _ (HV.out _ hb1).2.1 Hok.out.1).mono ?_
  rintro e w2 ⟨ua, rfl, hga, hb2⟩
  rw [HGe.out] at hga
  have t2 := hb1.trans (hb2.mono hb1.size)
  go_wp2_with fail
  refine (edges_any ua G _ (hga.less (Nat.zero_le _))).mono ?_
  rintro e w3 ⟨gk, nk, ck, K, rfl, hK, -, hKe, hKl, hb3⟩
  have t3 := t2.trans (hb3.mono t2.size)
  have HS := Lib.hid hK
  have HKe := Lib.hid hKe
  have HMg := Lib.hid (show GS w3 0 um M from ((hgm.on hb2).on hb3).less (Nat.zero_le _))
  have r3 := (HV.out _ t3).1
  obtain ⟨_, _, en, hnc, hmx, -⟩ := hK.form
  simp only [Value.slice.injEq] at en
  obtain ⟨-, rfl, rfl⟩ := en
  clear hK hKe hgm hga hb1 hb2 hb3 t2
  go_wp2
  go_loopw [0, 9] (fun ov iv wr => ∃ (i g n c : Nat), i ≤ K.length ∧ iv = .int .i64 i ∧ ov = .slice (some ⟨g, 0, none⟩) n c ∧ EL wr B (.slice (some ⟨g, 0, none⟩) n c) (putAllE M out (K.take i)) ∧ Below w3.heap.size w3 wr) (fun _ iv _ => K.length - (intOf iv).toNat)
  case atStart => exact ⟨0, g, n, c, by omega, rfl, rfl, by simpa [putAllE] using r3, Below.refl _ _⟩
  case round =>
    obtain ⟨i, g, n, c, hi, rfl, rfl, hL, hb⟩ := hrel
    clear r3
    have hb0 := t3.trans (hb.mono t3.size)
    by_cases hlt : i < K.length
    · obtain ⟨gs, X0, Y0, X1, Y1, hgs, he, hgl, c0, c1, c2, c3⟩ := (HS.out.on hb).elem hlt
      simp only [Option.some.injEq, Addr.mk.injEq, and_true] at hgs
      subst hgs
      have hlti : (i : Int) < (K.length : Int) := by omega
      have hlen : (putAllE M out (K.take i)).length ≤ 100000 := by
        have h1 := putAllE_len M (K.take i) out
        simp only [List.length_take] at h1
        omega
      have heC : EdgeC G ⟨X0, Y0, X1, Y1⟩ := (HKe.out _).1 (List.mem_of_getElem? he)
      have HeC := Lib.hid heC
      have hst := putAllE_step M out K i _ he
      have HLr := Lib.hid hL
      have hszr : B ≤ wr.heap.size := Nat.le_trans hB hb0.size
      clear heC he hL
      cases hbs : besB M ⟨X0, Y0, X1, Y1⟩ with
      | true =>
        rw [hbs, if_pos rfl] at hst
        have HST := Lib.hid hst
        have Hbs := Lib.hid hbs
        clear hst hbs
        go_wp2_with (first
          | (go_at_call 52; (with_reducible refine (touch_four X0 Y0 X1 Y1 G um M _ (HMg.out.on hb) HeC.out).mono ?_); rintro e w4 ⟨he, hb4⟩; rw [Hbs.out] at he; subst he; have d0 := (hb4.cell (p := ⟨gk, _, none⟩) hgl).trans c0; have d1 := (hb4.cell (p := ⟨gk, _, none⟩) hgl).trans c1; have d2 := (hb4.cell (p := ⟨gk, _, none⟩) hgl).trans c2; have d3 := (hb4.cell (p := ⟨gk, _, none⟩) hgl).trans c3; have hsz4 := hb4.size)
          | (go_at_call 53; refine (put_E g n c (putAllE M out (K.take i)) ⟨X0, Y0, X1, Y1⟩ B _ (HLr.out.on hb4) (Nat.le_trans hszr hsz4) hlen).mono ?_; rintro e w5 ⟨g5, n5, c5, rfl, hL5, hb5⟩; have hb45 := hb4.trans (hb5.mono hsz4)))
        exact ⟨⟨i + 1, g5, n5, c5, by omega, by go_num, rfl, by rw [HST.out]; exact hL5, hb.trans (hb45.mono hb.size)⟩, by simp [intOf]; omega⟩
      | false =>
        rw [hbs, if_neg (by decide)] at hst
        have HST := Lib.hid hst
        have Hbs := Lib.hid hbs
        clear hst hbs
        go_wp2_with (go_at_call 52; (with_reducible refine (touch_four X0 Y0 X1 Y1 G um M _ (HMg.out.on hb) HeC.out).mono ?_); rintro e w4 ⟨he, hb4⟩; rw [Hbs.out] at he; subst he)
        exact ⟨⟨i + 1, g, n, c, by omega, by go_num, rfl, by rw [HST.out]; exact HLr.out.on hb4, hb.trans (hb4.mono hb.size)⟩, by simp [intOf]; omega⟩
    · obtain rfl : i = K.length := by omega
      rw [List.take_length] at hL
      go_wp2
      go_ret
      exact ⟨g, n, c, K, rfl, hL, HKe.out, hKl, hb0⟩

end Go.Proofs.YtemeegpmdhgocaaGreat
