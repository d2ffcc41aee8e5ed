/- Contracts: the regions that the laws draw. Condition: a well-formed source. -/
import Derived.Test.YtooglkdloaaomaaFnKit
import Derived.Test.YtooglkdloaaomaaAllRuns
import Derived.Test.YtooglkdloaaomaaNearMath
namespace Go.Proofs.Ytooglkdloaaomaa
open Go.RowKit

theorem only_above {a w w' : World} {row : Option Nat} (h : a.grownBy w row) (hb : Below a.heap.size w w') : a.grownBy w' row :=
  ⟨hb.os.trans h.os, hb.tape.trans h.tape, hb.output.trans h.output, Nat.le_trans h.size hb.size, fun i hi hne => (hb.block i hi).trans (h.block i hi hne)⟩

theorem dice_four {w wb : World} {g : Nat} (hD : Dice wb g) (hg : g < w.heap.size) (hG : w.grownBy wb (some g)) (x0 x1 x2 x3 : Value) :
    Dice ((((wb.setCell ⟨w.heap.size, 0, none⟩ x0).setCell ⟨w.heap.size, 1, none⟩ x1).setCell ⟨w.heap.size, 2, none⟩ x2).setCell ⟨w.heap.size, 3, none⟩ x3) g ∧
    w.grownBy ((((wb.setCell ⟨w.heap.size, 0, none⟩ x0).setCell ⟨w.heap.size, 1, none⟩ x1).setCell ⟨w.heap.size, 2, none⟩ x2).setCell ⟨w.heap.size, 3, none⟩ x3) (some g) :=
  ⟨(((hD.other (p := ⟨w.heap.size, 0, none⟩) hg x0).other (p := ⟨w.heap.size, 1, none⟩) hg x1).other (p := ⟨w.heap.size, 2, none⟩) hg x2).other (p := ⟨w.heap.size, 3, none⟩) hg x3,
   only_above hG (((((Below.refl _ wb).setCell (p := ⟨w.heap.size, 0, none⟩) (Nat.le_refl _) x0).setCell (p := ⟨w.heap.size, 1, none⟩) (Nat.le_refl _) x1).setCell (p := ⟨w.heap.size, 2, none⟩) (Nat.le_refl _) x2).setCell (p := ⟨w.heap.size, 3, none⟩) (Nat.le_refl _) x3)⟩

set_option maxHeartbeats 3200000 in
set_option maxRecDepth 100000 in
/-- l02DrawRect. -/
theorem drawRect_any (g : Nat) (w : World) (hD : Dice w g) : Calls Try.prog 153 #[.pointer (some ⟨g, 0, none⟩)] w fun e w' => ∃ r : Rc, e = .returned r.val ∧ okRc r = true ∧ Dice w' g ∧ w.grownBy w' (some g) := by
  have hg := hD.lt
  have z0 := Bk.new w 32 #[.int .i64 0, .int .i64 0, .int .i64 0, .int .i64 0]
  have hD0 := hD.alloc (.cells #[.int .i64 0, .int .i64 0, .int .i64 0, .int .i64 0] 32)
  have hA := only_alloc (only_refl w (some g)) (.cells #[.int .i64 0, .int .i64 0, .int .i64 0, .int .i64 0] 32)
  clear hD
  unfold Rc.val
  go_enter Try.func153, Try.ntmps153
  go_wp2_with fail
  refine (next_any g 22 _ hD0 (by omega)).mono ?_
  rintro e w1 ⟨k1, rfl, hk1, hD1, hG1⟩
  have e1 := Go.IntWalk.i64_in (k1 - 12) (by omega)
  go_wp2_with fail
  refine (next_any g 22 _ hD1 (by omega)).mono ?_
  rintro e w2 ⟨k2, rfl, hk2, hD2, hG2⟩
  have e2 := Go.IntWalk.i64_in (k2 - 12) (by omega)
  go_wp2_with fail
  refine (next_any g 16 _ hD2 (by omega)).mono ?_
  rintro e w3 ⟨k3, rfl, hk3, hD3, hG3⟩
  by_cases hk30 : k3 = 0
  · subst hk30
    go_wp2_with fail
    refine (next_any g 3 _ hD3 (by omega)).mono ?_
    rintro e w4 ⟨k4, rfl, hk4, hD4, hG4⟩
    have e4 := Go.IntWalk.i64_in (39 - k4) (by omega)
    go_wp2_with fail
    refine (next_any g 16 _ hD4 (by omega)).mono ?_
    rintro e w5 ⟨k5, rfl, hk5, hD5, hG5⟩
    by_cases hk50 : k5 = 0
    · subst hk50
      go_wp2_with fail
      refine (next_any g 7 _ hD5 (by omega)).mono ?_
      rintro e wa ⟨ka, rfl, hka, hDa, hGa⟩
      have ea := Go.IntWalk.i64_in (ka + 1) (by omega)
      go_wp2_with fail
      refine (next_any g 7 _ hDa (by omega)).mono ?_
      rintro e wb ⟨kb, rfl, hkb, hDb, hGb⟩
      have eb := Go.IntWalk.i64_in (kb + 1) (by omega)
      have ex := Go.IntWalk.i64_in ((39 - k4) + (ka + 1)) (by omega)
      have ey := Go.IntWalk.i64_in ((-40) + (kb + 1)) (by omega)
      have hGz := (only_trans (only_trans (only_trans (only_trans (only_trans (only_trans hG1 hG2) hG3) hG4) hG5) hGa) hGb)
      have hz := z0.grown hGz (by simp; omega)
      obtain ⟨c0, c1, c2, c3⟩ := box4 hz
      have f0 := hz.frozen 0
      have f1 := hz.frozen 1
      have f2 := hz.frozen 2
      have f3 := hz.frozen 3
      have hrb : g < w.heap.size := hg
      clear hGa hGb hG2 hG3 hG4 hG5
      go_wp2
      refine bodyPost_ret (v := .agg #[.int .i64 (39 - k4), .int .i64 (-40), .int .i64 (min 40 ((39 - k4) + (ka + 1))), .int .i64 (min 40 ((-40) + (kb + 1)))]) (by simp [results, Try.results153, go_sem, *]) rfl ?_
      refine ⟨⟨(39 - k4), (-40), min 40 ((39 - k4) + (ka + 1)), min 40 ((-40) + (kb + 1))⟩, rfl, ?_, ?_, ?_⟩
      · rw [okRc_iff]
        dsimp only
        omega
      · exact (dice_four hDb hg (only_trans hA hGz) _ _ _ _).1
      · exact (dice_four hDb hg (only_trans hA hGz) _ _ _ _).2
    · go_wp2_with fail
      refine (next_any g 7 _ hD5 (by omega)).mono ?_
      rintro e wa ⟨ka, rfl, hka, hDa, hGa⟩
      have ea := Go.IntWalk.i64_in (ka + 1) (by omega)
      go_wp2_with fail
      refine (next_any g 7 _ hDa (by omega)).mono ?_
      rintro e wb ⟨kb, rfl, hkb, hDb, hGb⟩
      have eb := Go.IntWalk.i64_in (kb + 1) (by omega)
      have ex := Go.IntWalk.i64_in ((39 - k4) + (ka + 1)) (by omega)
      have ey := Go.IntWalk.i64_in ((k2 - 12) + (kb + 1)) (by omega)
      have hGz := (only_trans (only_trans (only_trans (only_trans (only_trans (only_trans hG1 hG2) hG3) hG4) hG5) hGa) hGb)
      have hz := z0.grown hGz (by simp; omega)
      obtain ⟨c0, c1, c2, c3⟩ := box4 hz
      have f0 := hz.frozen 0
      have f1 := hz.frozen 1
      have f2 := hz.frozen 2
      have f3 := hz.frozen 3
      have hrb : g < w.heap.size := hg
      clear hGa hGb hG2 hG3 hG4 hG5
      go_wp2
      refine bodyPost_ret (v := .agg #[.int .i64 (39 - k4), .int .i64 (k2 - 12), .int .i64 (min 40 ((39 - k4) + (ka + 1))), .int .i64 (min 40 ((k2 - 12) + (kb + 1)))]) (by simp [results, Try.results153, go_sem, *]) rfl ?_
      refine ⟨⟨(39 - k4), (k2 - 12), min 40 ((39 - k4) + (ka + 1)), min 40 ((k2 - 12) + (kb + 1))⟩, rfl, ?_, ?_, ?_⟩
      · rw [okRc_iff]
        dsimp only
        omega
      · exact (dice_four hDb hg (only_trans hA hGz) _ _ _ _).1
      · exact (dice_four hDb hg (only_trans hA hGz) _ _ _ _).2
  · go_wp2_with fail
    refine (next_any g 16 _ hD3 (by omega)).mono ?_
    rintro e w5 ⟨k5, rfl, hk5, hD5, hG5⟩
    by_cases hk50 : k5 = 0
    · subst hk50
      go_wp2_with fail
      refine (next_any g 7 _ hD5 (by omega)).mono ?_
      rintro e wa ⟨ka, rfl, hka, hDa, hGa⟩
      have ea := Go.IntWalk.i64_in (ka + 1) (by omega)
      go_wp2_with fail
      refine (next_any g 7 _ hDa (by omega)).mono ?_
      rintro e wb ⟨kb, rfl, hkb, hDb, hGb⟩
      have eb := Go.IntWalk.i64_in (kb + 1) (by omega)
      have ex := Go.IntWalk.i64_in ((k1 - 12) + (ka + 1)) (by omega)
      have ey := Go.IntWalk.i64_in ((-40) + (kb + 1)) (by omega)
      have hGz := (only_trans (only_trans (only_trans (only_trans (only_trans hG1 hG2) hG3) hG5) hGa) hGb)
      have hz := z0.grown hGz (by simp; omega)
      obtain ⟨c0, c1, c2, c3⟩ := box4 hz
      have f0 := hz.frozen 0
      have f1 := hz.frozen 1
      have f2 := hz.frozen 2
      have f3 := hz.frozen 3
      have hrb : g < w.heap.size := hg
      clear hGa hGb hG2 hG3 hG5
      go_wp2
      refine bodyPost_ret (v := .agg #[.int .i64 (k1 - 12), .int .i64 (-40), .int .i64 (min 40 ((k1 - 12) + (ka + 1))), .int .i64 (min 40 ((-40) + (kb + 1)))]) (by simp [results, Try.results153, go_sem, *]) rfl ?_
      refine ⟨⟨(k1 - 12), (-40), min 40 ((k1 - 12) + (ka + 1)), min 40 ((-40) + (kb + 1))⟩, rfl, ?_, ?_, ?_⟩
      · rw [okRc_iff]
        dsimp only
        omega
      · exact (dice_four hDb hg (only_trans hA hGz) _ _ _ _).1
      · exact (dice_four hDb hg (only_trans hA hGz) _ _ _ _).2
    · go_wp2_with fail
      refine (next_any g 7 _ hD5 (by omega)).mono ?_
      rintro e wa ⟨ka, rfl, hka, hDa, hGa⟩
      have ea := Go.IntWalk.i64_in (ka + 1) (by omega)
      go_wp2_with fail
      refine (next_any g 7 _ hDa (by omega)).mono ?_
      rintro e wb ⟨kb, rfl, hkb, hDb, hGb⟩
      have eb := Go.IntWalk.i64_in (kb + 1) (by omega)
      have ex := Go.IntWalk.i64_in ((k1 - 12) + (ka + 1)) (by omega)
      have ey := Go.IntWalk.i64_in ((k2 - 12) + (kb + 1)) (by omega)
      have hGz := (only_trans (only_trans (only_trans (only_trans (only_trans hG1 hG2) hG3) hG5) hGa) hGb)
      have hz := z0.grown hGz (by simp; omega)
      obtain ⟨c0, c1, c2, c3⟩ := box4 hz
      have f0 := hz.frozen 0
      have f1 := hz.frozen 1
      have f2 := hz.frozen 2
      have f3 := hz.frozen 3
      have hrb : g < w.heap.size := hg
      clear hGa hGb hG2 hG3 hG5
      go_wp2
      refine bodyPost_ret (v := .agg #[.int .i64 (k1 - 12), .int .i64 (k2 - 12), .int .i64 (min 40 ((k1 - 12) + (ka + 1))), .int .i64 (min 40 ((k2 - 12) + (kb + 1)))]) (by simp [results, Try.results153, go_sem, *]) rfl ?_
      refine ⟨⟨(k1 - 12), (k2 - 12), min 40 ((k1 - 12) + (ka + 1)), min 40 ((k2 - 12) + (kb + 1))⟩, rfl, ?_, ?_, ?_⟩
      · rw [okRc_iff]
        dsimp only
        omega
      · exact (dice_four hDb hg (only_trans hA hGz) _ _ _ _).1
      · exact (dice_four hDb hg (only_trans hA hGz) _ _ _ _).2

end Go.Proofs.Ytooglkdloaaomaa
