/- Contracts: l09DrawIndex, l10DrawLibrary, l10DrawTop. Condition: a well-formed source. -/
import Derived.Test.YtgegbgkokkdmpaaGreatQ19

namespace Go.Proofs.YtgegbgkokkdmpaaGreat
open Go.RowKit

theorem idx3_get (n : Int) (k : Nat) (h : k < 3) : ∃ x : Int, (#[.int .i64 (-1), .int .i64 n, .int .i64 7] : Array Value)[k]? = some (.int .i64 x) := by
  have hk : k = 0 ∨ k = 1 ∨ k = 2 := by omega
  rcases hk with rfl | rfl | rfl <;> exact ⟨_, rfl⟩
/-- What is below the source's mark, while it draws. -/
structure DG (w W : World) (g : Nat) : Prop where
  dice : Dice W g
  gro : w.grownBy W (some g)
  hg : g < w.heap.size
theorem DG.refl {w : World} {g : Nat} (h : Dice w g) : DG w w g := ⟨h, only_refl _ _, h.lt⟩
theorem DG.on {w W W' : World} {g : Nat} (h : DG w W g) (hb : Below W.heap.size W W') : DG w W' g := ⟨h.dice.on hb, only_above h.gro (hb.mono h.gro.size), h.hg⟩
theorem DG.next {w W W' : World} {g : Nat} (h : DG w W g) (hD : Dice W' g) (hG : W.grownBy W' (some g)) : DG w W' g := ⟨hD, only_trans h.gro hG, h.hg⟩
theorem DG.put {w W : World} {g b : Nat} (h : DG w W g) (hb : w.heap.size ≤ b) (i : Nat) (x : Value) : DG w (W.setCell ⟨b, i, none⟩ x) g :=
  let k := dg_set ⟨h.dice, h.gro⟩ (Nat.lt_of_lt_of_le h.hg hb) hb i x
  ⟨k.1, k.2, h.hg⟩

set_option maxHeartbeats 1600000 in
set_option maxRecDepth 100000 in
/-- l09DrawIndex. -/
theorem drawIdx_any (g : Nat) (A : Option Addr) (n c : Nat) (hn : 1 ≤ n ∧ n ≤ 1000) (w : World) (hD : Dice w g) : Calls Tryz.prog 43 #[.pointer (some ⟨g, 0, none⟩), .agg #[.slice A n c]] w fun e w' => ∃ k : Int, e = .returned (.int .i64 k) ∧ Dice w' g ∧ w.grownBy w' (some g) := by
  have z0 := Bk.new w 26 #[.slice A n c]
  have D0 := (DG.refl hD).on (o_alloc w (.cells #[.slice A n c] 26))
  have hgi : some w.heap.size ≠ some g := by have := hD.lt; simp; omega
  clear hD
  go_enter Tryz.func43, Tryz.ntmps43
  go_wp2_with fail
  refine (next_any g 12 _ D0.dice (by omega)).mono ?_
  rintro e w1 ⟨k1, rfl, hk1, hD1, hG1⟩
  have D1 := D0.next hD1 hG1
  have z1 := z0.grown hG1 hgi
  have q1 := z1.cell 0
  simp at q1
  clear D0 z0 hD1 hG1
  by_cases h0 : k1 = 0
  · subst h0
    have DA := Lib.hid (D1.on (Below.refl _ _).drew)
    have DB := Lib.hid (D1.on (o_alloc w1 (.cells #[.int .i64 (-1), .int .i64 n, .int .i64 7] 2)).drew)
    have KB := Lib.hid ((Bk.new w1 2 #[.int .i64 (-1), .int .i64 n, .int .i64 7]).drew)
    have ZA := Lib.hid z1.drew
    have hg1 : g < w1.heap.size := D1.dice.lt
    have hgj : some w1.heap.size ≠ some g := by simp; omega
    have hzl := z1.lt
    clear D1 z1
    go_upto_region 2 with fail
    go_region_law (go_simp; go_at_call 24; first
      | ((with_reducible refine (next_any g 3 _ DB.out.dice (by omega)).mono ?_); rintro e w3 ⟨m0, rfl, hm0, hD3, hG3⟩; obtain ⟨m, rfl⟩ : ∃ m : Nat, m0 = m := ⟨m0.toNat, by omega⟩; have hm3 : m < 3 := (by omega); obtain ⟨x, hx⟩ := idx3_get n m hm3; have K3 := ((KB.out.grown hG3 hgj).cell m).trans hx; have k3l := (KB.out.grown hG3 hgj).lt; have X3 := Lib.hid (DB.out.next hD3 hG3); clear hx hD3 hG3; (try dsimp only))
      | ((with_reducible refine (next_any g 3 _ DA.out.dice (by omega)).mono ?_); rintro e w3 ⟨m0, rfl, hm0, hD3, hG3⟩; obtain ⟨m, rfl⟩ : ∃ m : Nat, m0 = m := ⟨m0.toNat, by omega⟩; have hm3 : m < 3 := (by omega); obtain ⟨x, hx⟩ := idx3_get n m hm3; have q3 := (ZA.out.grown hG3 hgi).cell 0; simp at q3; have q3l := (ZA.out.grown hG3 hgi).lt; have K3 := ((Bk.new w3 2 #[.int .i64 (-1), .int .i64 n, .int .i64 7]).cell m).trans hx; have X3 := Lib.hid ((DA.out.next hD3 hG3).on (o_alloc w3 (.cells #[.int .i64 (-1), .int .i64 n, .int .i64 7] 2))); clear hx hD3 hG3; (try dsimp only)))
    all_goals
      go_wp2
      go_ret
      exact ⟨x, rfl, X3.out.dice, X3.out.gro⟩
  · have hb0 : (k1 == 0) = false := by simpa using h0
    go_wp2_with (go_at_call 24; (with_reducible refine (next_ge1 g (n : Int) _ D1.dice (by omega)).mono ?_); rintro e w3 ⟨m0, rfl, hm0, hD3, hG3⟩)
    go_ret
    exact ⟨m0, rfl, (D1.next hD3 hG3).dice, (D1.next hD3 hG3).gro⟩

set_option maxHeartbeats 1600000 in
set_option maxRecDepth 100000 in
/-- l10DrawLibrary. -/
theorem drawLib10_any (g : Nat) (w : World) (hD : Dice w g) : Calls Tryz.prog 44 #[.pointer (some ⟨g, 0, none⟩)] w fun e w' => ∃ (cv : Value) (ps : List (CellD × Sl3)), e = .returned (.agg #[cv]) ∧ (1 ≤ ps.length ∧ ps.length ≤ 4) ∧ (∀ p ∈ ps, Sm p.1) ∧ CW w' w.heap.size cv ps ∧ Dice w' g ∧ w.grownBy w' (some g) := by
  have D0 := (DG.refl hD).on (o_alloc w (.cells #[.slice none 0 0] 26))
  have z0 := Bk.new w 26 #[.slice none 0 0]
  have hgi : some w.heap.size ≠ some g := by have := hD.lt; simp; omega
  have hs0 : (w.alloc (.cells #[.slice none 0 0] 26)).heap.size = w.heap.size + 1 := by simp
  clear hD
  go_enter Tryz.func44, Tryz.ntmps44
  go_wp2_with fail
  refine (drawLib_any g _ D0.dice).mono ?_
  rintro e w1 ⟨cv, ps, rfl, hn, hV, hC, -, hD1, hG1⟩
  have D1 := D0.next hD1 hG1
  have z1 := z0.grown hG1 hgi
  rw [hs0] at hC
  obtain ⟨A, c, rfl, -, -⟩ := hC.form
  have f1 := z1.frozen 0
  have q1 := z1.cell 0
  simp at q1
  have HS := Lib.hid (show ∀ p ∈ ps, Sm p.1 from fun p hp => by
    obtain ⟨k, hk⟩ := List.getElem?_of_mem hp
    obtain ⟨h1, h2⟩ := hV k p hk
    exact h1.sm h2)
  have D2 := Lib.hid (D1.put (b := w.heap.size) (Nat.le_refl _) 0 (.slice A ps.length c))
  have C2 := Lib.hid (hC.far (p := ⟨w.heap.size, 0, none⟩) (Nat.lt_succ_self _) (.slice A ps.length c))
  clear D0 z0 hD1 hG1 hV hC D1
  go_wp2
  refine bodyPost_ret (v := .agg #[.slice A ps.length c]) (by simp [results, Tryz.results44, go_sem, *]) rfl ?_
  exact ⟨_, ps, rfl, hn, HS.out, C2.out.less (Nat.le_succ _), D2.out.dice, D2.out.gro⟩

/-- A library drawn, in the box lb. -/
structure TL (w W : World) (g lb : Nat) (v : Value) (ps : List (CellD × Sl3)) : Prop where
  dg : DG w W g
  lib : Bk W lb 26 #[v]
  cw : CW W (w.heap.size + 1) v ps
  h1 : w.heap.size < lb
section
variable {w W W' : World} {g lb : Nat} {v : Value} {ps : List (CellD × Sl3)}
theorem TL.on (h : TL w W g lb v ps) (hb : Below W.heap.size W W') : TL w W' g lb v ps := ⟨h.dg.on hb, h.lib.on hb, h.cw.on hb, h.h1⟩
theorem TL.next (h : TL w W g lb v ps) (hD : Dice W' g) (hG : W.grownBy W' (some g)) : TL w W' g lb v ps :=
  ⟨h.dg.next hD hG, h.lib.grown hG (by have := h.dg.hg; have := h.h1; simp; omega), h.cw.keptG hG (by have := h.dg.hg; omega), h.h1⟩
theorem TL.put (h : TL w W g lb v ps) (i : Nat) (x : Value) : TL w (W.setCell ⟨w.heap.size, i, none⟩ x) g lb v ps :=
  ⟨h.dg.put (Nat.le_refl _) i x, h.lib.other (p := ⟨w.heap.size, i, none⟩) (by have := h.h1; simp; omega) x, h.cw.far (p := ⟨w.heap.size, i, none⟩) (Nat.lt_succ_self _) x, h.h1⟩
end
theorem TL.of {w W : World} {g : Nat} {v : Value} {ps : List (CellD × Sl3)} (h : DG w W g) (hC : CW W (w.heap.size + 1) v ps) (hs : w.heap.size < W.heap.size) : TL w (W.alloc (.cells #[v] 26)) g W.heap.size v ps := ⟨h.on (o_alloc _ _), Bk.new W _ _, hC.alloc _, hs⟩
/-- What the draws of a library with a cell answer. -/
def DTop (w : World) (g : Nat) (e : Ending) (w' : World) : Prop := ∃ (cv : Value) (ps : List (CellD × Sl3)) (k : Int), e = .returned (.tuple #[.agg #[cv], .int .i64 k]) ∧ (1 ≤ ps.length ∧ ps.length ≤ 4) ∧ (∀ p ∈ ps, Sm p.1) ∧ CW w' w.heap.size cv ps ∧ Dice w' g ∧ w.grownBy w' (some g)

set_option maxHeartbeats 1600000 in
set_option maxRecDepth 100000 in
/-- l10DrawTop. -/
theorem drawTop10_any (g : Nat) (w : World) (hD : Dice w g) : Calls Tryz.prog 26 #[.pointer (some ⟨g, 0, none⟩)] w (DTop w g) := by
  have D0 := (DG.refl hD).on (o_alloc w (.cells #[.slice none 0 0] 26))
  have z0 := Bk.new w 26 #[.slice none 0 0]
  have hgi : some w.heap.size ≠ some g := by have := hD.lt; simp; omega
  have hs0 : (w.alloc (.cells #[.slice none 0 0] 26)).heap.size = w.heap.size + 1 := by simp
  clear hD
  go_enter Tryz.func26, Tryz.ntmps26
  go_wp2_with fail
  refine (next_any g 16 _ D0.dice (by omega)).mono ?_
  rintro e w1 ⟨k1, rfl, hk1, hD1, hG1⟩
  have hs1 := hG1.size
  rw [hs0] at hs1
  have D1 := D0.next hD1 hG1
  have z1 := z0.grown hG1 hgi
  clear D0 z0 hD1 hG1
  by_cases h0 : k1 = 0
  · subst h0
    go_upto_region 3 with (go_at_call 42; (with_reducible refine (drawAny_any g _ D1.dice).mono ?_); rintro e w2 ⟨cv, ps, rfl, hn, hS, hC, hD2, hG2⟩; obtain ⟨A, c, rfl, -, -⟩ := hC.form)
    have hlt9 : w.heap.size < w2.heap.size := Nat.lt_of_lt_of_le hs1 hG2.size
    have T := TL.of (D1.next hD2 hG2) (hC.less hs1) hlt9
    have ZR := (z1.grown hG2 hgi).alloc (.cells #[.slice A ps.length c] 26)
    have HS := Lib.hid hS
    clear D1 z1 hC hD2 hG2 hS
    obtain ⟨W4, hW4⟩ : ∃ W, W = w2.alloc (.cells #[.slice A ps.length c] 26) := ⟨_, rfl⟩
    obtain ⟨lb, hlb⟩ : ∃ b, b = w2.heap.size := ⟨_, rfl⟩
    rw [← hW4, ← hlb] at T
    rw [← hW4] at ZR
    rw [← hlb] at hlt9
    rw [← hW4, ← hlb]
    clear hW4 hlb
    have l0 := T.lib.cell 0
    have ll := T.lib.lt
    have fr := ZR.frozen 0
    have r0 := ZR.cell 0
    simp at l0 r0
    have hne : w.heap.size ≠ lb := Nat.ne_of_lt hlt9
    have TA := Lib.hid (T.on (Below.refl _ _).drew)
    have TB := Lib.hid ((T.put 0 (.slice A ps.length c)).on (Below.refl _ _).drew)
    have ZA := Lib.hid ZR.drew
    have ZB := Lib.hid (ZR.store 0 (.slice A ps.length c)).drew
    clear T ZR
    go_region_law (go_simp; go_at_call 43; first
      | ((with_reducible refine (drawIdx_any g A ps.length c (by omega) _ TA.out.dg.dice).mono ?_); rintro e W5 ⟨k, rfl, hD5, hG5⟩; have Z5 := ZA.out.grown hG5 hgi; have r5 := Z5.cell 0; have f5 := Z5.frozen 0; simp at r5; have l5 := (TA.out.next hD5 hG5).lib.cell 0; have l6 := (TA.out.next hD5 hG5).lib.lt; simp at l5; have XF := Lib.hid ((TA.out.next hD5 hG5).put 0 (.slice A ps.length c)); clear Z5 hD5 hG5; (try dsimp only))
      | ((with_reducible refine (drawIdx_any g A ps.length c (by omega) _ TB.out.dg.dice).mono ?_); rintro e W5 ⟨k, rfl, hD5, hG5⟩; have r5 := (ZB.out.grown hG5 hgi).cell 0; simp at r5; have XF := Lib.hid (TB.out.next hD5 hG5); clear hD5 hG5; (try dsimp only)))
    all_goals
      go_wp2
      refine bodyPost_ret (v := .tuple #[.agg #[.slice A ps.length c], .int .i64 k]) (by simp [results, Tryz.results26, go_sem, *]) rfl ?_
      exact ⟨_, ps, k, rfl, hn, HS.out, XF.out.cw.less (Nat.le_succ _), XF.out.dg.dice, XF.out.dg.gro⟩
  · have hb0 : (k1 == 0) = false := by simpa using h0
    go_upto_region 5 with (go_at_call 44; (with_reducible refine (drawLib10_any g _ D1.dice).mono ?_); rintro e w2 ⟨cv, ps, rfl, hn, hS, hC, hD2, hG2⟩; obtain ⟨A, c, rfl, -, -⟩ := hC.form)
    have hlt9 : w.heap.size < w2.heap.size := Nat.lt_of_lt_of_le hs1 hG2.size
    have T := TL.of (D1.next hD2 hG2) (hC.less hs1) hlt9
    have ZR := (z1.grown hG2 hgi).alloc (.cells #[.slice A ps.length c] 26)
    have HS := Lib.hid hS
    clear D1 z1 hC hD2 hG2 hS
    obtain ⟨lb, hlb⟩ : ∃ b, b = w2.heap.size := ⟨_, rfl⟩
    rw [← hlb] at hlt9 T
    rw [← hlb]
    clear hlb
    go_upto_if 19 with (go_at_call 24; (with_reducible refine (next_any g 6 _ T.dg.dice (by omega)).mono ?_); rintro e w3 ⟨k2, rfl, hk2, hD3, hG3⟩)
    have T3 := T.next hD3 hG3
    have Z3 := ZR.grown hG3 hgi
    clear T ZR hD3 hG3
    have l0 := T3.lib.cell 0
    have ll := T3.lib.lt
    have fr := Z3.frozen 0
    have r0 := Z3.cell 0
    simp at l0 r0
    have hne : w.heap.size ≠ lb := Nat.ne_of_lt hlt9
    by_cases h6 : k2 = 0
    · subst h6
      have TA := Lib.hid (T3.on (Below.refl _ _).drew)
      have TB := Lib.hid ((T3.put 0 (.slice A ps.length c)).on (Below.refl _ _).drew)
      have ZA := Lib.hid Z3.drew
      have ZB := Lib.hid (Z3.store 0 (.slice A ps.length c)).drew
      clear T3 Z3
      go_upto_region 6 with fail
      go_region_law (go_simp; go_at_call 43; first
        | ((with_reducible refine (drawIdx_any g A ps.length c (by omega) _ TA.out.dg.dice).mono ?_); rintro e W5 ⟨k, rfl, hD5, hG5⟩; have Z5 := ZA.out.grown hG5 hgi; have r5 := Z5.cell 0; have f5 := Z5.frozen 0; simp at r5; have l5 := (TA.out.next hD5 hG5).lib.cell 0; have l6 := (TA.out.next hD5 hG5).lib.lt; simp at l5; have XF := Lib.hid ((TA.out.next hD5 hG5).put 0 (.slice A ps.length c)); clear Z5 hD5 hG5; (try dsimp only))
        | ((with_reducible refine (drawIdx_any g A ps.length c (by omega) _ TB.out.dg.dice).mono ?_); rintro e W5 ⟨k, rfl, hD5, hG5⟩; have r5 := (ZB.out.grown hG5 hgi).cell 0; simp at r5; have XF := Lib.hid (TB.out.next hD5 hG5); clear hD5 hG5; (try dsimp only)))
      all_goals
        go_wp2
        refine bodyPost_ret (v := .tuple #[.agg #[.slice A ps.length c], .int .i64 k]) (by simp [results, Tryz.results26, go_sem, *]) rfl ?_
        exact ⟨_, ps, k, rfl, hn, HS.out, XF.out.cw.less (Nat.le_succ _), XF.out.dg.dice, XF.out.dg.gro⟩
    · have hb6 : (k2 == 0) = false := by simpa using h6
      have i1 := Go.IntWalk.i64_in ((ps.length : Int) - 1) (by omega)
      have XF := Lib.hid ((T3.on (Below.refl _ _).drew).put 0 (.slice A ps.length c))
      clear T3 Z3
      go_upto_region 7 with fail
      go_region
      all_goals
        go_wp2
        refine bodyPost_ret (v := .tuple #[.agg #[.slice A ps.length c], .int .i64 ((ps.length : Int) - 1)]) (by simp [results, Tryz.results26, go_sem, *]) rfl ?_
        exact ⟨_, ps, _, rfl, hn, HS.out, XF.out.cw.less (Nat.le_succ _), XF.out.dg.dice, XF.out.dg.gro⟩

end Go.Proofs.YtgegbgkokkdmpaaGreat
