/- Contract: l01Next, of one or more. Condition: a well-formed source. Contracts: the program's runThrough on a set. Condition: the cell lies on the chip. Contract: the program's RegionContains. No conditions. Contracts: RunThrough of the reference and of the program. No conditions. Contracts: GapThrough of the reference and of the program. No conditions. Contracts: what the law FnMarkersMove draws: l01DrawTransform, l02Spoil, l03Spoil, DrawMoveRegion. Condition: a code of at most 4096 bytes. The laws' own helpers on rectangles: two equal lists are found equal; a list that is marked reads back as marked. -/
import Derived.Test.YtjiljodchebniaaGreatQ07
import Derived.Test.YtjiljodchebniaaGreatQ03
import Derived.Test.YtjiljodchebniaaGreatQ01
import Derived.Test.YtjiljodchebniaaGreatQ05
import Derived.Deep.RegionHeld3
import Derived.Test.YtjiljodchebniaaGreatQ06
import Derived.Test.YtjiljodchebniaaGreatQ02

namespace Go.Proofs.YtjiljodchebniaaGreat
open Go.RowKit

set_option maxHeartbeats 400000 in
/-- l01Next of one. -/
theorem next_one (g : Nat) (w : World) : Calls Tryz.prog 17 #[.pointer (some ⟨g, 0, none⟩), .int .i64 1] w fun e w' => e = .returned (.int .i64 0) ∧ w = w' := by
  go_enter Tryz.func17, Tryz.ntmps17
  go_wp2
  go_ret
  exact ⟨rfl, rfl⟩
theorem next_ge1 (g : Nat) (n : Int) (w : World) (hD : Dice w g) (hn : 1 ≤ n ∧ n ≤ 1000000) : Calls Tryz.prog 17 #[.pointer (some ⟨g, 0, none⟩), .int .i64 n] w fun e w' => ∃ k : Int, e = .returned (.int .i64 k) ∧ (0 ≤ k ∧ k < n) ∧ Dice w' g ∧ w.grownBy w' (some g) := by
  by_cases h : n = 1
  · subst h
    refine (next_one g w).mono ?_
    rintro e w' ⟨rfl, rfl⟩
    exact ⟨0, rfl, by omega, hD, only_refl _ _⟩
  · exact next_any g n w hD (by omega)

end Go.Proofs.YtjiljodchebniaaGreat

namespace Go.Proofs.YtjiljodchebniaaGreat
open Go.RowKit

/-- The number in a cell. -/
def cellI (w : World) (g i : Nat) : Int := match w.cell? ⟨g, i, none⟩ with | some v => intOf v | none => 0
theorem cellI_of {w : World} {g i : Nat} {n : Int} (h : w.cell? ⟨g, i, none⟩ = some (.int .i64 n)) : cellI w g i = n := by unfold cellI; rw [h]; rfl
theorem set2 {w : World} {b : Nat} {t : TypeId} {a0 a1 : Value} (h : Bk w b t #[a0, a1]) (x0 x1 : Value) : Bk ((w.setCell ⟨b, 0, none⟩ x0).setCell ⟨b, 1, none⟩ x1) b t #[x0, x1] := (h.store 0 x0).store 1 x1
theorem other2 {w : World} {g b : Nat} {t : TypeId} {cs : Array Value} (h : Bk w g t cs) (hne : g ≠ b) (x0 x1 : Value) : Bk ((w.setCell ⟨b, 0, none⟩ x0).setCell ⟨b, 1, none⟩ x1) g t cs := (h.other (p := ⟨b, 0, none⟩) hne x0).other (p := ⟨b, 1, none⟩) hne x1
theorem below2 {B b : Nat} {a w : World} (h : Below B a w) (hb : B ≤ b) (x0 x1 : Value) : Below B a ((w.setCell ⟨b, 0, none⟩ x0).setCell ⟨b, 1, none⟩ x1) := (h.setCell hb x0).setCell hb x1
theorem below4 {B b : Nat} {a w : World} (h : Below B a w) (hb : B ≤ b) (x0 x1 x2 x3 : Value) : Below B a ((((w.setCell ⟨b, 0, none⟩ x0).setCell ⟨b, 1, none⟩ x1).setCell ⟨b, 2, none⟩ x2).setCell ⟨b, 3, none⟩ x3) := (((h.setCell hb x0).setCell hb x1).setCell hb x2).setCell hb x3
theorem set4of {w : World} {b : Nat} {t : TypeId} {a0 a1 a2 a3 : Value} (h : Bk w b t #[a0, a1, a2, a3]) (x0 x1 x2 x3 : Value) :
    (w.setCell ⟨b, 0, none⟩ x0).cell? ⟨b, 0, none⟩ = some x0 ∧ ((w.setCell ⟨b, 0, none⟩ x0).setCell ⟨b, 1, none⟩ x1).cell? ⟨b, 1, none⟩ = some x1 ∧
    (((w.setCell ⟨b, 0, none⟩ x0).setCell ⟨b, 1, none⟩ x1).setCell ⟨b, 2, none⟩ x2).cell? ⟨b, 2, none⟩ = some x2 ∧
    ((((w.setCell ⟨b, 0, none⟩ x0).setCell ⟨b, 1, none⟩ x1).setCell ⟨b, 2, none⟩ x2).setCell ⟨b, 3, none⟩ x3).cell? ⟨b, 3, none⟩ = some x3 :=
  ⟨(h.store 0 x0).cell 0, ((h.store 0 x0).store 1 x1).cell 1, (((h.store 0 x0).store 1 x1).store 2 x2).cell 2, ((((h.store 0 x0).store 1 x1).store 2 x2).store 3 x3).cell 3⟩

end Go.Proofs.YtjiljodchebniaaGreat

namespace Go.Proofs.YtjiljodchebniaaGreat
open Go.RowKit

/-- A valid rectangle has the cell (x, y). -/
def containsR (x y : Int) (r : Rc) : Bool := okRc r && decide (r.x0 ≤ x ∧ x < r.x1 ∧ r.y0 ≤ y ∧ y < r.y1)
theorem contains_no {x y : Int} {r : Rc} (h : okRc r = false) : containsR x y r = false := by unfold containsR; rw [h]; rfl
theorem contains_yes {x y : Int} {r : Rc} (h : okRc r = true) : containsR x y r = decide (r.x0 ≤ x ∧ x < r.x1 ∧ r.y0 ≤ y ∧ y < r.y1) := by unfold containsR; rw [h]; rfl
theorem inR_ix {r : Rc} {x y : Int} (hc : onC x y = true) : inR r (ix x y).toNat = decide (r.x0 ≤ x ∧ x < r.x1 ∧ r.y0 ≤ y ∧ y < r.y1) := by
  have h := (onC_iff x y).1 hc
  obtain ⟨e, _⟩ := ix_nat hc
  rw [Bool.eq_iff_iff, inR_iff, decide_eq_true_iff, e]
  have e1 : ((y + 40).toNat * 80 + (x + 40).toNat) / 80 = (y + 40).toNat ∧ ((y + 40).toNat * 80 + (x + 40).toNat) % 80 = (x + 40).toNat := by omega
  rw [e1.1, e1.2]
  omega
theorem any_contains {rs : List Rc} (hok : okAll rs = true) (x y : Int) : rs.any (containsR x y) = hasG (cellsG rs) x y := by
  rw [okAll, List.all_eq_true] at hok
  by_cases hc : onC x y = true
  · rw [hasG_on hc, Bool.eq_iff_iff]
    unfold cellsG
    rw [List.any_eq_true, List.any_eq_true]
    constructor
    · rintro ⟨r, hr, h⟩
      rw [contains_yes (hok r hr), ← inR_ix hc] at h
      exact ⟨r, hr, h⟩
    · rintro ⟨r, hr, h⟩
      refine ⟨r, hr, ?_⟩
      rw [contains_yes (hok r hr), ← inR_ix hc]
      exact h
  · have hc' : onC x y = false := by simpa using hc
    rw [hasG_off hc', Bool.eq_false_iff]
    intro h
    rw [List.any_eq_true] at h
    obtain ⟨r, hr, h⟩ := h
    rw [contains_yes (hok r hr), decide_eq_true_iff] at h
    have h2 := (okRc_iff r).1 (hok r hr)
    exact hc ((onC_iff x y).2 (by omega))

theorem any_first {α : Type} {p : α → Bool} {l : List α} {k : Nat} {a : α} (h : l[k]? = some a) (hp : p a = true) : (l.drop k).any p = true := by
  rw [List.any_eq_true]
  obtain ⟨hk, he⟩ := List.getElem?_eq_some_iff.1 h
  exact ⟨a, by rw [List.drop_eq_getElem_cons hk, he]; simp, hp⟩
theorem any_next {α : Type} {p : α → Bool} {l : List α} {k : Nat} {a : α} (h : l[k]? = some a) (hp : p a = false) : (l.drop k).any p = (l.drop (k + 1)).any p := by
  obtain ⟨hk, he⟩ := List.getElem?_eq_some_iff.1 h
  rw [List.drop_eq_getElem_cons hk, he, List.any_cons, hp, Bool.false_or]
theorem any_last {α : Type} {p : α → Bool} {l : List α} {k : Nat} (h : l.length ≤ k) : (l.drop k).any p = false := by rw [List.drop_eq_nil_of_le h]; rfl

end Go.Proofs.YtjiljodchebniaaGreat

namespace Go.Proofs.YtjiljodchebniaaGreat
open Go.RowKit

/-- The run through a cell. -/
def rtV (rs : List Rc) (x y : Int) (vert : Bool) : Option Rc := if isReg rs = true ∧ hasG (cellsG rs) x y = true then some (runR (cellsG rs) x y vert) else none
theorem rtV_yes {rs : List Rc} {x y : Int} {vert : Bool} (h : isReg rs = true) (hc : hasG (cellsG rs) x y = true) : rtV rs x y vert = some (runR (cellsG rs) x y vert) := if_pos ⟨h, hc⟩
theorem rtV_no1 {rs : List Rc} {x y : Int} {vert : Bool} (h : isReg rs = false) : rtV rs x y vert = none := if_neg (by rw [h]; simp)
theorem rtV_no2 {rs : List Rc} {x y : Int} {vert : Bool} (h : hasG (cellsG rs) x y = false) : rtV rs x y vert = none := if_neg (by rw [h]; simp)

end Go.Proofs.YtjiljodchebniaaGreat

namespace Go.Proofs.YtjiljodchebniaaGreat
open Go.RowKit

/-- The gap through a cell. -/
def gtV (rs : List Rc) (x y : Int) (vert : Bool) : Option Rc := if isReg rs = true ∧ hasG (notG (cellsG rs)) x y = true then some (runR (notG (cellsG rs)) x y vert) else none
theorem gtV_yes {rs : List Rc} {x y : Int} {vert : Bool} (h : isReg rs = true) (hc : hasG (notG (cellsG rs)) x y = true) : gtV rs x y vert = some (runR (notG (cellsG rs)) x y vert) := if_pos ⟨h, hc⟩
theorem gtV_no1 {rs : List Rc} {x y : Int} {vert : Bool} (h : isReg rs = false) : gtV rs x y vert = none := if_neg (by rw [h]; simp)
theorem gtV_no2 {rs : List Rc} {x y : Int} {vert : Bool} (h : hasG (notG (cellsG rs)) x y = false) : gtV rs x y vert = none := if_neg (by rw [h]; simp)

end Go.Proofs.YtjiljodchebniaaGreat

namespace Go.Proofs.YtjiljodchebniaaGreat
open Go.RowKit

theorem only_set3 {w wb : World} {g b : Nat} (hD : Dice wb g) (hg : g < b) (hwb : w.heap.size ≤ b) (hG : w.grownBy wb (some g)) (x0 x1 x2 : Value) :
    Dice (((wb.setCell ⟨b, 0, none⟩ x0).setCell ⟨b, 1, none⟩ x1).setCell ⟨b, 2, none⟩ x2) g ∧ w.grownBy (((wb.setCell ⟨b, 0, none⟩ x0).setCell ⟨b, 1, none⟩ x1).setCell ⟨b, 2, none⟩ x2) (some g) :=
  ⟨((hD.other (p := ⟨b, 0, none⟩) hg x0).other (p := ⟨b, 1, none⟩) hg x1).other (p := ⟨b, 2, none⟩) hg x2, only_above hG ((((Below.refl w.heap.size wb).setCell (p := ⟨b, 0, none⟩) hwb x0).setCell (p := ⟨b, 1, none⟩) hwb x1).setCell (p := ⟨b, 2, none⟩) hwb x2)⟩

theorem only_set4 {w wb : World} {g b : Nat} (hD : Dice wb g) (hg : g < b) (hwb : w.heap.size ≤ b) (hG : w.grownBy wb (some g)) (x0 x1 x2 x3 : Value) :
    Dice ((((wb.setCell ⟨b, 0, none⟩ x0).setCell ⟨b, 1, none⟩ x1).setCell ⟨b, 2, none⟩ x2).setCell ⟨b, 3, none⟩ x3) g ∧ w.grownBy ((((wb.setCell ⟨b, 0, none⟩ x0).setCell ⟨b, 1, none⟩ x1).setCell ⟨b, 2, none⟩ x2).setCell ⟨b, 3, none⟩ x3) (some g) :=
  ⟨(((hD.other (p := ⟨b, 0, none⟩) hg x0).other (p := ⟨b, 1, none⟩) hg x1).other (p := ⟨b, 2, none⟩) hg x2).other (p := ⟨b, 3, none⟩) hg x3, only_above hG (below4 (Below.refl w.heap.size wb) hwb x0 x1 x2 x3)⟩

set_option maxHeartbeats 1600000 in
set_option maxRecDepth 100000 in
/-- l02Spoil. -/
theorem spoilR_any (g : Nat) (r : Rc) (w : World) (hD : Dice w g) : Calls Tryz.prog 36 #[.pointer (some ⟨g, 0, none⟩), r.val, .int .i64 1] w fun e w' => ∃ a b p q : Int, e = .returned (.agg #[.int .i64 a, .int .i64 b, .int .i64 p, .int .i64 q]) ∧ Dice w' g ∧ w.grownBy w' (some g) := by
  obtain ⟨x0, y0, x1, y1⟩ := r
  unfold Rc.val
  dsimp only
  have hg := hD.lt
  have z0 := (Bk.new w 75 #[.int .i64 x0, .int .i64 y0, .int .i64 x1, .int .i64 y1]).alloc (.cells #[.int .i64 0, .int .i64 0, .int .i64 0, .int .i64 0] 75)
  have z1 := Bk.new (w.alloc (.cells #[.int .i64 x0, .int .i64 y0, .int .i64 x1, .int .i64 y1] 75)) 75 #[.int .i64 0, .int .i64 0, .int .i64 0, .int .i64 0]
  have e1 : (w.alloc (.cells #[.int .i64 x0, .int .i64 y0, .int .i64 x1, .int .i64 y1] 75)).heap.size = w.heap.size + 1 := by simp
  rw [e1] at z1
  have hD0 := (hD.alloc (.cells #[.int .i64 x0, .int .i64 y0, .int .i64 x1, .int .i64 y1] 75)).alloc (.cells #[.int .i64 0, .int .i64 0, .int .i64 0, .int .i64 0] 75)
  have hA0 := only_alloc (only_alloc (only_refl w (some g)) (.cells #[.int .i64 x0, .int .i64 y0, .int .i64 x1, .int .i64 y1] 75)) (.cells #[.int .i64 0, .int .i64 0, .int .i64 0, .int .i64 0] 75)
  clear hD e1
  go_enter Tryz.func36, Tryz.ntmps36
  go_wp2_with fail
  refine (next_one g _).mono ?_
  rintro e w1 ⟨rfl, rfl⟩
  go_wp2_with fail
  refine (next_any g 4 _ hD0 (by omega)).mono ?_
  rintro e w2 ⟨k, rfl, hk, hD2, hG2⟩
  have z02 := z0.grown hG2 (by simp; omega)
  have z12 := z1.grown hG2 (by simp; omega)
  have hA2 := only_trans hA0 hG2
  clear z0 z1 hD0 hA0 hG2
  by_cases h0 : k = 0
  · subst h0
    have z3 : Bk (w2.setCell ⟨w.heap.size, 2, none⟩ (.int .i64 x0)) w.heap.size 75 #[.int .i64 x0, .int .i64 y0, .int .i64 x0, .int .i64 y1] := z02.store 2 _
    have z4 := z12.other (p := ⟨w.heap.size, 2, none⟩) (show w.heap.size + 1 ≠ w.heap.size by omega) (.int .i64 x0)
    have hD3 := hD2.other (p := ⟨w.heap.size, 2, none⟩) hg (.int .i64 x0)
    have hA3 := only_above hA2 ((Below.refl w.heap.size w2).setCell (p := ⟨w.heap.size, 2, none⟩) (Nat.le_refl _) (.int .i64 x0))
    obtain ⟨c0, c1, c2, c3⟩ := box4 z02
    have g0 := z02.frozen 2
    obtain ⟨p0, p1, p2, p3⟩ := box4 z3
    obtain ⟨d0, d1, d2, d3⟩ := box4 z4
    have q0 := z4.frozen 0
    have q1 := z4.frozen 1
    have q2 := z4.frozen 2
    have q3 := z4.frozen 3
    have hfin := only_set4 hD3 (show g < w.heap.size + 1 by omega) (show w.heap.size ≤ w.heap.size + 1 by omega) hA3 (.int .i64 x0) (.int .i64 y0) (.int .i64 x0) (.int .i64 y1)
    clear z02 z12 z3 z4 hD2 hA2 hD3 hA3
    go_wp2
    refine bodyPost_ret (v := .agg #[.int .i64 x0, .int .i64 y0, .int .i64 x0, .int .i64 y1]) (by simp [results, Tryz.results36, go_sem, *]) rfl ?_
    exact ⟨_, _, _, _, rfl, hfin.1, hfin.2⟩
  · have b0 : (k == 0) = false := by simpa using h0
    by_cases h1 : k = 1
    · subst h1
      have z3 : Bk (w2.setCell ⟨w.heap.size, 3, none⟩ (.int .i64 (wrap64 (y0 - 1)))) w.heap.size 75 #[.int .i64 x0, .int .i64 y0, .int .i64 x1, .int .i64 (wrap64 (y0 - 1))] := z02.store 3 _
      have z4 := z12.other (p := ⟨w.heap.size, 3, none⟩) (show w.heap.size + 1 ≠ w.heap.size by omega) (.int .i64 (wrap64 (y0 - 1)))
      have hD3 := hD2.other (p := ⟨w.heap.size, 3, none⟩) hg (.int .i64 (wrap64 (y0 - 1)))
      have hA3 := only_above hA2 ((Below.refl w.heap.size w2).setCell (p := ⟨w.heap.size, 3, none⟩) (Nat.le_refl _) (.int .i64 (wrap64 (y0 - 1))))
      obtain ⟨c0, c1, c2, c3⟩ := box4 z02
      have g0 := z02.frozen 3
      obtain ⟨p0, p1, p2, p3⟩ := box4 z3
      obtain ⟨d0, d1, d2, d3⟩ := box4 z4
      have q0 := z4.frozen 0
      have q1 := z4.frozen 1
      have q2 := z4.frozen 2
      have q3 := z4.frozen 3
      have hfin := only_set4 hD3 (show g < w.heap.size + 1 by omega) (show w.heap.size ≤ w.heap.size + 1 by omega) hA3 (.int .i64 x0) (.int .i64 y0) (.int .i64 x1) (.int .i64 (wrap64 (y0 - 1)))
      clear z02 z12 z3 z4 hD2 hA2 hD3 hA3
      go_wp2
      refine bodyPost_ret (v := .agg #[.int .i64 x0, .int .i64 y0, .int .i64 x1, .int .i64 (wrap64 (y0 - 1))]) (by simp [results, Tryz.results36, go_sem, *]) rfl ?_
      exact ⟨_, _, _, _, rfl, hfin.1, hfin.2⟩
    · have b1 : (k == 1) = false := by simpa using h1
      by_cases h2 : k = 2
      · subst h2
        have z3 : Bk (w2.setCell ⟨w.heap.size, 0, none⟩ (.int .i64 (-41))) w.heap.size 75 #[.int .i64 (-41), .int .i64 y0, .int .i64 x1, .int .i64 y1] := z02.store 0 _
        have z4 := z12.other (p := ⟨w.heap.size, 0, none⟩) (show w.heap.size + 1 ≠ w.heap.size by omega) (.int .i64 (-41))
        have hD3 := hD2.other (p := ⟨w.heap.size, 0, none⟩) hg (.int .i64 (-41))
        have hA3 := only_above hA2 ((Below.refl w.heap.size w2).setCell (p := ⟨w.heap.size, 0, none⟩) (Nat.le_refl _) (.int .i64 (-41)))
        obtain ⟨c0, c1, c2, c3⟩ := box4 z02
        have g0 := z02.frozen 0
        obtain ⟨p0, p1, p2, p3⟩ := box4 z3
        obtain ⟨d0, d1, d2, d3⟩ := box4 z4
        have q0 := z4.frozen 0
        have q1 := z4.frozen 1
        have q2 := z4.frozen 2
        have q3 := z4.frozen 3
        have hfin := only_set4 hD3 (show g < w.heap.size + 1 by omega) (show w.heap.size ≤ w.heap.size + 1 by omega) hA3 (.int .i64 (-41)) (.int .i64 y0) (.int .i64 x1) (.int .i64 y1)
        clear z02 z12 z3 z4 hD2 hA2 hD3 hA3
        go_wp2
        refine bodyPost_ret (v := .agg #[.int .i64 (-41), .int .i64 y0, .int .i64 x1, .int .i64 y1]) (by simp [results, Tryz.results36, go_sem, *]) rfl ?_
        exact ⟨_, _, _, _, rfl, hfin.1, hfin.2⟩
      · have b2 : (k == 2) = false := by simpa using h2
        have z3 : Bk (w2.setCell ⟨w.heap.size, 3, none⟩ (.int .i64 41)) w.heap.size 75 #[.int .i64 x0, .int .i64 y0, .int .i64 x1, .int .i64 41] := z02.store 3 _
        have z4 := z12.other (p := ⟨w.heap.size, 3, none⟩) (show w.heap.size + 1 ≠ w.heap.size by omega) (.int .i64 41)
        have hD3 := hD2.other (p := ⟨w.heap.size, 3, none⟩) hg (.int .i64 41)
        have hA3 := only_above hA2 ((Below.refl w.heap.size w2).setCell (p := ⟨w.heap.size, 3, none⟩) (Nat.le_refl _) (.int .i64 41))
        obtain ⟨c0, c1, c2, c3⟩ := box4 z02
        have g0 := z02.frozen 3
        obtain ⟨p0, p1, p2, p3⟩ := box4 z3
        obtain ⟨d0, d1, d2, d3⟩ := box4 z4
        have q0 := z4.frozen 0
        have q1 := z4.frozen 1
        have q2 := z4.frozen 2
        have q3 := z4.frozen 3
        have hfin := only_set4 hD3 (show g < w.heap.size + 1 by omega) (show w.heap.size ≤ w.heap.size + 1 by omega) hA3 (.int .i64 x0) (.int .i64 y0) (.int .i64 x1) (.int .i64 41)
        clear z02 z12 z3 z4 hD2 hA2 hD3 hA3
        go_wp2
        refine bodyPost_ret (v := .agg #[.int .i64 x0, .int .i64 y0, .int .i64 x1, .int .i64 41]) (by simp [results, Tryz.results36, go_sem, *]) rfl ?_
        exact ⟨_, _, _, _, rfl, hfin.1, hfin.2⟩

theorem RL.any4 {w : World} {B g n c : Nat} {rs : List Rc} (h : RL w B (.slice (some ⟨g, 0, none⟩) n c) rs) {k : Nat} (hk : k < rs.length) : ∃ x0 y0 x1 y1 : Int,
    w.cell? ⟨g, k * 4, none⟩ = some (.int .i64 x0) ∧ w.cell? ⟨g, k * 4 + 1, none⟩ = some (.int .i64 y0) ∧ w.cell? ⟨g, k * 4 + 2, none⟩ = some (.int .i64 x1) ∧ w.cell? ⟨g, k * 4 + 3, none⟩ = some (.int .i64 y1) := by
  obtain ⟨g', x0, y0, x1, y1, hA, _, _, h0, h1, h2, h3⟩ := h.elem hk
  simp only [Option.some.injEq, Addr.mk.injEq, and_true] at hA
  subst hA
  exact ⟨x0, y0, x1, y1, h0, h1, h2, h3⟩
theorem set_same {xs : List Value} {i : Nat} {a : Value} (h : xs[i]? = some a) : xs.set i a = xs := by
  obtain ⟨hl, rfl⟩ := List.getElem?_eq_some_iff.1 h
  exact List.set_getElem_self hl
/-- 'list[j].X1 = p'. -/
theorem RL.setX {w : World} {B g n c : Nat} {rs : List Rc} (h : RL w B (.slice (some ⟨g, 0, none⟩) n c) rs) {j : Nat} {r : Rc} (hr : rs[j]? = some r) (p : Int) :
    RL (w.setCell ⟨g, j * 4 + 2, none⟩ (.int .i64 p)) B (.slice (some ⟨g, 0, none⟩) n c) (rs.set j ⟨r.x0, r.y0, p, r.y1⟩) := by
  obtain ⟨A, c', e, _, _, _⟩ := h.form
  simp only [Value.slice.injEq] at e
  obtain ⟨_, rfl, _⟩ := e
  have hj : j < rs.length := (List.getElem?_eq_some_iff.1 hr).1
  obtain ⟨f0, f1, f2, f3⟩ := flatR_get rs j r hr
  unfold RL at h ⊢
  have e3 : ((flatR rs).set (j * 4 + 2) (.int .i64 p))[j * 4 + 3]? = some (.int .i64 r.y1) := by rw [List.getElem?_set_ne (by omega)]; exact f3
  rw [← flatR_set _ _ _ _ _ _ hj, List.length_set, set_same f0, set_same f1, set_same e3]
  exact (h.stored _ _).1

set_option maxHeartbeats 3200000 in
set_option maxRecDepth 100000 in
/-- l03Spoil. -/
theorem spoilL_any (g : Nat) (v : Value) (rs : List Rc) (w : World) (hD : Dice w g) (hv : RL w (g + 1) v rs) (hl : rs.length ≤ 7000) (n : Int) (hn : 1 ≤ n ∧ n ≤ 1000) : Calls Tryz.prog 15 #[.pointer (some ⟨g, 0, none⟩), v, .int .i64 n] w fun e w' => ∃ u qs, e = .returned u ∧ RL w' (g + 1) u qs ∧ qs.length ≤ 7001 ∧ Dice w' g ∧ w.grownBy w' (some g) := by
  have hg := hD.lt
  obtain ⟨A, c, rfl, hc, hm, -⟩ := hv.form
  go_enter Tryz.func15, Tryz.ntmps15
  go_wp2_with fail
  refine (next_ge1 g n _ hD (by omega)).mono ?_
  rintro e w1 ⟨k, rfl, hk, hD1, hG1⟩
  have hv1 := hv.keptG hG1 (Nat.lt_succ_self g)
  clear hD hv
  by_cases hk0 : k = 0
  · subst hk0
    have r1 : RL (w1.alloc (.cells #[] 75)) w.heap.size (.slice (some ⟨w1.heap.size, 0, none⟩) 0 0) [] := row_empty w1 w.heap.size _ rfl hG1.size
    have hv2 := RL.alloc hv1 (.cells #[] 75)
    have hD2 := hD1.alloc (.cells #[] 75)
    have hA2 := only_alloc hG1 (.cells #[] 75)
    have hs2 := hA2.size
    have hlen : ([] : List Rc).length + rs.length ≤ 1000000 := by rw [List.length_nil]; omega
    clear hv1 hD1 hG1
    by_cases hl0 : rs.length = 0
    · have hlb : ((rs.length : Int) == 0) = true := by rw [hl0]; rfl
      clear hl0
      go_wp2_with (first | (at_builtin; refine wpList_append_RR rfl (.tmp 14) (.tmp 15) rfl w.heap.size (g + 1) _ _ _ _ rfl r1 rfl hv2 hlen hs2 ?_; intro v' w3 hR3 hb3; rw [List.nil_append] at hR3; obtain ⟨A', c', rfl, hc', hm', -⟩ := hR3.form; have hD3 := hD2.below hb3 hg; have hA3 := only_above hA2 hb3; clear hv2 hD2 hA2 hb3 r1 hs2; have hs3 := hA3.size; have hl3 : rs.length ≤ 1000000 := by omega) | (at_builtin; refine wpList_append_R rfl (.tmp 20) (.tmp 22) rfl w.heap.size _ rs rfl hR3 _ _ _ _ rfl hl3 hs3 ?_; intro v4 w4 hR4 hG4 hb4))
      go_ret
      exact ⟨_, _, rfl, hR4.less (by omega), by rw [List.length_append, List.length_singleton]; omega, hD3.below hb4 hg, only_above hA3 hb4⟩
    · have hlb : ((rs.length : Int) == 0) = false := by simpa using hl0
      go_wp2_with (at_builtin; refine wpList_append_RR rfl (.tmp 14) (.tmp 15) rfl w.heap.size (g + 1) _ _ _ _ rfl r1 rfl hv2 hlen hs2 ?_; intro v' w3 hR3 hb3; rw [List.nil_append] at hR3; obtain ⟨A', c', rfl, hc', hm', -⟩ := hR3.form; have hD3 := hD2.below hb3 hg; have hA3 := only_above hA2 hb3; clear hv2 hD2 hA2 hb3 r1 hs2)
      go_wp2_with fail
      refine (next_ge1 g _ _ hD3 (by omega)).mono ?_
      rintro e w4 ⟨i, rfl, hi, hD4, hG4⟩
      have hR4 := hR3.keptG hG4 hg
      have hA4 := only_trans hA3 hG4
      clear hR3 hD3 hA3 hG4
      go_wp2_with fail
      refine (next_any g 3 _ hD4 (by omega)).mono ?_
      rintro e w5 ⟨q, rfl, hq, hD5, hG5⟩
      have hR5 := hR4.keptG hG5 hg
      have hA5 := only_trans hA4 hG5
      clear hR4 hD4 hA4 hG5
      obtain ⟨m, rfl⟩ := Int.eq_ofNat_of_zero_le hi.1
      have hml : m < rs.length := by omega
      obtain ⟨gr, x0, y0, x1, y1, rfl, hr, hgr, f0, f1, f2, f3⟩ := hR5.elem hml
      have Hr := Lib.hid hr
      clear hr
      have hbs := hR5.base
      by_cases h0 : q = 0
      · subst h0
        go_wp2_with (go_at_call 36; refine (spoilR_any g ⟨x0, y0, x1, y1⟩ _ hD5).mono ?_; rintro e w6 ⟨a, b, p, s, rfl, hD6, hG6⟩; have hR6 := hR5.keptG hG6 hg; obtain ⟨q0, q1, q2, q3, z0, z1, z2, z3⟩ := hR6.any4 hml; have z := hR6.frozen; have t0 := z (m * 4); have t1 := z (m * 4 + 1); have t2 := z (m * 4 + 2); have t3 := z (m * 4 + 3); clear z)
        go_ret
        have hgg : g < gr := by omega
        exact ⟨_, _, rfl, ((hR5.keptG hG6 hg).set4 hml a b p s).less (by omega), by rw [List.length_set]; omega, (((hD6.other (p := ⟨gr, m * 4, none⟩) hgg _).other (p := ⟨gr, m * 4 + 1, none⟩) hgg _).other (p := ⟨gr, m * 4 + 2, none⟩) hgg _).other (p := ⟨gr, m * 4 + 3, none⟩) hgg _, only_above (only_trans hA5 hG6) ((((((Below.refl w.heap.size w6).setCell (p := ⟨gr, m * 4, none⟩) hbs.1 _).setCell (p := ⟨gr, m * 4 + 1, none⟩) hbs.1 _).setCell (p := ⟨gr, m * 4 + 2, none⟩) hbs.1 _).setCell (p := ⟨gr, m * 4 + 3, none⟩) hbs.1 _))⟩
      · have b0 : (q == 0) = false := by simpa using h0
        by_cases h1 : q = 1
        · subst h1
          have hs5 := hA5.size
          have hl5 : rs.length ≤ 1000000 := by omega
          go_wp2_with (at_builtin; refine wpList_append_R rfl (.tmp 51) (.tmp 56) rfl w.heap.size _ rs rfl hR5 _ _ _ _ rfl hl5 hs5 ?_; intro v6 w6 hR6 hG6 hb6)
          go_ret
          exact ⟨_, _, rfl, hR6.less (by omega), by rw [List.length_append, List.length_singleton]; omega, hD5.below hb6 hg, only_above hA5 hb6⟩
        · have b1 : (q == 1) = false := by simpa using h1
          have t2 := hR5.frozen (m * 4 + 2)
          go_wp2
          go_ret
          exact ⟨_, _, rfl, (hR5.setX Hr.out (wrap64 (x1 + 1))).less (by omega), by rw [List.length_set]; omega, hD5.other (p := ⟨gr, m * 4 + 2, none⟩) (by show g < gr; omega) _, only_above hA5 ((Below.refl w.heap.size w5).setCell (p := ⟨gr, m * 4 + 2, none⟩) hbs.1 _)⟩
  · have hkb : (k == 0) = false := by simpa using hk0
    have hkn : (k != 0) = true := by simpa using hk0
    go_wp2
    go_ret
    exact ⟨_, _, rfl, hv1, by omega, hD1, hG1⟩

end Go.Proofs.YtjiljodchebniaaGreat

namespace Go.Proofs.YtjiljodchebniaaGreat
open Go.RowKit

/-- The mark of the element i. -/
def mark (k : Int) (i : Nat) : Rc := ⟨k + 4 * i, k + 4 * i + 1, k + 4 * i + 2, k + 4 * i + 3⟩
def marks (k : Int) (n : Nat) : List Rc := (List.range n).map (mark k)
theorem marks_length (k : Int) (n : Nat) : (marks k n).length = n := by simp [marks]
theorem marks_get (k : Int) (n i : Nat) (h : i < n) : (marks k n)[i]? = some (mark k i) := by simp [marks, h]
/-- The first j elements are marked. -/
def mixed (k : Int) (rs : List Rc) (j : Nat) : List Rc := marks k j ++ rs.drop j
theorem mixed_length (k : Int) (rs : List Rc) (j : Nat) (h : j ≤ rs.length) : (mixed k rs j).length = rs.length := by
  simp only [mixed, List.length_append, marks_length, List.length_drop]; omega
theorem mixed_step (k : Int) (rs : List Rc) (j : Nat) (h : j < rs.length) : (mixed k rs j).set j (mark k j) = mixed k rs (j + 1) := by
  have e : rs.drop j = rs[j] :: rs.drop (j + 1) := List.drop_eq_getElem_cons h
  have e2 : marks k (j + 1) = marks k j ++ [mark k j] := by simp [marks, List.range_succ]
  unfold mixed
  rw [List.set_append_right _ _ (by rw [marks_length]; exact Nat.le_refl _), marks_length, Nat.sub_self, e, List.set_cons_zero, e2, List.append_assoc]
  rfl
theorem mixed_end (k : Int) (rs : List Rc) : mixed k rs rs.length = marks k rs.length := by simp [mixed]

end Go.Proofs.YtjiljodchebniaaGreat
