/- Contracts: the program's runThrough on a set. Condition: the cell lies on the chip. Contract: the program's RegionContains. No conditions. Contracts: RunThrough of the reference and of the program. No conditions. Contracts: GapThrough of the reference and of the program. No conditions. -/
import Derived.Test.YtbljapihmkmolaaGreatCanonA
import Derived.Test.YtbljapihmkmolaaGreatMathA
import Derived.Test.YtbljapihmkmolaaGreatWidthA
import Derived.Deep.RegionHeld3
import Derived.Test.YtbljapihmkmolaaGreatCombA
namespace Go.Proofs.YtbljapihmkmolaaGreat
open Go.RowKit

/-- The number in a cell. -/
def cellI (w : World) (g i : Nat) : Int := match w.cell? ⟨g, i, none⟩ with | some v => intOf v | none => 0
theorem cellI_of {w : World} {g i : Nat} {n : Int} (h : w.cell? ⟨g, i, none⟩ = some (.int .i64 n)) : cellI w g i = n := by unfold cellI; rw [h]; rfl
theorem set2 {w : World} {b : Nat} {t : TypeId} {a0 a1 : Value} (h : Bk w b t #[a0, a1]) (x0 x1 : Value) : Bk ((w.setCell ⟨b, 0, none⟩ x0).setCell ⟨b, 1, none⟩ x1) b t #[x0, x1] := (h.store 0 x0).store 1 x1
theorem other2 {w : World} {g b : Nat} {t : TypeId} {cs : Array Value} (h : Bk w g t cs) (hne : g ≠ b) (x0 x1 : Value) : Bk ((w.setCell ⟨b, 0, none⟩ x0).setCell ⟨b, 1, none⟩ x1) g t cs := (h.other (p := ⟨b, 0, none⟩) hne x0).other (p := ⟨b, 1, none⟩) hne x1
theorem below2 {B b : Nat} {a w : World} (h : Below B a w) (hb : B ≤ b) (x0 x1 : Value) : Below B a ((w.setCell ⟨b, 0, none⟩ x0).setCell ⟨b, 1, none⟩ x1) := (h.setCell hb x0).setCell hb x1
theorem below4 {B b : Nat} {a w : World} (h : Below B a w) (hb : B ≤ b) (x0 x1 x2 x3 : Value) : Below B a ((((w.setCell ⟨b, 0, none⟩ x0).setCell ⟨b, 1, none⟩ x1).setCell ⟨b, 2, none⟩ x2).setCell ⟨b, 3, none⟩ x3) := (((h.setCell hb x0).setCell hb x1).setCell hb x2).setCell hb x3
theorem set4of {w : World} {b : Nat} {t : TypeId} {a0 a1 a2 a3 : Value} (h : Bk w b t #[a0, a1, a2, a3]) (x0 x1 x2 x3 : Value) :
    (w.setCell ⟨b, 0, none⟩ x0).cell? ⟨b, 0, none⟩ = some x0 ∧ ((w.setCell ⟨b, 0, none⟩ x0).setCell ⟨b, 1, none⟩ x1).cell? ⟨b, 1, none⟩ = some x1 ∧
    (((w.setCell ⟨b, 0, none⟩ x0).setCell ⟨b, 1, none⟩ x1).setCell ⟨b, 2, none⟩ x2).cell? ⟨b, 2, none⟩ = some x2 ∧
    ((((w.setCell ⟨b, 0, none⟩ x0).setCell ⟨b, 1, none⟩ x1).setCell ⟨b, 2, none⟩ x2).setCell ⟨b, 3, none⟩ x3).cell? ⟨b, 3, none⟩ = some x3 :=
  ⟨(h.store 0 x0).cell 0, ((h.store 0 x0).store 1 x1).cell 1, (((h.store 0 x0).store 1 x1).store 2 x2).cell 2, ((((h.store 0 x0).store 1 x1).store 2 x2).store 3 x3).cell 3⟩

end Go.Proofs.YtbljapihmkmolaaGreat

namespace Go.Proofs.YtbljapihmkmolaaGreat
open Go.RowKit

/-- A valid rectangle has the cell (x, y). -/
def containsR (x y : Int) (r : Rc) : Bool := okRc r && decide (r.x0 ≤ x ∧ x < r.x1 ∧ r.y0 ≤ y ∧ y < r.y1)
theorem contains_no {x y : Int} {r : Rc} (h : okRc r = false) : containsR x y r = false := by unfold containsR; rw [h]; rfl
theorem contains_yes {x y : Int} {r : Rc} (h : okRc r = true) : containsR x y r = decide (r.x0 ≤ x ∧ x < r.x1 ∧ r.y0 ≤ y ∧ y < r.y1) := by unfold containsR; rw [h]; rfl
theorem inR_ix {r : Rc} {x y : Int} (hc : onC x y = true) : inR r (ix x y).toNat = decide (r.x0 ≤ x ∧ x < r.x1 ∧ r.y0 ≤ y ∧ y < r.y1) := by
  have h := (onC_iff x y).1 hc
  obtain ⟨e, _⟩ := ix_nat hc
  rw [Bool.eq_iff_iff, inR_iff, decide_eq_true_iff, e]
  have e1 : ((y + 40).toNat * 80 + (x + 40).toNat) / 80 = (y + 40).toNat ∧ ((y + 40).toNat * 80 + (x + 40).toNat) % 80 = (x + 40).toNat := by omega
  rw [e1.1, e1.2]
  omega
theorem any_contains {rs : List Rc} (hok : okAll rs = true) (x y : Int) : rs.any (containsR x y) = hasG (cellsG rs) x y := by
  rw [okAll, List.all_eq_true] at hok
  by_cases hc : onC x y = true
  · rw [hasG_on hc, Bool.eq_iff_iff]
    unfold cellsG
    rw [List.any_eq_true, List.any_eq_true]
    constructor
    · rintro ⟨r, hr, h⟩
      rw [contains_yes (hok r hr), ← inR_ix hc] at h
      exact ⟨r, hr, h⟩
    · rintro ⟨r, hr, h⟩
      refine ⟨r, hr, ?_⟩
      rw [contains_yes (hok r hr), ← inR_ix hc]
      exact h
  · have hc' : onC x y = false := by simpa using hc
    rw [hasG_off hc', Bool.eq_false_iff]
    intro h
    rw [List.any_eq_true] at h
    obtain ⟨r, hr, h⟩ := h
    rw [contains_yes (hok r hr), decide_eq_true_iff] at h
    have h2 := (okRc_iff r).1 (hok r hr)
    exact hc ((onC_iff x y).2 (by omega))

set_option maxHeartbeats 400000 in
/-- RectContains. -/
theorem rectContains_any (r : Rc) (x y : Int) (w : World) : Calls Tryz.prog 98 #[r.val, .int .i64 x, .int .i64 y] w fun e w' => e = .returned (.bool (containsR x y r)) ∧ Below w.heap.size w w' := by
  obtain ⟨x0, y0, x1, y1⟩ := r
  unfold Rc.val
  dsimp only
  have z0 := Bk.new w 80 #[.int .i64 x0, .int .i64 y0, .int .i64 x1, .int .i64 y1]
  have b0 := (Below.refl w.heap.size w).alloc (Nat.le_refl _) (.cells #[.int .i64 x0, .int .i64 y0, .int .i64 x1, .int .i64 y1] 80)
  by_cases hok : okRc ⟨x0, y0, x1, y1⟩ = true
  · have He := Lib.hid (contains_yes (x := x) (y := y) hok)
    go_enter Tryz.func98, Tryz.ntmps98
    go_wp2_with (go_at_call 92; refine (valid_impl ⟨x0, y0, x1, y1⟩ _).mono ?_; rintro e w1 ⟨rfl, hb1⟩; obtain ⟨c0, c1, c2, c3⟩ := box4 (z0.on hb1))
    all_goals
      go_ret
      refine ⟨ret_bool ?_, b0.trans (hb1.mono b0.size)⟩
      rw [He.out]
      simp [*] <;> omega
  · have hok' : okRc ⟨x0, y0, x1, y1⟩ = false := by simpa using hok
    clear hok
    have He := Lib.hid (contains_no (x := x) (y := y) hok')
    go_enter Tryz.func98, Tryz.ntmps98
    go_wp2_with (go_at_call 92; refine (valid_impl ⟨x0, y0, x1, y1⟩ _).mono ?_; rintro e w1 ⟨rfl, hb1⟩)
    go_ret
    exact ⟨ret_bool He.out.symm, b0.trans (hb1.mono b0.size)⟩

/-- The literal of RegionContains. -/
theorem containsLit_any (r : Rc) (x y : Int) (bx by' : Nat) (w : World) (hx : Bk w bx 2 #[.int .i64 x]) (hy : Bk w by' 2 #[.int .i64 y]) : Calls Tryz.prog 97 #[r.val, .pointer (some ⟨bx, 0, none⟩), .pointer (some ⟨by', 0, none⟩)] w fun e w' => e = .returned (.bool (containsR x y r)) ∧ Below w.heap.size w w' := by
  obtain ⟨x0, y0, x1, y1⟩ := r
  have z0 := Bk.new w 80 #[.int .i64 x0, .int .i64 y0, .int .i64 x1, .int .i64 y1]
  have b0 := (Below.refl w.heap.size w).alloc (Nat.le_refl _) (.cells #[.int .i64 x0, .int .i64 y0, .int .i64 x1, .int .i64 y1] 80)
  have fx := (hx.alloc (.cells #[.int .i64 x0, .int .i64 y0, .int .i64 x1, .int .i64 y1] 80)).cell 0
  have fy := (hy.alloc (.cells #[.int .i64 x0, .int .i64 y0, .int .i64 x1, .int .i64 y1] 80)).cell 0
  simp only [List.getElem?_toArray, List.getElem?_cons_zero] at fx fy
  obtain ⟨c0, c1, c2, c3⟩ := box4 z0
  unfold Rc.val
  dsimp only
  go_enter Tryz.func97, Tryz.ntmps97
  go_wp2_with (go_at_call 98; refine (rectContains_any ⟨x0, y0, x1, y1⟩ x y _).mono ?_; rintro e w1 ⟨rfl, hb1⟩)
  go_ret
  exact ⟨rfl, b0.trans (hb1.mono b0.size)⟩

theorem any_first {α : Type} {p : α → Bool} {l : List α} {k : Nat} {a : α} (h : l[k]? = some a) (hp : p a = true) : (l.drop k).any p = true := by
  rw [List.any_eq_true]
  obtain ⟨hk, he⟩ := List.getElem?_eq_some_iff.1 h
  exact ⟨a, by rw [List.drop_eq_getElem_cons hk, he]; simp, hp⟩
theorem any_next {α : Type} {p : α → Bool} {l : List α} {k : Nat} {a : α} (h : l[k]? = some a) (hp : p a = false) : (l.drop k).any p = (l.drop (k + 1)).any p := by
  obtain ⟨hk, he⟩ := List.getElem?_eq_some_iff.1 h
  rw [List.drop_eq_getElem_cons hk, he, List.any_cons, hp, Bool.false_or]
theorem any_last {α : Type} {p : α → Bool} {l : List α} {k : Nat} (h : l.length ≤ k) : (l.drop k).any p = false := by rw [List.drop_eq_nil_of_le h]; rfl

set_option maxHeartbeats 400000 in
set_option maxRecDepth 100000 in
/-- slices.IndexFunc with that literal: the index is not negative exactly if there is one. -/
theorem indexContains_any (v : Value) (rs : List Rc) (x y : Int) (bx by' : Nat) (w : World) (hv : RL w 0 v rs) (hx : Bk w bx 2 #[.int .i64 x]) (hy : Bk w by' 2 #[.int .i64 y]) :
    Calls Tryz.prog 152 #[v, .func (.func 97) #[] #[.pointer (some ⟨bx, 0, none⟩), .pointer (some ⟨by', 0, none⟩)]] w fun e w' => (∃ n : Int, e = .returned (.int .i64 n) ∧ decide (0 ≤ n) = rs.any (containsR x y)) ∧ Below w.heap.size w w' := by
  obtain ⟨A, c, rfl, hc, hm, -⟩ := hv.form
  have hm' : rs.length ≤ 9223372036854775807 := by unfold maxLen at hm; omega
  go_enter Tryz.func152, Tryz.ntmps152
  go_wp2
  go_loopw [8] (fun i wr => ∃ k : Nat, k ≤ rs.length ∧ i = .int .i64 k ∧ Hid ((rs.drop k).any (containsR x y) = rs.any (containsR x y)) ∧ Below w.heap.size w wr) (fun i _ => rs.length - (intOf i).toNat)
  case atStart => exact ⟨0, Nat.zero_le _, rfl, Lib.hid rfl, Below.refl _ _⟩
  case round =>
    obtain ⟨k, hk, rfl, hf, hb⟩ := hrel
    by_cases hlt : k < rs.length
    · obtain ⟨g, x0, y0, x1, y1, rfl, hr, hg, f0, f1, f2, f3⟩ := (hv.on hb).elem hlt
      have hx1 := hx.on hb
      have hy1 := hy.on hb
      by_cases hp : containsR x y ⟨x0, y0, x1, y1⟩ = true
      · have Hf := Lib.hid (hf.out.symm.trans (any_first hr hp))
        clear hr hf
        go_wp2_with (go_at_call 97; refine (containsLit_any ⟨x0, y0, x1, y1⟩ x y bx by' _ hx1 hy1).mono ?_; rintro e w1 ⟨rfl, hb1⟩)
        go_ret
        refine ⟨⟨_, rfl, ?_⟩, hb.trans (hb1.mono hb.size)⟩
        rw [Hf.out]
        simp
      · have hp' : containsR x y ⟨x0, y0, x1, y1⟩ = false := by simpa using hp
        clear hp
        have Hf := Lib.hid ((any_next hr hp').symm.trans hf.out)
        clear hr hf
        go_wp2_with (go_at_call 97; refine (containsLit_any ⟨x0, y0, x1, y1⟩ x y bx by' _ hx1 hy1).mono ?_; rintro e w1 ⟨rfl, hb1⟩)
        exact ⟨⟨k + 1, by omega, by go_num, Hf, hb.trans (hb1.mono hb.size)⟩, by simp [intOf]; omega⟩
    · have Hf := Lib.hid (hf.out.symm.trans (any_last (by omega)))
      go_wp2
      go_ret
      refine ⟨⟨_, rfl, ?_⟩, hb⟩
      rw [Hf.out]
      simp

/-- slices.ContainsFunc with that literal. -/
theorem containsFunc_any (v : Value) (rs : List Rc) (x y : Int) (bx by' : Nat) (w : World) (hv : RL w 0 v rs) (hx : Bk w bx 2 #[.int .i64 x]) (hy : Bk w by' 2 #[.int .i64 y]) :
    Calls Tryz.prog 96 #[v, .func (.func 97) #[] #[.pointer (some ⟨bx, 0, none⟩), .pointer (some ⟨by', 0, none⟩)]] w fun e w' => e = .returned (.bool (rs.any (containsR x y))) ∧ Below w.heap.size w w' := by
  go_enter Tryz.func96, Tryz.ntmps96
  go_wp2_with fail
  refine (indexContains_any v rs x y bx by' _ hv hx hy).mono ?_
  rintro e w2 ⟨⟨n, rfl, hn⟩, hb2⟩
  have Hn := Lib.hid hn
  clear hn
  go_wp2
  go_ret
  exact ⟨ret_bool Hn.out, hb2⟩

set_option maxHeartbeats 400000 in
/-- RegionContains. -/
theorem regionContains_any (v : Value) (rs : List Rc) (x y : Int) (w : World) (hv : RL w 0 v rs) : Calls Tryz.prog 48 #[v, .int .i64 x, .int .i64 y] w fun e w' => e = .returned (.bool (isReg rs && hasG (cellsG rs) x y)) ∧ Below w.heap.size w w' := by
  have zx := (Bk.new w 2 #[.int .i64 x]).alloc (.cells #[.int .i64 y] 2)
  have zy := Bk.new (w.alloc (.cells #[.int .i64 x] 2)) 2 #[.int .i64 y]
  have ez : (w.alloc (.cells #[.int .i64 x] 2)).heap.size = w.heap.size + 1 := by simp
  rw [ez] at zy
  clear ez
  have b0 := ((Below.refl w.heap.size w).alloc (Nat.le_refl _) (.cells #[.int .i64 x] 2)).alloc (by simp) (.cells #[.int .i64 y] 2)
  have hvA := (hv.alloc (.cells #[.int .i64 x] 2)).alloc (.cells #[.int .i64 y] 2)
  by_cases h : isReg rs = true
  · have Hc := Lib.hid (any_contains ((isReg_iff rs).1 h).2.1 x y)
    go_enter Tryz.func48, Tryz.ntmps48
    go_wp2_with fail
    refine (isRegion_any v rs _ hvA).mono ?_
    rintro e w1 ⟨rfl, hb1⟩
    rw [h]
    go_wp2_with fail
    refine (containsFunc_any v rs x y _ _ _ (hvA.on hb1) (zx.on hb1) (zy.on hb1)).mono ?_
    rintro e w2 ⟨rfl, hb2⟩
    rw [Hc.out]
    have t1 := b0.trans (hb1.mono b0.size)
    go_wp2
    go_ret
    exact ⟨ret_bool (by rw [h]; rfl), t1.trans (hb2.mono t1.size)⟩
  · have h' : isReg rs = false := by simpa using h
    clear h
    go_enter Tryz.func48, Tryz.ntmps48
    go_wp2_with fail
    refine (isRegion_any v rs _ hvA).mono ?_
    rintro e w1 ⟨rfl, hb1⟩
    rw [h']
    go_wp2
    go_ret
    exact ⟨ret_bool (by rw [h']; rfl), b0.trans (hb1.mono b0.size)⟩

end Go.Proofs.YtbljapihmkmolaaGreat

namespace Go.Proofs.YtbljapihmkmolaaGreat
open Go.RowKit

theorem l17Run_ag (v : Value) (G : Gr) (x y : Int) (vert : Bool) (w : World) (hG : GS w 0 v G) (hx : -40 ≤ x ∧ x ≤ 39) (hy : -40 ≤ y ∧ y ≤ 39) :
    Calls Tryz.prog 183 #[v, .int .i64 x, .int .i64 y, .bool vert] w fun e w' => e = .returned (.agg #[.int .i64 (runR G x y vert).x0, .int .i64 (runR G x y vert).y0, .int .i64 (runR G x y vert).x1, .int .i64 (runR G x y vert).y1]) ∧ Below w.heap.size w w' := l17Run_any v G x y vert w hG hx hy
/-- The run through a cell. -/
def rtV (rs : List Rc) (x y : Int) (vert : Bool) : Option Rc := if isReg rs = true ∧ hasG (cellsG rs) x y = true then some (runR (cellsG rs) x y vert) else none
theorem rtV_yes {rs : List Rc} {x y : Int} {vert : Bool} (h : isReg rs = true) (hc : hasG (cellsG rs) x y = true) : rtV rs x y vert = some (runR (cellsG rs) x y vert) := if_pos ⟨h, hc⟩
theorem rtV_no1 {rs : List Rc} {x y : Int} {vert : Bool} (h : isReg rs = false) : rtV rs x y vert = none := if_neg (by rw [h]; simp)
theorem rtV_no2 {rs : List Rc} {x y : Int} {vert : Bool} (h : hasG (cellsG rs) x y = false) : rtV rs x y vert = none := if_neg (by rw [h]; simp)

end Go.Proofs.YtbljapihmkmolaaGreat

namespace Go.Proofs.YtbljapihmkmolaaGreat
open Go.RowKit

/-- The gap through a cell. -/
def gtV (rs : List Rc) (x y : Int) (vert : Bool) : Option Rc := if isReg rs = true ∧ hasG (notG (cellsG rs)) x y = true then some (runR (notG (cellsG rs)) x y vert) else none
theorem gtV_yes {rs : List Rc} {x y : Int} {vert : Bool} (h : isReg rs = true) (hc : hasG (notG (cellsG rs)) x y = true) : gtV rs x y vert = some (runR (notG (cellsG rs)) x y vert) := if_pos ⟨h, hc⟩
theorem gtV_no1 {rs : List Rc} {x y : Int} {vert : Bool} (h : isReg rs = false) : gtV rs x y vert = none := if_neg (by rw [h]; simp)
theorem gtV_no2 {rs : List Rc} {x y : Int} {vert : Bool} (h : hasG (notG (cellsG rs)) x y = false) : gtV rs x y vert = none := if_neg (by rw [h]; simp)

end Go.Proofs.YtbljapihmkmolaaGreat
