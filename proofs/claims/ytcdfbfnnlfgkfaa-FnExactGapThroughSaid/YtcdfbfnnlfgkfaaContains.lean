/- Contract: the program's RegionContains. No conditions. -/
import Derived.Test.YtcdfbfnnlfgkfaaOk
import Derived.Test.YtcdfbfnnlfgkfaaNearMath
namespace Go.Proofs.Ytcdfbfnnlfgkfaa
open Go.RowKit

/-- A valid rectangle has the cell (x, y). -/
def containsR (x y : Int) (r : Rc) : Bool := okRc r && decide (r.x0 ≤ x ∧ x < r.x1 ∧ r.y0 ≤ y ∧ y < r.y1)
theorem contains_no {x y : Int} {r : Rc} (h : okRc r = false) : containsR x y r = false := by unfold containsR; rw [h]; rfl
theorem contains_yes {x y : Int} {r : Rc} (h : okRc r = true) : containsR x y r = decide (r.x0 ≤ x ∧ x < r.x1 ∧ r.y0 ≤ y ∧ y < r.y1) := by unfold containsR; rw [h]; rfl
theorem inR_ix {r : Rc} {x y : Int} (hc : onC x y = true) : inR r (ix x y).toNat = decide (r.x0 ≤ x ∧ x < r.x1 ∧ r.y0 ≤ y ∧ y < r.y1) := by
  have h := (onC_iff x y).1 hc
  obtain ⟨e, _⟩ := ix_nat hc
  rw [Bool.eq_iff_iff, inR_iff, decide_eq_true_iff, e]
  have e1 : ((y + 40).toNat * 80 + (x + 40).toNat) / 80 = (y + 40).toNat ∧ ((y + 40).toNat * 80 + (x + 40).toNat) % 80 = (x + 40).toNat := by omega
  rw [e1.1, e1.2]
  omega
theorem any_contains {rs : List Rc} (hok : okAll rs = true) (x y : Int) : rs.any (containsR x y) = hasG (cellsG rs) x y := by
  rw [okAll, List.all_eq_true] at hok
  by_cases hc : onC x y = true
  · rw [hasG_on hc, Bool.eq_iff_iff]
    unfold cellsG
    rw [List.any_eq_true, List.any_eq_true]
    constructor
    · rintro ⟨r, hr, h⟩
      rw [contains_yes (hok r hr), ← inR_ix hc] at h
      exact ⟨r, hr, h⟩
    · rintro ⟨r, hr, h⟩
      refine ⟨r, hr, ?_⟩
      rw [contains_yes (hok r hr), ← inR_ix hc]
      exact h
  · have hc' : onC x y = false := by simpa using hc
    rw [hasG_off hc', Bool.eq_false_iff]
    intro h
    rw [List.any_eq_true] at h
    obtain ⟨r, hr, h⟩ := h
    rw [contains_yes (hok r hr), decide_eq_true_iff] at h
    have h2 := (okRc_iff r).1 (hok r hr)
    exact hc ((onC_iff x y).2 (by omega))

set_option maxHeartbeats 400000 in
/-- RectContains. -/
theorem rectContains_any (r : Rc) (x y : Int) (w : World) : Calls Try.prog 92 #[r.val, .int .i64 x, .int .i64 y] w fun e w' => e = .returned (.bool (containsR x y r)) ∧ Below w.heap.size w w' := by
  obtain ⟨x0, y0, x1, y1⟩ := r
  unfold Rc.val
  dsimp only
  have z0 := Bk.new w 33 #[.int .i64 x0, .int .i64 y0, .int .i64 x1, .int .i64 y1]
  have b0 := (Below.refl w.heap.size w).alloc (Nat.le_refl _) (.cells #[.int .i64 x0, .int .i64 y0, .int .i64 x1, .int .i64 y1] 33)
  by_cases hok : okRc ⟨x0, y0, x1, y1⟩ = true
  · have He := Lib.hid (contains_yes (x := x) (y := y) hok)
    go_enter Try.func92, Try.ntmps92
    go_wp2_with (go_at_call 53; refine (valid_impl ⟨x0, y0, x1, y1⟩ _).mono ?_; rintro e w1 ⟨rfl, hb1⟩; obtain ⟨c0, c1, c2, c3⟩ := box4 (z0.on hb1))
    all_goals
      go_ret
      refine ⟨ret_bool ?_, b0.trans (hb1.mono b0.size)⟩
      rw [He.out]
      simp [*] <;> omega
  · have hok' : okRc ⟨x0, y0, x1, y1⟩ = false := by simpa using hok
    clear hok
    have He := Lib.hid (contains_no (x := x) (y := y) hok')
    go_enter Try.func92, Try.ntmps92
    go_wp2_with (go_at_call 53; refine (valid_impl ⟨x0, y0, x1, y1⟩ _).mono ?_; rintro e w1 ⟨rfl, hb1⟩)
    go_ret
    exact ⟨ret_bool He.out.symm, b0.trans (hb1.mono b0.size)⟩

/-- The literal of RegionContains. -/
theorem containsLit_any (r : Rc) (x y : Int) (bx by' : Nat) (w : World) (hx : Bk w bx 2 #[.int .i64 x]) (hy : Bk w by' 2 #[.int .i64 y]) : Calls Try.prog 91 #[r.val, .pointer (some ⟨bx, 0, none⟩), .pointer (some ⟨by', 0, none⟩)] w fun e w' => e = .returned (.bool (containsR x y r)) ∧ Below w.heap.size w w' := by
  obtain ⟨x0, y0, x1, y1⟩ := r
  have z0 := Bk.new w 33 #[.int .i64 x0, .int .i64 y0, .int .i64 x1, .int .i64 y1]
  have b0 := (Below.refl w.heap.size w).alloc (Nat.le_refl _) (.cells #[.int .i64 x0, .int .i64 y0, .int .i64 x1, .int .i64 y1] 33)
  have fx := (hx.alloc (.cells #[.int .i64 x0, .int .i64 y0, .int .i64 x1, .int .i64 y1] 33)).cell 0
  have fy := (hy.alloc (.cells #[.int .i64 x0, .int .i64 y0, .int .i64 x1, .int .i64 y1] 33)).cell 0
  simp only [List.getElem?_toArray, List.getElem?_cons_zero] at fx fy
  obtain ⟨c0, c1, c2, c3⟩ := box4 z0
  unfold Rc.val
  dsimp only
  go_enter Try.func91, Try.ntmps91
  go_wp2_with (go_at_call 92; refine (rectContains_any ⟨x0, y0, x1, y1⟩ x y _).mono ?_; rintro e w1 ⟨rfl, hb1⟩)
  go_ret
  exact ⟨rfl, b0.trans (hb1.mono b0.size)⟩

theorem any_first {α : Type} {p : α → Bool} {l : List α} {k : Nat} {a : α} (h : l[k]? = some a) (hp : p a = true) : (l.drop k).any p = true := by
  rw [List.any_eq_true]
  obtain ⟨hk, he⟩ := List.getElem?_eq_some_iff.1 h
  exact ⟨a, by rw [List.drop_eq_getElem_cons hk, he]; simp, hp⟩
theorem any_next {α : Type} {p : α → Bool} {l : List α} {k : Nat} {a : α} (h : l[k]? = some a) (hp : p a = false) : (l.drop k).any p = (l.drop (k + 1)).any p := by
  obtain ⟨hk, he⟩ := List.getElem?_eq_some_iff.1 h
  rw [List.drop_eq_getElem_cons hk, he, List.any_cons, hp, Bool.false_or]
theorem any_last {α : Type} {p : α → Bool} {l : List α} {k : Nat} (h : l.length ≤ k) : (l.drop k).any p = false := by rw [List.drop_eq_nil_of_le h]; rfl

set_option maxHeartbeats 400000 in
set_option maxRecDepth 100000 in
/-- slices.IndexFunc with that literal: the index is not negative exactly if there is one. -/
theorem indexContains_any (v : Value) (rs : List Rc) (x y : Int) (bx by' : Nat) (w : World) (hv : RL w 0 v rs) (hx : Bk w bx 2 #[.int .i64 x]) (hy : Bk w by' 2 #[.int .i64 y]) :
    Calls Try.prog 105 #[v, .func (.func 91) #[] #[.pointer (some ⟨bx, 0, none⟩), .pointer (some ⟨by', 0, none⟩)]] w fun e w' => (∃ n : Int, e = .returned (.int .i64 n) ∧ decide (0 ≤ n) = rs.any (containsR x y)) ∧ Below w.heap.size w w' := by
  obtain ⟨A, c, rfl, hc, hm, -⟩ := hv.form
  have hm' : rs.length ≤ 9223372036854775807 := by unfold maxLen at hm; omega
  go_enter Try.func105, Try.ntmps105
  go_wp2
  go_loopw [8] (fun i wr => ∃ k : Nat, k ≤ rs.length ∧ i = .int .i64 k ∧ Hid ((rs.drop k).any (containsR x y) = rs.any (containsR x y)) ∧ Below w.heap.size w wr) (fun i _ => rs.length - (intOf i).toNat)
  case atStart => exact ⟨0, Nat.zero_le _, rfl, Lib.hid rfl, Below.refl _ _⟩
  case round =>
    obtain ⟨k, hk, rfl, hf, hb⟩ := hrel
    by_cases hlt : k < rs.length
    · obtain ⟨g, x0, y0, x1, y1, rfl, hr, hg, f0, f1, f2, f3⟩ := (hv.on hb).elem hlt
      have hx1 := hx.on hb
      have hy1 := hy.on hb
      by_cases hp : containsR x y ⟨x0, y0, x1, y1⟩ = true
      · have Hf := Lib.hid (hf.out.symm.trans (any_first hr hp))
        clear hr hf
        go_wp2_with (go_at_call 91; refine (containsLit_any ⟨x0, y0, x1, y1⟩ x y bx by' _ hx1 hy1).mono ?_; rintro e w1 ⟨rfl, hb1⟩)
        go_ret
        refine ⟨⟨_, rfl, ?_⟩, hb.trans (hb1.mono hb.size)⟩
        rw [Hf.out]
        simp
      · have hp' : containsR x y ⟨x0, y0, x1, y1⟩ = false := by simpa using hp
        clear hp
        have Hf := Lib.hid ((any_next hr hp').symm.trans hf.out)
        clear hr hf
        go_wp2_with (go_at_call 91; refine (containsLit_any ⟨x0, y0, x1, y1⟩ x y bx by' _ hx1 hy1).mono ?_; rintro e w1 ⟨rfl, hb1⟩)
        exact ⟨⟨k + 1, by omega, by go_num, Hf, hb.trans (hb1.mono hb.size)⟩, by simp [intOf]; omega⟩
    · have Hf := Lib.hid (hf.out.symm.trans (any_last (by omega)))
      go_wp2
      go_ret
      refine ⟨⟨_, rfl, ?_⟩, hb⟩
      rw [Hf.out]
      simp

/-- slices.ContainsFunc with that literal. -/
theorem containsFunc_any (v : Value) (rs : List Rc) (x y : Int) (bx by' : Nat) (w : World) (hv : RL w 0 v rs) (hx : Bk w bx 2 #[.int .i64 x]) (hy : Bk w by' 2 #[.int .i64 y]) :
    Calls Try.prog 90 #[v, .func (.func 91) #[] #[.pointer (some ⟨bx, 0, none⟩), .pointer (some ⟨by', 0, none⟩)]] w fun e w' => e = .returned (.bool (rs.any (containsR x y))) ∧ Below w.heap.size w w' := by
  go_enter Try.func90, Try.ntmps90
  go_wp2_with fail
  refine (indexContains_any v rs x y bx by' _ hv hx hy).mono ?_
  rintro e w2 ⟨⟨n, rfl, hn⟩, hb2⟩
  have Hn := Lib.hid hn
  clear hn
  go_wp2
  go_ret
  exact ⟨ret_bool Hn.out, hb2⟩

set_option maxHeartbeats 400000 in
/-- RegionContains. -/
theorem regionContains_any (v : Value) (rs : List Rc) (x y : Int) (w : World) (hv : RL w 0 v rs) : Calls Try.prog 57 #[v, .int .i64 x, .int .i64 y] w fun e w' => e = .returned (.bool (isReg rs && hasG (cellsG rs) x y)) ∧ Below w.heap.size w w' := by
  have zx := (Bk.new w 2 #[.int .i64 x]).alloc (.cells #[.int .i64 y] 2)
  have zy := Bk.new (w.alloc (.cells #[.int .i64 x] 2)) 2 #[.int .i64 y]
  have ez : (w.alloc (.cells #[.int .i64 x] 2)).heap.size = w.heap.size + 1 := by simp
  rw [ez] at zy
  clear ez
  have b0 := ((Below.refl w.heap.size w).alloc (Nat.le_refl _) (.cells #[.int .i64 x] 2)).alloc (by simp) (.cells #[.int .i64 y] 2)
  have hvA := (hv.alloc (.cells #[.int .i64 x] 2)).alloc (.cells #[.int .i64 y] 2)
  by_cases h : isReg rs = true
  · have Hc := Lib.hid (any_contains ((isReg_iff rs).1 h).2.1 x y)
    go_enter Try.func57, Try.ntmps57
    go_wp2_with fail
    refine (isRegion_any v rs _ hvA).mono ?_
    rintro e w1 ⟨rfl, hb1⟩
    rw [h]
    go_wp2_with fail
    refine (containsFunc_any v rs x y _ _ _ (hvA.on hb1) (zx.on hb1) (zy.on hb1)).mono ?_
    rintro e w2 ⟨rfl, hb2⟩
    rw [Hc.out]
    have t1 := b0.trans (hb1.mono b0.size)
    go_wp2
    go_ret
    exact ⟨ret_bool (by rw [h]; rfl), t1.trans (hb2.mono t1.size)⟩
  · have h' : isReg rs = false := by simpa using h
    clear h
    go_enter Try.func57, Try.ntmps57
    go_wp2_with fail
    refine (isRegion_any v rs _ hvA).mono ?_
    rintro e w1 ⟨rfl, hb1⟩
    rw [h']
    go_wp2
    go_ret
    exact ⟨ret_bool (by rw [h']; rfl), b0.trans (hb1.mono b0.size)⟩

end Go.Proofs.Ytcdfbfnnlfgkfaa
