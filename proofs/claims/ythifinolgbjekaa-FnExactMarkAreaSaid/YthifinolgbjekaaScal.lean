/- Contracts of the small functions: valid rectangles, areas, ranges, the index of a unit cell, membership in a set. Conditions: where a number is reckoned, the unit cell lies on the chip. -/
import Derived.Test.YthifinolgbjekaaMem
import Derived.Test.YthifinolgbjekaaAreaMath
import Derived.Test.YthifinolgbjekaaRunMath
namespace Go.Proofs.Ythifinolgbjekaa
open Go.RowKit

/-- lo ≤ x ≤ hi. -/
def inB (lo x hi : Int) : Bool := decide (lo ≤ x ∧ x ≤ hi)
theorem inB_iff (lo x hi : Int) : inB lo x hi = true ↔ lo ≤ x ∧ x ≤ hi := by simp [inB]
theorem inB_no (lo x hi : Int) : inB lo x hi = false ↔ ¬ (lo ≤ x ∧ x ≤ hi) := by simp only [inB, decide_eq_false_iff_not]

/-- within. -/
theorem within_any (x lo hi : Int) (w : World) : Calls Try.prog 54 #[.int .i64 x, .int .i64 lo, .int .i64 hi] w fun e w' => e = .returned (.bool (inB lo x hi)) ∧ w = w' := by
  go_enter Try.func54, Try.ntmps54
  go_wp2
  all_goals
    go_ret
    refine ⟨?_, rfl⟩
    simp [inB, *] <;> omega

/-- l01In. -/
theorem l01In_any (x lo hi : Int) (w : World) : Calls Try.prog 127 #[.int .i64 x, .int .i64 lo, .int .i64 hi] w fun e w' => e = .returned (.bool (inB lo x hi)) ∧ w = w' := by
  go_enter Try.func127, Try.ntmps127
  go_wp2
  all_goals
    go_ret
    refine ⟨?_, rfl⟩
    simp [inB, *] <;> omega

theorem okRc_no {r : Rc} (h : ¬ (-40 ≤ r.x0 ∧ r.x0 < r.x1 ∧ r.x1 ≤ 40 ∧ -40 ≤ r.y0 ∧ r.y0 < r.y1 ∧ r.y1 ≤ 40)) : okRc r = false := decide_eq_false h
theorem okRc_yes {r : Rc} (h : -40 ≤ r.x0 ∧ r.x0 < r.x1 ∧ r.x1 ≤ 40 ∧ -40 ≤ r.y0 ∧ r.y0 < r.y1 ∧ r.y1 ≤ 40) : okRc r = true := decide_eq_true h
theorem ret_bool {a b : Bool} (h : a = b) : Ending.returned (.bool a) = .returned (.bool b) := by rw [h]

/-- The program's IsValidRect. -/
theorem valid_impl (r : Rc) (w : World) : Calls Try.prog 98 #[r.val] w fun e w' => e = .returned (.bool (okRc r)) ∧ Below w.heap.size w w' := by
  obtain ⟨x0, y0, x1, y1⟩ := r
  unfold Rc.val
  go_enter Try.func98, Try.ntmps98
  go_wp2
  all_goals
    go_ret
    refine ⟨ret_bool ?_, (Below.refl _ _).alloc (Nat.le_refl _) _⟩
    simp [okRc, *] <;> omega

/-- The reference's IsValidRect. -/
theorem valid_spec (r : Rc) (w : World) : Calls Try.prog 114 #[r.val] w fun e w' => e = .returned (.bool (okRc r)) ∧ Below w.heap.size w w' := by
  obtain ⟨x0, y0, x1, y1⟩ := r
  unfold Rc.val
  go_enter Try.func114, Try.ntmps114
  go_wp2
  all_goals
    go_ret
    refine ⟨ret_bool ?_, (Below.refl _ _).alloc (Nat.le_refl _) _⟩
    simp [okRc, *] <;> omega

/-- A box of four cells. -/
theorem box4 {w : World} {g : Nat} {t : TypeId} {a b c d : Value} (h : Bk w g t #[a, b, c, d]) : w.cell? ⟨g, 0, none⟩ = some a ∧ w.cell? ⟨g, 1, none⟩ = some b ∧ w.cell? ⟨g, 2, none⟩ = some c ∧ w.cell? ⟨g, 3, none⟩ = some d :=
  ⟨h.cell 0, h.cell 1, h.cell 2, h.cell 3⟩
theorem box2 {w : World} {g : Nat} {t : TypeId} {a b : Value} (h : Bk w g t #[a, b]) : w.cell? ⟨g, 0, none⟩ = some a ∧ w.cell? ⟨g, 1, none⟩ = some b := ⟨h.cell 0, h.cell 1⟩

theorem area_spec (r : Rc) (h : okRc r = true) (w : World) : Calls Try.prog 89 #[r.val] w fun e w' => e = .returned (.int .i64 (areaR r)) ∧ Below w.heap.size w w' := by
  have hb := areaR_bounds h
  have hh := (okRc_iff r).1 h
  obtain ⟨x0, y0, x1, y1⟩ := r
  unfold Rc.val
  unfold areaR at hb ⊢
  dsimp only at hb hh ⊢
  go_enter Try.func89, Try.ntmps89
  go_wp2_with (go_at_call 114; refine (valid_spec ⟨x0, y0, x1, y1⟩ _).mono ?_; rintro e w1 ⟨rfl, hb1⟩; obtain ⟨c0, c1, c2, c3⟩ := box4 ((Bk.new w _ _).on hb1))
  go_ret
  exact ⟨rfl, ((Below.refl _ _).alloc (Nat.le_refl _) _).trans (hb1.mono (by simp))⟩

/-- .. of a rectangle that isn't valid. -/
theorem area_spec_no (r : Rc) (h : okRc r = false) (w : World) : Calls Try.prog 89 #[r.val] w fun e w' => e = .returned (.int .i64 (-1)) ∧ Below w.heap.size w w' := by
  obtain ⟨x0, y0, x1, y1⟩ := r
  unfold Rc.val
  dsimp only
  go_enter Try.func89, Try.ntmps89
  go_wp2_with (go_at_call 114; refine (valid_spec ⟨x0, y0, x1, y1⟩ _).mono ?_; rintro e w1 ⟨rfl, hb1⟩)
  go_ret
  exact ⟨rfl, ((Below.refl _ _).alloc (Nat.le_refl _) _).trans (hb1.mono (by simp))⟩

theorem area_impl (r : Rc) (h : okRc r = true) (w : World) : Calls Try.prog 57 #[r.val] w fun e w' => e = .returned (.int .i64 (areaR r)) ∧ Below w.heap.size w w' := by
  have hb := areaR_bounds h
  have hh := (okRc_iff r).1 h
  obtain ⟨x0, y0, x1, y1⟩ := r
  unfold Rc.val
  unfold areaR at hb ⊢
  dsimp only at hb hh ⊢
  go_enter Try.func57, Try.ntmps57
  go_wp2
  go_ret
  exact ⟨rfl, (Below.refl _ _).alloc (Nat.le_refl _) _⟩

/-! ## The index of a unit cell -/

theorem l03At_any (x y : Int) (h : -1000 ≤ x ∧ x ≤ 1000 ∧ -1000 ≤ y ∧ y ≤ 1000) (w : World) : Calls Try.prog 91 #[.int .i64 x, .int .i64 y] w fun e w' => e = .returned (.int .i64 (ix x y)) ∧ w = w' := by
  unfold ix
  go_enter Try.func91, Try.ntmps91
  go_wp2
  go_ret
  exact ⟨rfl, rfl⟩

theorem l17At_any (x y : Int) (h : -1000 ≤ x ∧ x ≤ 1000 ∧ -1000 ≤ y ∧ y ≤ 1000) (w : World) : Calls Try.prog 92 #[.int .i64 x, .int .i64 y] w fun e w' => e = .returned (.int .i64 (ix x y)) ∧ w = w' := by
  unfold ix
  go_enter Try.func92, Try.ntmps92
  go_wp2
  go_ret
  exact ⟨rfl, rfl⟩

theorem l17Inside_any (x y : Int) (w : World) : Calls Try.prog 121 #[.int .i64 x, .int .i64 y] w fun e w' => e = .returned (.bool (onC x y)) ∧ w = w' := by
  go_enter Try.func121, Try.ntmps121
  go_wp2
  all_goals
    go_ret
    refine ⟨ret_bool ?_, rfl⟩
    rw [Bool.eq_iff_iff]
    simp [onC, *] <;> omega

/-- A set of flags that a slice leads to, in a block from B on. -/
def GS (w : World) (B : Nat) (v : Value) (G : Gr) : Prop := ∃ g c, v = .slice (some ⟨g, 0, none⟩) 6400 c ∧ B ≤ g ∧ GB w g 4 G
theorem GS.on {w w' : World} {B : Nat} {v : Value} {G : Gr} (h : GS w B v G) (hb : Below w.heap.size w w') : GS w' B v G := let ⟨g, c, hv, hB, h1⟩ := h; ⟨g, c, hv, hB, h1.on hb⟩
theorem GS.less {w : World} {B B' : Nat} {v : Value} {G : Gr} (h : GS w B v G) (hB' : B' ≤ B) : GS w B' v G := let ⟨g, c, hv, hB, h1⟩ := h; ⟨g, c, hv, Nat.le_trans hB' hB, h1⟩

/-- isUnitCell. -/
theorem isUnitCell_any (x y : Int) (w : World) : Calls Try.prog 122 #[.agg #[.int .i64 x, .int .i64 y]] w fun e w' => e = .returned (.bool (onC x y)) ∧ Below w.heap.size w w' := by
  have h0 : Below w.heap.size w (w.alloc (.cells #[.int .i64 x, .int .i64 y] 91)) := (Below.refl _ _).alloc (Nat.le_refl _) _
  by_cases hx : inB (-40) x 39 = true
  · go_enter Try.func122, Try.ntmps122
    go_wp2_with (go_at_call 54; refine (within_any _ _ _ _).mono ?_; rintro e w' ⟨rfl, rfl⟩)
    go_ret
    refine ⟨ret_bool ?_, h0⟩
    rw [inB_iff] at hx
    simp [onC, inB, hx]
  · have hx' : inB (-40) x 39 = false := by simpa using hx
    clear hx
    go_enter Try.func122, Try.ntmps122
    go_wp2_with (go_at_call 54; refine (within_any _ _ _ _).mono ?_; rintro e w' ⟨rfl, rfl⟩)
    go_ret
    refine ⟨ret_bool ?_, h0⟩
    have h9 := (inB_no _ _ _).1 hx'
    exact (onC_no (by omega)).symm

theorem onC_of_in {x y : Int} : inB (-40) x 39 = true → inB (-40) y 39 = true → onC x y = true := by
  intro h1 h2
  rw [inB_iff] at h1 h2
  rw [onC_iff]
  omega

theorem GB.at_ {w : World} {g : Nat} {t : TypeId} {G : Gr} (h : GB w g t G) {x y : Int} (hc : onC x y = true) : w.cell? ⟨g, (y + 40).toNat * 80 + (x + 40).toNat, none⟩ = some (.bool (G (ix x y).toNat)) := by
  obtain ⟨e, hl⟩ := ix_nat hc
  rw [e]
  exact h.cell hl
/-- has. -/
theorem has_any (g : Nat) (G : Gr) (x y : Int) (w : World) (hG : GB w g 62 G) :
    Calls Try.prog 108 #[.pointer (some ⟨g, 0, none⟩), .int .i64 x, .int .i64 y] w fun e w' => e = .returned (.bool (hasG G x y)) ∧ Below w.heap.size w w' := by
  by_cases h : onC x y = true
  · have hh := (onC_iff x y).1 h
    go_enter Try.func108, Try.ntmps108
    go_wp2_with (go_at_call 122; refine (isUnitCell_any x y _).mono ?_; rintro e w1 ⟨rfl, hb1⟩; have hc := (hG.on hb1).at_ h)
    go_ret
    exact ⟨ret_bool (hasG_on h).symm, hb1⟩
  · have h' : onC x y = false := by simpa using h
    clear h
    go_enter Try.func108, Try.ntmps108
    go_wp2_with (go_at_call 122; refine (isUnitCell_any x y _).mono ?_; rintro e w1 ⟨rfl, hb1⟩)
    go_ret
    exact ⟨ret_bool (hasG_off h').symm, hb1⟩

/-- The flag of a unit cell, as the reference reckons its index. -/
theorem GB.ix_ {w : World} {g : Nat} {G : Gr} (h : GB w g 4 G) {x y : Int} (hc : onC x y = true) : w.cell? ⟨g, (ix x y).toNat, none⟩ = some (.bool (G (ix x y).toNat)) := by
  obtain ⟨e, hl⟩ := ix_nat hc
  rw [← e] at hl
  exact h.cell hl

/-- l03Has. -/
theorem l03Has_any (v : Value) (G : Gr) (x y : Int) (w : World) (hG : GS w 0 v G) :
    Calls Try.prog 115 #[v, .int .i64 x, .int .i64 y] w fun e w' => e = .returned (.bool (hasG G x y)) ∧ w = w' := by
  obtain ⟨g, c, rfl, -, hg⟩ := hG
  by_cases h : onC x y = true
  · have hh := (onC_iff x y).1 h
    have hi1 : inB (-40) x 39 = true := (inB_iff _ _ _).2 (by omega)
    have hi2 : inB (-40) y 39 = true := (inB_iff _ _ _).2 (by omega)
    have hc := hg.ix_ h
    have hb : 0 ≤ ix x y ∧ ix x y < 6400 := by unfold ix; omega
    have Hh := Lib.hid h
    clear h hg
    go_enter Try.func115, Try.ntmps115
    go_wp2_with (first | (go_at_call 127; refine (l01In_any _ _ _ _).mono ?_; rintro e w1 ⟨rfl, rfl⟩) | (go_at_call 91; refine (l03At_any x y (by omega) _).mono ?_; rintro e w1 ⟨rfl, rfl⟩))
    go_ret
    exact ⟨ret_bool (hasG_on Hh.out).symm, rfl⟩
  · have h' : onC x y = false := by simpa using h
    clear h
    by_cases hx : inB (-40) x 39 = true
    · have hy : inB (-40) y 39 = false := by
        rw [inB_no]
        rw [inB_iff] at hx
        intro hy
        rw [(onC_iff x y).2 (by omega)] at h'
        cases h'
      go_enter Try.func115, Try.ntmps115
      go_wp2_with (go_at_call 127; refine (l01In_any _ _ _ _).mono ?_; rintro e w1 ⟨rfl, rfl⟩)
      go_ret
      exact ⟨ret_bool (hasG_off h').symm, rfl⟩
    · have hx' : inB (-40) x 39 = false := by simpa using hx
      clear hx
      go_enter Try.func115, Try.ntmps115
      go_wp2_with (go_at_call 127; refine (l01In_any _ _ _ _).mono ?_; rintro e w1 ⟨rfl, rfl⟩)
      go_ret
      exact ⟨ret_bool (hasG_off h').symm, rfl⟩

/-- l17Cell. -/
theorem l17Cell_any (v : Value) (G : Gr) (x y : Int) (w : World) (hG : GS w 0 v G) :
    Calls Try.prog 105 #[v, .int .i64 x, .int .i64 y] w fun e w' => e = .returned (.bool (hasG G x y)) ∧ w = w' := by
  obtain ⟨g, c, rfl, -, hg⟩ := hG
  by_cases h : onC x y = true
  · have hh := (onC_iff x y).1 h
    have hc := hg.ix_ h
    have hb : 0 ≤ ix x y ∧ ix x y < 6400 := by unfold ix; omega
    clear hg
    go_enter Try.func105, Try.ntmps105
    go_wp2_with (first | (go_at_call 121; refine (l17Inside_any _ _ _).mono ?_; rintro e w1 ⟨rfl, rfl⟩) | (go_at_call 92; refine (l17At_any x y (by omega) _).mono ?_; rintro e w1 ⟨rfl, rfl⟩))
    go_ret
    exact ⟨ret_bool (hasG_on h).symm, rfl⟩
  · have h' : onC x y = false := by simpa using h
    clear h
    go_enter Try.func105, Try.ntmps105
    go_wp2_with (go_at_call 121; refine (l17Inside_any _ _ _).mono ?_; rintro e w1 ⟨rfl, rfl⟩)
    go_ret
    exact ⟨ret_bool (hasG_off h').symm, rfl⟩

end Go.Proofs.Ythifinolgbjekaa
