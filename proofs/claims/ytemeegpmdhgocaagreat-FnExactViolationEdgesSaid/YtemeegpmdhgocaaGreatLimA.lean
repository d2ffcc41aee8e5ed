/- Plain law: the markers of short runs or gaps against the smallest, the witness and the cells. No conditions. Contract: w9Covered. Condition: valid rectangles. -/
import Derived.Test.YtemeegpmdhgocaaGreatMathA
import Derived.Test.YtemeegpmdhgocaaGreatWidthA
import Derived.Test.YtemeegpmdhgocaaGreatCovA
import Derived.Test.YtemeegpmdhgocaaGreatDensA
import Derived.Test.YtemeegpmdhgocaaGreatDrawK
import Derived.Deep.CutRange
import Derived.Deep.RegionHeld
namespace Go.Proofs.YtemeegpmdhgocaaGreat
open Go.RowKit

theorem sumI_one (a : Int) : ∀ n : Nat, sumI (fun _ => 1) a n = n
  | 0 => rfl
  | n + 1 => by simp only [sumI, sumI_one a n]; omega
theorem sumI_same (c a : Int) : ∀ n : Nat, sumI (fun _ => c) a n = c * n
  | 0 => by simp [sumI]
  | n + 1 => by
    simp only [sumI, sumI_same c a n, Int.natCast_add, Int.mul_add]
    omega
/-- A box all of whose cells belong to the set. -/
theorem cover_full {G : Gr} {r : Rc} (hr : okRc r = true) (h : ∀ i, i < 6400 → inR r i = true → G i = true) : coverG G r = areaR r := by
  have hb := (okRc_iff r).1 hr
  unfold coverG boxC rowC
  have e1 : sumI (fun y => sumI (fun x => oneG G (ix x y).toNat) r.x0 (r.x1 - r.x0).toNat) r.y0 (r.y1 - r.y0).toNat = sumI (fun _ => (((r.x1 - r.x0).toNat : Nat) : Int)) r.y0 (r.y1 - r.y0).toNat := by
    refine sumI_congr _ fun y h1 h2 => ?_
    rw [← sumI_one r.x0]
    refine sumI_congr _ fun x h3 h4 => ?_
    unfold oneG
    rw [if_pos (h _ (by unfold ix; omega) ((inR_iff _ _).2 (by unfold ix; omega)))]
  rw [e1, sumI_same]
  unfold areaR
  have a1 : (((r.x1 - r.x0).toNat : Nat) : Int) = r.x1 - r.x0 := by omega
  have a2 : (((r.y1 - r.y0).toNat : Nat) : Int) = r.y1 - r.y0 := by omega
  rw [a1, a2]
theorem okAll_in {rs : List Rc} (h : okAll rs = true) {r : Rc} (hr : r ∈ rs) : okRc r = true := by
  rw [okAll, List.all_eq_true] at h
  exact h r hr
theorem first_cell {r : Rc} (h : okRc r = true) : ∃ i, i < 6400 ∧ inR r i = true := by
  have hb := (okRc_iff r).1 h
  exact ⟨(ix r.x0 r.y0).toNat, by unfold ix; omega, (inR_iff _ _).2 (by unfold ix; omega)⟩
theorem short_mem {R : List Rc} {d : Int} {i : Nat} : shortG R d i = true ↔ ∃ r, r ∈ R ∧ areaR r < d ∧ inR r i = true := by
  unfold shortG
  rw [cellsG_iff]
  constructor
  · rintro ⟨r, hr, h⟩
    rw [List.mem_filter] at hr
    exact ⟨r, hr.1, of_decide_eq_true hr.2, h⟩
  · rintro ⟨r, h1, h2, h3⟩
    exact ⟨r, List.mem_filter.2 ⟨h1, decide_eq_true h2⟩, h3⟩
theorem short_none {R : List Rc} {d : Int} (hok : okAll R = true) : canon (shortG R d) = [] ↔ ∀ r ∈ R, d ≤ areaR r := by
  rw [canon_nil_iff]
  constructor
  · intro h r hr
    rcases Int.lt_or_le (areaR r) d with hc | hc
    · obtain ⟨i, hi, h1⟩ := first_cell (okAll_in hok hr)
      have := h i hi
      rw [short_mem.2 ⟨r, hr, hc, h1⟩] at this
      cases this
    · exact hc
  · intro h i _
    rw [Bool.eq_false_iff]
    intro hs
    obtain ⟨r, h1, h2, _⟩ := short_mem.1 hs
    have := h r h1
    omega
theorem fold_iff {d : Int} : ∀ (R : List Rc) (m : Int), (∀ r ∈ R, 1 ≤ areaR r) → 1 ≤ m → (d ≤ R.foldl minStep m ↔ d ≤ m ∧ ∀ r ∈ R, d ≤ areaR r)
  | [], m, _, _ => by simp
  | r :: R, m, hR, hm => by
    have h1 := hR r (by simp)
    rw [List.foldl_cons, fold_iff R _ (fun q hq => hR q (by simp [hq])) (by unfold minStep; split <;> omega)]
    unfold minStep
    constructor
    · rintro ⟨h2, h3⟩
      refine ⟨by split at h2 <;> omega, fun q hq => ?_⟩
      rcases List.mem_cons.1 hq with rfl | hq
      · split at h2 <;> omega
      · exact h3 q hq
    · rintro ⟨h2, h3⟩
      have := h3 r (by simp)
      exact ⟨by split <;> omega, fun q hq => h3 q (by simp [hq])⟩
theorem area_pos {R : List Rc} (hok : okAll R = true) : ∀ r ∈ R, 1 ≤ areaR r := fun _ hr => (areaR_bounds (okAll_in hok hr)).1
theorem min_iff {R : List Rc} {d : Int} (hok : okAll R = true) (hne : R ≠ []) : d ≤ minA R ↔ ∀ r ∈ R, d ≤ areaR r := by
  cases R with
  | nil => exact absurd rfl hne
  | cons r R =>
    have hp := area_pos hok
    unfold minA
    rw [List.foldl_cons]
    have e : minStep 0 r = areaR r := if_pos (.inl rfl)
    rw [e, fold_iff R _ (fun q hq => hp q (by simp [hq])) (hp r (by simp))]
    simp
theorem first_is {R : List Rc} {d : Int} {r : Rc} (h : firstA R d = some r) : r ∈ R ∧ areaR r < d := by
  unfold firstA at h
  exact ⟨List.mem_of_find?_eq_some h, by simpa using List.find?_some h⟩
theorem first_none {R : List Rc} {d : Int} : firstA R d = none ↔ ∀ r ∈ R, d ≤ areaR r := by
  unfold firstA
  rw [List.find?_eq_none]
  constructor
  · intro h r hr
    have := h r hr
    simp at this
    exact this
  · intro h r hr
    have := h r hr
    simp
    exact this
/-- A short run is covered by the markers. -/
theorem short_cover {R : List Rc} {d : Int} {r : Rc} (hok : okAll R = true) (hr : r ∈ R) (hd : areaR r < d) : covV (canon (shortG R d)) r = areaR r := by
  rw [covV_yes (isReg_canon _) (okAll_in hok hr)]
  exact cover_full (okAll_in hok hr) fun i hi h1 => by rw [cells_canon _ i hi]; exact short_mem.2 ⟨r, hr, hd, h1⟩
/-- All cells of a region belong to another one. -/
def w9V (a b : List Rc) : Bool := a.all fun r => covV b r == areaR r
theorem w9V_sub {a b : List Rc} (ha : okAll a = true) (hb : isReg b = true) (h : ∀ i, i < 6400 → cellsG a i = true → cellsG b i = true) : w9V a b = true := by
  unfold w9V
  rw [List.all_eq_true]
  intro r hr
  have hrok := okAll_in ha hr
  rw [covV_yes hb hrok, cover_full hrok fun i hi h1 => h i hi ((cellsG_iff _ _).2 ⟨r, hr, h1⟩)]
  simp
theorem short_more {R : List Rc} {d e : Int} (h : d ≤ e) {i : Nat} (hs : shortG R d i = true) : shortG R e i = true := by
  obtain ⟨r, h1, h2, h3⟩ := short_mem.1 hs
  exact short_mem.2 ⟨r, h1, by omega, h3⟩
/-- The smallest is none exactly if there is none. -/
theorem min_zero {R : List Rc} (hok : okAll R = true) : minA R = 0 ↔ R = [] := by
  constructor
  · intro h
    rcases R with _ | ⟨r, R⟩
    · rfl
    · have := (minA_bounds hok).2.2 (by simp)
      omega
  · rintro rfl; rfl
theorem lim_iff {R : List Rc} {d : Int} (hok : okAll R = true) : canon (shortG R d) = [] ↔ R = [] ∨ d ≤ minA R := by
  rw [short_none hok]
  by_cases hne : R = []
  · subst hne; simp
  · rw [min_iff hok hne]
    simp [hne]
/-- The runs' cells are the region's. -/
theorem all_in {G : Gr} {r : Rc} (hr : r ∈ allG G) {i : Nat} (hi : i < 6400) (h : inR r i = true) : G i = true := by
  rcases List.mem_append.1 hr with hr | hr
  · exact (run_at hr hi h).1
  · exact (run_at hr hi h).1
theorem all_nil {rs : List Rc} (h : isReg rs = true) : allG (cellsG rs) = [] ↔ rs = [] := by
  have e := canon_of_reg h
  unfold allG
  rw [List.append_eq_nil_iff, runs_nil_iff, runs_nil_iff, and_self, ← canon_nil_iff, e]

end Go.Proofs.YtemeegpmdhgocaaGreat

namespace Go.Proofs.YtemeegpmdhgocaaGreat
open Go.RowKit

theorem w9V_start (a b : List Rc) : w9V (a.drop 0) b = w9V a b := by rw [List.drop_zero]
theorem w9V_next {a b : List Rc} {k : Nat} {r : Rc} (h : a[k]? = some r) : w9V (a.drop k) b = (covV b r == areaR r && w9V (a.drop (k + 1)) b) := by
  obtain ⟨hk, rfl⟩ := List.getElem?_eq_some_iff.1 h
  unfold w9V
  rw [List.drop_eq_getElem_cons hk, List.all_cons]
theorem w9V_end {a b : List Rc} {k : Nat} (h : a.length ≤ k) : w9V (a.drop k) b = true := by rw [List.drop_eq_nil_of_le h]; rfl

end Go.Proofs.YtemeegpmdhgocaaGreat
