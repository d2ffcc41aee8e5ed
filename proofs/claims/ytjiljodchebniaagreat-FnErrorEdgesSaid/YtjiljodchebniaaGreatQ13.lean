/- Plain law: the markers of short runs or gaps against the smallest, the witness and the cells. No conditions. Contract: w9Covered. Condition: valid rectangles. Plain law: markers by cells, spacing of two regions. No conditions. -/
import Derived.Test.YtjiljodchebniaaGreatQ01
import Derived.Test.YtjiljodchebniaaGreatQ05
import Derived.Test.YtjiljodchebniaaGreatQ12
import Derived.Test.YtjiljodchebniaaGreatQ07
import Derived.Deep.CutRange
import Derived.Deep.RegionHeld
import Derived.Test.YtjiljodchebniaaGreatQ06
import Derived.Test.YtjiljodchebniaaGreatQ11

namespace Go.Proofs.YtjiljodchebniaaGreat
open Go.RowKit

theorem sumI_one (a : Int) : ∀ n : Nat, sumI (fun _ => 1) a n = n
  | 0 => rfl
  | n + 1 => by simp only [sumI, sumI_one a n]; omega
theorem sumI_same (c a : Int) : ∀ n : Nat, sumI (fun _ => c) a n = c * n
  | 0 => by simp [sumI]
  | n + 1 => by
    simp only [sumI, sumI_same c a n, Int.natCast_add, Int.mul_add]
    omega
/-- A box all of whose cells belong to the set. -/
theorem cover_full {G : Gr} {r : Rc} (hr : okRc r = true) (h : ∀ i, i < 6400 → inR r i = true → G i = true) : coverG G r = areaR r := by
  have hb := (okRc_iff r).1 hr
  unfold coverG boxC rowC
  have e1 : sumI (fun y => sumI (fun x => oneG G (ix x y).toNat) r.x0 (r.x1 - r.x0).toNat) r.y0 (r.y1 - r.y0).toNat = sumI (fun _ => (((r.x1 - r.x0).toNat : Nat) : Int)) r.y0 (r.y1 - r.y0).toNat := by
    refine sumI_congr _ fun y h1 h2 => ?_
    rw [← sumI_one r.x0]
    refine sumI_congr _ fun x h3 h4 => ?_
    unfold oneG
    rw [if_pos (h _ (by unfold ix; omega) ((inR_iff _ _).2 (by unfold ix; omega)))]
  rw [e1, sumI_same]
  unfold areaR
  have a1 : (((r.x1 - r.x0).toNat : Nat) : Int) = r.x1 - r.x0 := by omega
  have a2 : (((r.y1 - r.y0).toNat : Nat) : Int) = r.y1 - r.y0 := by omega
  rw [a1, a2]
theorem okAll_in {rs : List Rc} (h : okAll rs = true) {r : Rc} (hr : r ∈ rs) : okRc r = true := by
  rw [okAll, List.all_eq_true] at h
  exact h r hr
theorem first_cell {r : Rc} (h : okRc r = true) : ∃ i, i < 6400 ∧ inR r i = true := by
  have hb := (okRc_iff r).1 h
  exact ⟨(ix r.x0 r.y0).toNat, by unfold ix; omega, (inR_iff _ _).2 (by unfold ix; omega)⟩
theorem short_mem {R : List Rc} {d : Int} {i : Nat} : shortG R d i = true ↔ ∃ r, r ∈ R ∧ areaR r < d ∧ inR r i = true := by
  unfold shortG
  rw [cellsG_iff]
  constructor
  · rintro ⟨r, hr, h⟩
    rw [List.mem_filter] at hr
    exact ⟨r, hr.1, of_decide_eq_true hr.2, h⟩
  · rintro ⟨r, h1, h2, h3⟩
    exact ⟨r, List.mem_filter.2 ⟨h1, decide_eq_true h2⟩, h3⟩
theorem short_none {R : List Rc} {d : Int} (hok : okAll R = true) : canon (shortG R d) = [] ↔ ∀ r ∈ R, d ≤ areaR r := by
  rw [canon_nil_iff]
  constructor
  · intro h r hr
    rcases Int.lt_or_le (areaR r) d with hc | hc
    · obtain ⟨i, hi, h1⟩ := first_cell (okAll_in hok hr)
      have := h i hi
      rw [short_mem.2 ⟨r, hr, hc, h1⟩] at this
      cases this
    · exact hc
  · intro h i _
    rw [Bool.eq_false_iff]
    intro hs
    obtain ⟨r, h1, h2, _⟩ := short_mem.1 hs
    have := h r h1
    omega
theorem fold_iff {d : Int} : ∀ (R : List Rc) (m : Int), (∀ r ∈ R, 1 ≤ areaR r) → 1 ≤ m → (d ≤ R.foldl minStep m ↔ d ≤ m ∧ ∀ r ∈ R, d ≤ areaR r)
  | [], m, _, _ => by simp
  | r :: R, m, hR, hm => by
    have h1 := hR r (by simp)
    rw [List.foldl_cons, fold_iff R _ (fun q hq => hR q (by simp [hq])) (by unfold minStep; split <;> omega)]
    unfold minStep
    constructor
    · rintro ⟨h2, h3⟩
      refine ⟨by split at h2 <;> omega, fun q hq => ?_⟩
      rcases List.mem_cons.1 hq with rfl | hq
      · split at h2 <;> omega
      · exact h3 q hq
    · rintro ⟨h2, h3⟩
      have := h3 r (by simp)
      exact ⟨by split <;> omega, fun q hq => h3 q (by simp [hq])⟩
theorem area_pos {R : List Rc} (hok : okAll R = true) : ∀ r ∈ R, 1 ≤ areaR r := fun _ hr => (areaR_bounds (okAll_in hok hr)).1
theorem min_iff {R : List Rc} {d : Int} (hok : okAll R = true) (hne : R ≠ []) : d ≤ minA R ↔ ∀ r ∈ R, d ≤ areaR r := by
  cases R with
  | nil => exact absurd rfl hne
  | cons r R =>
    have hp := area_pos hok
    unfold minA
    rw [List.foldl_cons]
    have e : minStep 0 r = areaR r := if_pos (.inl rfl)
    rw [e, fold_iff R _ (fun q hq => hp q (by simp [hq])) (hp r (by simp))]
    simp
theorem first_is {R : List Rc} {d : Int} {r : Rc} (h : firstA R d = some r) : r ∈ R ∧ areaR r < d := by
  unfold firstA at h
  exact ⟨List.mem_of_find?_eq_some h, by simpa using List.find?_some h⟩
theorem first_none {R : List Rc} {d : Int} : firstA R d = none ↔ ∀ r ∈ R, d ≤ areaR r := by
  unfold firstA
  rw [List.find?_eq_none]
  constructor
  · intro h r hr
    have := h r hr
    simp at this
    exact this
  · intro h r hr
    have := h r hr
    simp
    exact this
/-- A short run is covered by the markers. -/
theorem short_cover {R : List Rc} {d : Int} {r : Rc} (hok : okAll R = true) (hr : r ∈ R) (hd : areaR r < d) : covV (canon (shortG R d)) r = areaR r := by
  rw [covV_yes (isReg_canon _) (okAll_in hok hr)]
  exact cover_full (okAll_in hok hr) fun i hi h1 => by rw [cells_canon _ i hi]; exact short_mem.2 ⟨r, hr, hd, h1⟩
/-- All cells of a region belong to another one. -/
def w9V (a b : List Rc) : Bool := a.all fun r => covV b r == areaR r
theorem w9V_sub {a b : List Rc} (ha : okAll a = true) (hb : isReg b = true) (h : ∀ i, i < 6400 → cellsG a i = true → cellsG b i = true) : w9V a b = true := by
  unfold w9V
  rw [List.all_eq_true]
  intro r hr
  have hrok := okAll_in ha hr
  rw [covV_yes hb hrok, cover_full hrok fun i hi h1 => h i hi ((cellsG_iff _ _).2 ⟨r, hr, h1⟩)]
  simp
theorem short_more {R : List Rc} {d e : Int} (h : d ≤ e) {i : Nat} (hs : shortG R d i = true) : shortG R e i = true := by
  obtain ⟨r, h1, h2, h3⟩ := short_mem.1 hs
  exact short_mem.2 ⟨r, h1, by omega, h3⟩
/-- The smallest is none exactly if there is none. -/
theorem min_zero {R : List Rc} (hok : okAll R = true) : minA R = 0 ↔ R = [] := by
  constructor
  · intro h
    rcases R with _ | ⟨r, R⟩
    · rfl
    · have := (minA_bounds hok).2.2 (by simp)
      omega
  · rintro rfl; rfl
theorem lim_iff {R : List Rc} {d : Int} (hok : okAll R = true) : canon (shortG R d) = [] ↔ R = [] ∨ d ≤ minA R := by
  rw [short_none hok]
  by_cases hne : R = []
  · subst hne; simp
  · rw [min_iff hok hne]
    simp [hne]
/-- The runs' cells are the region's. -/
theorem all_in {G : Gr} {r : Rc} (hr : r ∈ allG G) {i : Nat} (hi : i < 6400) (h : inR r i = true) : G i = true := by
  rcases List.mem_append.1 hr with hr | hr
  · exact (run_at hr hi h).1
  · exact (run_at hr hi h).1
theorem all_nil {rs : List Rc} (h : isReg rs = true) : allG (cellsG rs) = [] ↔ rs = [] := by
  have e := canon_of_reg h
  unfold allG
  rw [List.append_eq_nil_iff, runs_nil_iff, runs_nil_iff, and_self, ← canon_nil_iff, e]

end Go.Proofs.YtjiljodchebniaaGreat

namespace Go.Proofs.YtjiljodchebniaaGreat
open Go.RowKit

theorem w9V_start (a b : List Rc) : w9V (a.drop 0) b = w9V a b := by rw [List.drop_zero]
theorem w9V_next {a b : List Rc} {k : Nat} {r : Rc} (h : a[k]? = some r) : w9V (a.drop k) b = (covV b r == areaR r && w9V (a.drop (k + 1)) b) := by
  obtain ⟨hk, rfl⟩ := List.getElem?_eq_some_iff.1 h
  unfold w9V
  rw [List.drop_eq_getElem_cons hk, List.all_cons]
theorem w9V_end {a b : List Rc} {k : Nat} (h : a.length ≤ k) : w9V (a.drop k) b = true := by rw [List.drop_eq_nil_of_le h]; rfl

end Go.Proofs.YtjiljodchebniaaGreat

namespace Go.Proofs.YtjiljodchebniaaGreat

theorem short_app (A B : List Rc) (d : Int) : shortG (A ++ B) d = unionG (shortG A d) (shortG B d) := by
  unfold shortG
  rw [List.filter_append, cellsG_append]
theorem onC_ix {x y : Int} (h : onC x y = true) : (ix x y).toNat < 6400 := by
  have := ix_nat h; omega
theorem hasG_same {G H : Gr} (h : sameG G H) (x y : Int) : hasG G x y = hasG H x y := by
  unfold hasG
  cases hc : onC x y with
  | false => rfl
  | true => rw [h _ (onC_ix hc)]
theorem hasG_canon (G : Gr) (x y : Int) : hasG (cellsG (canon G)) x y = hasG G x y := hasG_same (cells_canon G) x y
/-- The runs of a list that stand a test and are too short. -/
theorem short_filter {G : Gr} {vert : Bool} {p : Rc → Bool} {d : Int} {i : Nat} (hi : i < 6400) : shortG ((runsG G vert).filter p) d i = true ↔ G i = true ∧ areaR (runAt G vert i) < d ∧ p (runAt G vert i) = true := by
  rw [short_mem]
  constructor
  · rintro ⟨r, hr, hd, h⟩
    rw [List.mem_filter] at hr
    obtain ⟨hG, rfl⟩ := run_at hr.1 hi h
    exact ⟨hG, hd, hr.2⟩
  · rintro ⟨hG, hd, hp⟩
    exact ⟨_, List.mem_filter.2 ⟨runAt_mem hi hG, hp⟩, hd, runAt_in hi hG⟩
theorem hasG_yes {G : Gr} {x y : Int} (h : hasG G x y = true) : onC x y = true ∧ G (ix x y).toNat = true := by
  simpa [hasG] using h

/-- FnWidthMarks: the cells marked. -/
theorem mark_in {G : Gr} {x y d : Int} (h : hasG G x y = true) : hasG (shortG (allG G) d) x y = (decide (areaR (runR G x y false) < d) || decide (areaR (runR G x y true) < d)) := by
  obtain ⟨hc, hG⟩ := hasG_yes h
  have hi := onC_ix hc
  rw [hasG_on hc, runAt_runR h, runAt_runR h, allG, short_app]
  rw [Bool.eq_iff_iff]
  unfold unionG
  rw [Bool.or_eq_true, Bool.or_eq_true, short_runs hi, short_runs hi, decide_eq_true_iff, decide_eq_true_iff]
  simp [hG]
theorem mark_out {G : Gr} {x y d : Int} (h : hasG G x y = false) : hasG (shortG (allG G) d) x y = false := by
  rw [Bool.eq_false_iff]
  intro hm
  obtain ⟨hc, hm⟩ := hasG_yes hm
  have hi := onC_ix hc
  rw [hasG_on hc] at h
  rw [allG, short_app] at hm
  unfold unionG at hm
  rw [Bool.or_eq_true, short_runs hi, short_runs hi, h] at hm
  simp at hm
/-- FnSpacingMarks: the cells marked. -/
theorem gap_in {G : Gr} {x y d : Int} (hc : onC x y = true) (h : hasG G x y = false) : hasG (shortG (allGaps G) d) x y =
    ((decide (areaR (runR (notG G) x y false) < d) && hasG G ((runR (notG G) x y false).x0 - 1) (runR (notG G) x y false).y0 && hasG G (runR (notG G) x y false).x1 (runR (notG G) x y false).y0) ||
     (decide (areaR (runR (notG G) x y true) < d) && hasG G (runR (notG G) x y true).x0 ((runR (notG G) x y true).y0 - 1) && hasG G (runR (notG G) x y true).x0 (runR (notG G) x y true).y1)) := by
  have hn : hasG (notG G) x y = true := by rw [hasG_not hc, h]; rfl
  have hN := (hasG_yes hn).2
  have hi := onC_ix hc
  have e := runAt_mem (G := notG G) (vert := false) hi hN
  have e' := runAt_mem (G := notG G) (vert := true) hi hN
  rw [hasG_on hc, runAt_runR hn, runAt_runR hn, allGaps, short_app]
  rw [Bool.eq_iff_iff]
  unfold unionG gapsG
  rw [Bool.or_eq_true, Bool.or_eq_true, short_filter hi, short_filter hi, ← gap_ends e, ← gap_ends e']
  unfold endsG
  simp only [if_true, Bool.false_eq_true, if_false, Bool.or_self, Bool.and_eq_true, decide_eq_true_iff, hN, true_and, and_assoc]
theorem gap_out {G : Gr} {x y d : Int} (h : hasG G x y = true) : hasG (shortG (allGaps G) d) x y = false := by
  rw [Bool.eq_false_iff]
  intro hm
  obtain ⟨hc, hm⟩ := hasG_yes hm
  have hi := onC_ix hc
  have hG := (hasG_yes h).2
  rw [allGaps, short_app] at hm
  unfold unionG gapsG at hm
  rw [Bool.or_eq_true, short_filter hi, short_filter hi] at hm
  unfold notG at hm
  rw [hG] at hm
  simp at hm
/-- FnRuns: a run is the run through its first cell. -/
theorem run_first {G : Gr} {vert : Bool} {r : Rc} (hr : r ∈ runsG G vert) : hasG G r.x0 r.y0 = true ∧ runR G r.x0 r.y0 vert = r := by
  have hok := okAll_in (runsG_ok G vert) hr
  have hb := (okRc_iff r).1 hok
  have hc : onC r.x0 r.y0 = true := by rw [onC_iff]; omega
  have hi := onC_ix hc
  have hin : inR r (ix r.x0 r.y0).toNat = true := (inR_iff _ _).2 (by unfold ix; omega)
  obtain ⟨hG, e⟩ := run_at hr hi hin
  have hh : hasG G r.x0 r.y0 = true := by rw [hasG_on hc]; exact hG
  exact ⟨hh, by rw [runAt_runR hh]; exact e.symm⟩
theorem reg_nil {rs : List Rc} (h : isReg rs = true) (vert : Bool) : (runsG (cellsG rs) vert).length = 0 ↔ rs.length = 0 := by
  rw [List.length_eq_zero_iff, List.length_eq_zero_iff, runs_nil_iff, ← canon_nil_iff, canon_of_reg h]

/-! ## Two regions -/
theorem union_comm (A B : Gr) : unionG A B = unionG B A := by funext i; unfold unionG; rw [Bool.or_comm]
theorem inter_comm (A B : Gr) : interG A B = interG B A := by funext i; unfold interG; rw [Bool.and_comm]
theorem ends_comm (A B : Gr) (vert : Bool) (r : Rc) : endsG A B vert r = endsG B A vert r := by
  unfold endsG
  split <;> rw [Bool.or_comm]
theorem btw_comm (A B : Gr) : allBtw A B = allBtw B A := by
  have e : ∀ v, btwG A B v = btwG B A v := fun v => by
    unfold btwG
    rw [union_comm]
    exact List.filter_congr fun r _ => ends_comm A B v r
  unfold allBtw
  rw [e, e]
theorem meet_comm (A B : Gr) : meetG A B = meetG B A := by
  unfold meetG
  congr 1
  funext i
  rw [Bool.and_comm]
theorem meet_iff (A B : Gr) : meetG A B = true ↔ ∃ i, i < 6400 ∧ A i = true ∧ B i = true := by
  unfold meetG
  rw [List.any_eq_true]
  simp only [List.mem_range, Bool.and_eq_true]
/-- The markers are none exactly if the least distance is none or long enough. -/
theorem btw_lim {A B : Gr} {d : Int} : canon (unionG (shortG (allBtw A B) d) (interG A B)) = [] ↔ meetG A B = false ∧ ((allBtw A B).length = 0 ∨ d ≤ minA (allBtw A B)) := by
  rw [canon_nil_iff]
  have hl := lim_iff (R := allBtw A B) (d := d) (allBtw_ok A B)
  rw [canon_nil_iff] at hl
  rw [List.length_eq_zero_iff, ← hl]
  constructor
  · intro h
    refine ⟨?_, fun i hi => ?_⟩
    · rw [Bool.eq_false_iff]
      intro hm
      obtain ⟨i, hi, h1, h2⟩ := (meet_iff A B).1 hm
      have := h i hi
      unfold unionG interG at this
      rw [h1, h2] at this
      simp at this
    · have := h i hi
      unfold unionG at this
      rw [Bool.or_eq_false_iff] at this
      exact this.1
  · rintro ⟨hm, h⟩ i hi
    unfold unionG interG
    rw [h i hi, Bool.false_or, Bool.eq_false_iff]
    intro hc
    rw [Bool.and_eq_true] at hc
    rw [(meet_iff A B).2 ⟨i, hi, hc.1, hc.2⟩] at hm
    cases hm

/-! ## Counting -/
theorem count_disj {P Q : Gr} (h : ∀ i, i < 6400 → (P i && Q i) = false) : countG (unionG P Q) = countG P + countG Q := by
  unfold countG coverG
  rw [← boxC_add]
  refine boxC_congr (by decide) (by decide) fun i hi => ?_
  have := h i hi
  unfold oneG unionG
  revert this
  cases P i <;> cases Q i <;> simp
theorem count_empty : countG emptyG = 0 := by
  have := count_canon emptyG
  have e : canon emptyG = [] := (canon_nil_iff _).2 fun i _ => rfl
  rw [e] at this
  exact this.symm
/-- A gap's cells are none of the region's. -/
theorem gaps_apart (G : Gr) (d : Int) : ∀ i, i < 6400 → (shortG (allGaps G) d i && G i) = false := by
  intro i hi
  rw [Bool.eq_false_iff]
  intro h
  rw [Bool.and_eq_true, allGaps, short_app] at h
  obtain ⟨h1, h2⟩ := h
  unfold unionG gapsG at h1
  rw [Bool.or_eq_true, short_filter hi, short_filter hi] at h1
  unfold notG at h1
  rw [h2] at h1
  simp at h1
end Go.Proofs.YtjiljodchebniaaGreat
