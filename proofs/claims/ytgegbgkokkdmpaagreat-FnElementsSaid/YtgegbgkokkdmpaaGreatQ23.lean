/- Plain law: markers by cells, spacing of two regions. No conditions. -/
import Derived.Test.YtgegbgkokkdmpaaGreatQ06
import Derived.Test.YtgegbgkokkdmpaaGreatQ21
import Derived.Test.YtgegbgkokkdmpaaGreatQ22

namespace Go.Proofs.YtgegbgkokkdmpaaGreat

theorem short_app (A B : List Rc) (d : Int) : shortG (A ++ B) d = unionG (shortG A d) (shortG B d) := by
  unfold shortG
  rw [List.filter_append, cellsG_append]
theorem onC_ix {x y : Int} (h : onC x y = true) : (ix x y).toNat < 6400 := by
  have := ix_nat h; omega
theorem hasG_same {G H : Gr} (h : sameG G H) (x y : Int) : hasG G x y = hasG H x y := by
  unfold hasG
  cases hc : onC x y with
  | false => rfl
  | true => rw [h _ (onC_ix hc)]
theorem hasG_canon (G : Gr) (x y : Int) : hasG (cellsG (canon G)) x y = hasG G x y := hasG_same (cells_canon G) x y
/-- The runs of a list that stand a test and are too short. -/
theorem short_filter {G : Gr} {vert : Bool} {p : Rc → Bool} {d : Int} {i : Nat} (hi : i < 6400) : shortG ((runsG G vert).filter p) d i = true ↔ G i = true ∧ areaR (runAt G vert i) < d ∧ p (runAt G vert i) = true := by
  rw [short_mem]
  constructor
  · rintro ⟨r, hr, hd, h⟩
    rw [List.mem_filter] at hr
    obtain ⟨hG, rfl⟩ := run_at hr.1 hi h
    exact ⟨hG, hd, hr.2⟩
  · rintro ⟨hG, hd, hp⟩
    exact ⟨_, List.mem_filter.2 ⟨runAt_mem hi hG, hp⟩, hd, runAt_in hi hG⟩
theorem hasG_yes {G : Gr} {x y : Int} (h : hasG G x y = true) : onC x y = true ∧ G (ix x y).toNat = true := by
  simpa [hasG] using h

/-- FnWidthMarks: the cells marked. -/
theorem mark_in {G : Gr} {x y d : Int} (h : hasG G x y = true) : hasG (shortG (allG G) d) x y = (decide (areaR (runR G x y false) < d) || decide (areaR (runR G x y true) < d)) := by
  obtain ⟨hc, hG⟩ := hasG_yes h
  have hi := onC_ix hc
  rw [hasG_on hc, runAt_runR h, runAt_runR h, allG, short_app]
  rw [Bool.eq_iff_iff]
  unfold unionG
  rw [Bool.or_eq_true, Bool.or_eq_true, short_runs hi, short_runs hi, decide_eq_true_iff, decide_eq_true_iff]
  simp [hG]
theorem mark_out {G : Gr} {x y d : Int} (h : hasG G x y = false) : hasG (shortG (allG G) d) x y = false := by
  rw [Bool.eq_false_iff]
  intro hm
  obtain ⟨hc, hm⟩ := hasG_yes hm
  have hi := onC_ix hc
  rw [hasG_on hc] at h
  rw [allG, short_app] at hm
  unfold unionG at hm
  rw [Bool.or_eq_true, short_runs hi, short_runs hi, h] at hm
  simp at hm
/-- FnSpacingMarks: the cells marked. -/
theorem gap_in {G : Gr} {x y d : Int} (hc : onC x y = true) (h : hasG G x y = false) : hasG (shortG (allGaps G) d) x y =
    ((decide (areaR (runR (notG G) x y false) < d) && hasG G ((runR (notG G) x y false).x0 - 1) (runR (notG G) x y false).y0 && hasG G (runR (notG G) x y false).x1 (runR (notG G) x y false).y0) ||
     (decide (areaR (runR (notG G) x y true) < d) && hasG G (runR (notG G) x y true).x0 ((runR (notG G) x y true).y0 - 1) && hasG G (runR (notG G) x y true).x0 (runR (notG G) x y true).y1)) := by
  have hn : hasG (notG G) x y = true := by rw [hasG_not hc, h]; rfl
  have hN := (hasG_yes hn).2
  have hi := onC_ix hc
  have e := runAt_mem (G := notG G) (vert := false) hi hN
  have e' := runAt_mem (G := notG G) (vert := true) hi hN
  rw [hasG_on hc, runAt_runR hn, runAt_runR hn, allGaps, short_app]
  rw [Bool.eq_iff_iff]
  unfold unionG gapsG
  rw [Bool.or_eq_true, Bool.or_eq_true, short_filter hi, short_filter hi, ← gap_ends e, ← gap_ends e']
  unfold endsG
  simp only [if_true, Bool.false_eq_true, if_false, Bool.or_self, Bool.and_eq_true, decide_eq_true_iff, hN, true_and, and_assoc]
theorem gap_out {G : Gr} {x y d : Int} (h : hasG G x y = true) : hasG (shortG (allGaps G) d) x y = false := by
  rw [Bool.eq_false_iff]
  intro hm
  obtain ⟨hc, hm⟩ := hasG_yes hm
  have hi := onC_ix hc
  have hG := (hasG_yes h).2
  rw [allGaps, short_app] at hm
  unfold unionG gapsG at hm
  rw [Bool.or_eq_true, short_filter hi, short_filter hi] at hm
  unfold notG at hm
  rw [hG] at hm
  simp at hm
/-- FnRuns: a run is the run through its first cell. -/
theorem run_first {G : Gr} {vert : Bool} {r : Rc} (hr : r ∈ runsG G vert) : hasG G r.x0 r.y0 = true ∧ runR G r.x0 r.y0 vert = r := by
  have hok := okAll_in (runsG_ok G vert) hr
  have hb := (okRc_iff r).1 hok
  have hc : onC r.x0 r.y0 = true := by rw [onC_iff]; omega
  have hi := onC_ix hc
  have hin : inR r (ix r.x0 r.y0).toNat = true := (inR_iff _ _).2 (by unfold ix; omega)
  obtain ⟨hG, e⟩ := run_at hr hi hin
  have hh : hasG G r.x0 r.y0 = true := by rw [hasG_on hc]; exact hG
  exact ⟨hh, by rw [runAt_runR hh]; exact e.symm⟩
theorem reg_nil {rs : List Rc} (h : isReg rs = true) (vert : Bool) : (runsG (cellsG rs) vert).length = 0 ↔ rs.length = 0 := by
  rw [List.length_eq_zero_iff, List.length_eq_zero_iff, runs_nil_iff, ← canon_nil_iff, canon_of_reg h]

/-! ## Two regions -/
theorem union_comm (A B : Gr) : unionG A B = unionG B A := by funext i; unfold unionG; rw [Bool.or_comm]
theorem inter_comm (A B : Gr) : interG A B = interG B A := by funext i; unfold interG; rw [Bool.and_comm]
theorem ends_comm (A B : Gr) (vert : Bool) (r : Rc) : endsG A B vert r = endsG B A vert r := by
  unfold endsG
  split <;> rw [Bool.or_comm]
theorem btw_comm (A B : Gr) : allBtw A B = allBtw B A := by
  have e : ∀ v, btwG A B v = btwG B A v := fun v => by
    unfold btwG
    rw [union_comm]
    exact List.filter_congr fun r _ => ends_comm A B v r
  unfold allBtw
  rw [e, e]
theorem meet_comm (A B : Gr) : meetG A B = meetG B A := by
  unfold meetG
  congr 1
  funext i
  rw [Bool.and_comm]
theorem meet_iff (A B : Gr) : meetG A B = true ↔ ∃ i, i < 6400 ∧ A i = true ∧ B i = true := by
  unfold meetG
  rw [List.any_eq_true]
  simp only [List.mem_range, Bool.and_eq_true]
/-- The markers are none exactly if the least distance is none or long enough. -/
theorem btw_lim {A B : Gr} {d : Int} : canon (unionG (shortG (allBtw A B) d) (interG A B)) = [] ↔ meetG A B = false ∧ ((allBtw A B).length = 0 ∨ d ≤ minA (allBtw A B)) := by
  rw [canon_nil_iff]
  have hl := lim_iff (R := allBtw A B) (d := d) (allBtw_ok A B)
  rw [canon_nil_iff] at hl
  rw [List.length_eq_zero_iff, ← hl]
  constructor
  · intro h
    refine ⟨?_, fun i hi => ?_⟩
    · rw [Bool.eq_false_iff]
      intro hm
      obtain ⟨i, hi, h1, h2⟩ := (meet_iff A B).1 hm
      have := h i hi
      unfold unionG interG at this
      rw [h1, h2] at this
      simp at this
    · have := h i hi
      unfold unionG at this
      rw [Bool.or_eq_false_iff] at this
      exact this.1
  · rintro ⟨hm, h⟩ i hi
    unfold unionG interG
    rw [h i hi, Bool.false_or, Bool.eq_false_iff]
    intro hc
    rw [Bool.and_eq_true] at hc
    rw [(meet_iff A B).2 ⟨i, hi, hc.1, hc.2⟩] at hm
    cases hm

/-! ## Counting -/
theorem count_disj {P Q : Gr} (h : ∀ i, i < 6400 → (P i && Q i) = false) : countG (unionG P Q) = countG P + countG Q := by
  unfold countG coverG
  rw [← boxC_add]
  refine boxC_congr (by decide) (by decide) fun i hi => ?_
  have := h i hi
  unfold oneG unionG
  revert this
  cases P i <;> cases Q i <;> simp
theorem count_empty : countG emptyG = 0 := by
  have := count_canon emptyG
  have e : canon emptyG = [] := (canon_nil_iff _).2 fun i _ => rfl
  rw [e] at this
  exact this.symm
/-- A gap's cells are none of the region's. -/
theorem gaps_apart (G : Gr) (d : Int) : ∀ i, i < 6400 → (shortG (allGaps G) d i && G i) = false := by
  intro i hi
  rw [Bool.eq_false_iff]
  intro h
  rw [Bool.and_eq_true, allGaps, short_app] at h
  obtain ⟨h1, h2⟩ := h
  unfold unionG gapsG at h1
  rw [Bool.or_eq_true, short_filter hi, short_filter hi] at h1
  unfold notG at h1
  rw [h2] at h1
  simp at h1
end Go.Proofs.YtgegbgkokkdmpaaGreat
