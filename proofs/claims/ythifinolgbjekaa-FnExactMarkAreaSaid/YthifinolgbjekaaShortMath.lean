/- Plain mathematics: the shortest of a list of runs, the first that is short, all that are short. No conditions. -/
import Derived.Test.YthifinolgbjekaaRunsMath
namespace Go.Proofs.Ythifinolgbjekaa

def minStep (m : Int) (r : Rc) : Int := if m = 0 ∨ areaR r < m then areaR r else m
/-- The least length of a list of runs, 0 of an empty one. -/
def minA (rs : List Rc) : Int := rs.foldl minStep 0
theorem minA_step {rs : List Rc} {k : Nat} {r : Rc} (h : rs[k]? = some r) : minA (rs.take (k + 1)) = minStep (minA (rs.take k)) r := by
  unfold minA
  rw [List.take_add_one, h, List.foldl_append]; rfl
theorem minA_zero (rs : List Rc) : minA (rs.take 0) = 0 := rfl
theorem min_pos : ∀ (rs : List Rc) (m : Int), okAll rs = true → 1 ≤ m → m ≤ 6400 → 1 ≤ rs.foldl minStep m ∧ rs.foldl minStep m ≤ 6400
  | [], m, _, h, h2 => ⟨h, h2⟩
  | r :: rs, m, hok, h, h2 => by
    have h1 : okRc r = true ∧ okAll rs = true := by simpa [okAll] using hok
    have hb := areaR_bounds h1.1
    rw [List.foldl_cons]
    refine min_pos rs _ h1.2 ?_ ?_ <;> · unfold minStep; split <;> omega
theorem minA_bounds {rs : List Rc} (hok : okAll rs = true) : 0 ≤ minA rs ∧ minA rs ≤ 6400 ∧ (rs ≠ [] → 1 ≤ minA rs) := by
  cases rs with
  | nil => exact ⟨Int.le_refl _, by simp [minA], fun h => absurd rfl h⟩
  | cons r rs =>
    have h1 : okRc r = true ∧ okAll rs = true := by simpa [okAll] using hok
    have hb := areaR_bounds h1.1
    have e : minA (r :: rs) = rs.foldl minStep (areaR r) := by
      unfold minA
      rw [List.foldl_cons]
      congr 1
    have := min_pos rs (areaR r) h1.2 hb.1 hb.2
    rw [e]
    omega
theorem okAll_take {rs : List Rc} (h : okAll rs = true) (k : Nat) : okAll (rs.take k) = true := by
  rw [okAll, List.all_eq_true] at *
  intro r hr
  exact h r (List.mem_of_mem_take hr)
theorem minA_take_pos {rs : List Rc} (hok : okAll rs = true) {k : Nat} (hk : k ≠ 0) (hl : k < rs.length) : 1 ≤ minA (rs.take k) :=
  (minA_bounds (okAll_take hok k)).2.2 (by
    intro h
    have := congrArg List.length h
    rw [List.length_take, List.length_nil] at this
    omega)
theorem min_yes {rs : List Rc} {k : Nat} {r : Rc} (h : rs[k]? = some r) (hc : minA (rs.take k) = 0 ∨ areaR r < minA (rs.take k)) : minA (rs.take (k + 1)) = areaR r := by
  rw [minA_step h, minStep, if_pos hc]
theorem min_no {rs : List Rc} {k : Nat} {r : Rc} (h : rs[k]? = some r) (hc : ¬ minA (rs.take k) = 0) (hc2 : ¬ areaR r < minA (rs.take k)) : minA (rs.take (k + 1)) = minA (rs.take k) := by
  rw [minA_step h, minStep, if_neg (by simp [hc, hc2])]

/-- The first run that is shorter than d. -/
def firstA (rs : List Rc) (d : Int) : Option Rc := rs.find? fun r => decide (areaR r < d)
theorem first_start (rs : List Rc) (d : Int) : firstA (rs.drop 0) d = firstA rs d := by rw [List.drop_zero]
theorem first_yes {rs : List Rc} {k : Nat} {r : Rc} {d : Int} (h : rs[k]? = some r) (hd : areaR r < d) : firstA (rs.drop k) d = some r := by
  obtain ⟨hk, rfl⟩ := List.getElem?_eq_some_iff.1 h
  rw [List.drop_eq_getElem_cons hk, firstA, List.find?_cons]
  simp [hd]
theorem first_no {rs : List Rc} {k : Nat} {r : Rc} {d : Int} (h : rs[k]? = some r) (hd : ¬ areaR r < d) : firstA (rs.drop k) d = firstA (rs.drop (k + 1)) d := by
  obtain ⟨hk, rfl⟩ := List.getElem?_eq_some_iff.1 h
  rw [List.drop_eq_getElem_cons hk, firstA, firstA, List.find?_cons]
  simp [hd]
theorem first_end {rs : List Rc} {k : Nat} {d : Int} (h : rs.length ≤ k) : firstA (rs.drop k) d = none := by
  rw [List.drop_eq_nil_of_le h]; rfl

/-- The cells of all runs that are shorter than d. -/
def shortG (rs : List Rc) (d : Int) : Gr := cellsG (rs.filter fun r => decide (areaR r < d))
theorem short_nil (rs : List Rc) (d : Int) : shortG (rs.take 0) d = emptyG := rfl
theorem short_yes {rs : List Rc} {k : Nat} {r : Rc} {d : Int} (h : rs[k]? = some r) (hd : areaR r < d) : shortG (rs.take (k + 1)) d = orR (shortG (rs.take k) d) r := by
  unfold shortG
  rw [List.take_add_one, h, List.filter_append]
  simp only [Option.toList_some, List.filter_cons, decide_eq_true hd, if_true, List.filter_nil]
  exact cellsG_snoc _ _
theorem short_no {rs : List Rc} {k : Nat} {r : Rc} {d : Int} (h : rs[k]? = some r) (hd : ¬ areaR r < d) : shortG (rs.take (k + 1)) d = shortG (rs.take k) d := by
  unfold shortG
  rw [List.take_add_one, h, List.filter_append]
  simp [hd]

end Go.Proofs.Ythifinolgbjekaa
