/- Plain mathematics: the rectangles of a canonical form have at most 6400 cells together. No conditions. -/
import Derived.Test.YthifinolgbjekaaRowMath
namespace Go.Proofs.Ythifinolgbjekaa

/-- The number of cells of a rectangle. -/
def areaR (r : Rc) : Int := (r.x1 - r.x0) * (r.y1 - r.y0)
theorem areaR_bounds {r : Rc} (h : okRc r = true) : 1 ≤ areaR r ∧ areaR r ≤ 6400 := by
  rw [okRc_iff] at h
  unfold areaR
  obtain ⟨a, ha⟩ : ∃ a : Int, a = r.x1 - r.x0 := ⟨_, rfl⟩
  obtain ⟨b, hb⟩ : ∃ b : Int, b = r.y1 - r.y0 := ⟨_, rfl⟩
  rw [← ha, ← hb]
  have h1 : 1 ≤ a ∧ a ≤ 80 := by omega
  have h2 : 1 ≤ b ∧ b ≤ 80 := by omega
  constructor
  · have := Int.mul_le_mul h1.1 h2.1 (by omega) (by omega)
    omega
  · have := Int.mul_le_mul h1.2 h2.2 (by omega) (by omega)
    omega

/-- The number of cells of a list, rectangle by rectangle. -/
def sumA : List Rc → Int
  | [] => 0
  | r :: rs => areaR r + sumA rs
theorem sumA_append (a b : List Rc) : sumA (a ++ b) = sumA a + sumA b := by
  induction a with
  | nil => simp [sumA]
  | cons r a ih => simp only [List.cons_append, sumA, ih]; omega
theorem sumA_take_succ {rs : List Rc} {k : Nat} {r : Rc} (h : rs[k]? = some r) : sumA (rs.take (k + 1)) = sumA (rs.take k) + areaR r := by
  rw [List.take_add_one, h, sumA_append]
  simp [sumA]
theorem sumA_bounds {rs : List Rc} (h : rs.all okRc = true) : 0 ≤ sumA rs ∧ sumA rs ≤ rs.length * 6400 := by
  induction rs with
  | nil => simp [sumA]
  | cons r rs ih =>
    rw [List.all_cons, Bool.and_eq_true] at h
    have h1 := areaR_bounds h.1
    have h2 := ih h.2
    simp only [sumA, List.length_cons]
    omega

/-- The widths of the pairs of an increasing list. -/
theorem widths {l : List Nat} (hp : l.Pairwise (· < ·)) : ∀ lo hi : Nat, lo ≤ hi → (∀ x ∈ l, lo ≤ x ∧ x ≤ hi) → ((pairs l).map fun p => (p.2 - p.1 : Nat)).sum ≤ hi - lo := by
  match l, hp with
  | [], _ => intros; simp [pairs]
  | [a], _ => intros; simp [pairs]
  | a :: b :: l, hp =>
    intro lo hi hlo h
    simp only [pairs, List.map_cons, List.sum_cons]
    have ha := h a (by simp)
    have hb := h b (by simp)
    have hp1 := List.pairwise_cons.1 hp
    have hp2 := List.pairwise_cons.1 hp1.2
    have hab := hp1.1 b (by simp)
    have := widths hp2.2 b hi hb.2 (fun x hx => ⟨Nat.le_of_lt (hp2.1 x hx), (h x (by simp [hx])).2⟩)
    omega
theorem pairs_lt {l : List Nat} (hp : l.Pairwise (· < ·)) : ∀ p ∈ pairs l, p.1 < p.2 := by
  match l, hp with
  | [], _ => simp [pairs]
  | [a], _ => simp [pairs]
  | a :: b :: l, hp =>
    intro p h
    have hp1 := List.pairwise_cons.1 hp
    have hp2 := List.pairwise_cons.1 hp1.2
    simp only [pairs, List.mem_cons] at h
    rcases h with rfl | h
    · exact hp1.1 b (by simp)
    · exact pairs_lt hp2.2 p h
theorem turnsTo_lt (G : Gr) (y n : Nat) : (turnsTo G y n).Pairwise (· < ·) := (List.pairwise_lt_range).filter _
theorem turnsTo_le (G : Gr) (y n : Nat) : ∀ x ∈ turnsTo G y n, x < n := by
  intro x hx
  rw [turnsTo, List.mem_filter] at hx
  exact List.mem_range.1 hx.1

theorem sumA_rows (y e : Nat) (ps : List (Nat × Nat)) (h : ∀ p ∈ ps, p.1 < p.2) (hy : y ≤ e) :
    sumA (ps.map fun p => ⟨(p.1 : Int) - 40, (y : Int) - 40, (p.2 : Int) - 40, (e : Int) - 40⟩) = ((ps.map fun p => (p.2 - p.1 : Nat)).sum : Nat) * ((e - y : Nat) : Int) := by
  induction ps with
  | nil => simp [sumA]
  | cons p ps ih =>
    have h1 := h p (by simp)
    have h2 := ih (fun q hq => h q (by simp [hq]))
    simp only [List.map_cons, sumA, List.sum_cons, h2, areaR]
    have e1 : (p.2 : Int) - 40 - ((p.1 : Int) - 40) = ((p.2 - p.1 : Nat) : Int) := by omega
    have e2 : (e : Int) - 40 - ((y : Int) - 40) = ((e - y : Nat) : Int) := by omega
    rw [e1, e2, Int.natCast_add, Int.add_mul]
theorem sumA_rowRects (G : Gr) (y e : Nat) (hy : y ≤ e) : 0 ≤ sumA (rowRects G y e) ∧ sumA (rowRects G y e) ≤ 80 * ((e - y : Nat) : Int) := by
  rw [rowRects, sumA_rows y e _ (pairs_lt (turnsTo_lt G y 81)) hy]
  have hw := widths (turnsTo_lt G y 81) 0 80 (by omega) (fun x hx => ⟨Nat.zero_le _, by have := turnsTo_le G y 81 x hx; omega⟩)
  generalize ((pairs (turnsTo G y 81)).map fun p => (p.2 - p.1 : Nat)).sum = s at hw ⊢
  constructor
  · exact Int.mul_nonneg (by omega) (by omega)
  · exact Int.mul_le_mul_of_nonneg_right (by omega) (by omega)
theorem sumA_canonFrom (G : Gr) : ∀ n y, 80 - y ≤ n → 0 ≤ sumA (canonFrom G y) ∧ sumA (canonFrom G y) ≤ 80 * ((80 - y : Nat) : Int) := by
  intro n
  induction n with
  | zero => intro y hy; rw [canonFrom_end G y (by omega)]; simp [sumA]; omega
  | succ n ih =>
    intro y hy
    by_cases h : y < 80
    · have hge := rowEnd'_ge G y (y + 1)
      have hle := rowEnd'_le G y (y + 1) (by omega)
      rw [canonFrom_step G y h, sumA_append]
      have h1 := ih (rowEnd' G y (y + 1)) (by omega)
      have h2 := sumA_rowRects G y (rowEnd' G y (y + 1)) (by omega)
      omega
    · rw [canonFrom_end G y (by omega)]; simp [sumA]; omega
theorem sumA_canon (G : Gr) : sumA (canon G) ≤ 6400 := by
  have := sumA_canonFrom G 80 0 (by omega)
  rw [canon]
  omega

end Go.Proofs.Ythifinolgbjekaa
