/- Plain mathematics, no program in sight: rectangles of unit cells, sets of unit cells as flat grids of 80 by 80, and the canonical form of a set. No conditions. -/
import Derived.Below
namespace Go.Proofs.Ythifinolgbjekaa

/-- A rectangle. -/
structure Rc where
  x0 : Int
  y0 : Int
  x1 : Int
  y1 : Int
deriving DecidableEq

/-- A valid rectangle of the chip. -/
def okRc (r : Rc) : Bool := decide (-40 ≤ r.x0 ∧ r.x0 < r.x1 ∧ r.x1 ≤ 40 ∧ -40 ≤ r.y0 ∧ r.y0 < r.y1 ∧ r.y1 ≤ 40)
theorem okRc_iff (r : Rc) : okRc r = true ↔ -40 ≤ r.x0 ∧ r.x0 < r.x1 ∧ r.x1 ≤ 40 ∧ -40 ≤ r.y0 ∧ r.y0 < r.y1 ∧ r.y1 ≤ 40 := by simp [okRc]

/-- All of a list are valid. -/
def okAll (rs : List Rc) : Bool := rs.all okRc

/-- The cell with the flat index i lies in a rectangle. -/
def inR (r : Rc) (i : Nat) : Bool := decide (r.y0 + 40 ≤ ((i / 80 : Nat) : Int) ∧ ((i / 80 : Nat) : Int) < r.y1 + 40 ∧ r.x0 + 40 ≤ ((i % 80 : Nat) : Int) ∧ ((i % 80 : Nat) : Int) < r.x1 + 40)
theorem inR_iff (r : Rc) (i : Nat) : inR r i = true ↔ r.y0 + 40 ≤ ((i / 80 : Nat) : Int) ∧ ((i / 80 : Nat) : Int) < r.y1 + 40 ∧ r.x0 + 40 ≤ ((i % 80 : Nat) : Int) ∧ ((i % 80 : Nat) : Int) < r.x1 + 40 := by simp [inR]

/-- A set of cells, by the flat index. -/
abbrev Gr := Nat → Bool
/-- A set and the cells of a rectangle. -/
def orR (G : Gr) (r : Rc) : Gr := fun i => G i || inR r i
/-- The cells of a list of rectangles. -/
def cellsG (rs : List Rc) : Gr := fun i => rs.any fun r => inR r i
/-- A set with one cell set or struck. -/
def updG (G : Gr) (j : Nat) (b : Bool) : Gr := fun i => if i = j then b else G i
def emptyG : Gr := fun _ => false

theorem cellsG_nil : cellsG [] = emptyG := rfl
theorem cellsG_snoc (rs : List Rc) (r : Rc) : cellsG (rs ++ [r]) = orR (cellsG rs) r := by
  funext i; simp [cellsG, orR, List.any_append]

/-- Two grids agree on the chip. -/
def sameG (G H : Gr) : Prop := ∀ i, i < 6400 → G i = H i

theorem orR_empty (G : Gr) (r : Rc) (h : r.x1 ≤ r.x0 ∨ r.y1 ≤ r.y0) : orR G r = G := by
  funext i
  have : inR r i = false := by
    rw [Bool.eq_false_iff]; intro hc; rw [inR_iff] at hc; omega
  simp [orR, this]

/-- One more row. -/
theorem orR_row (G : Gr) (x0 x1 y0 y : Int) (h : y0 ≤ y) :
    orR (orR G ⟨x0, y0, x1, y⟩) ⟨x0, y, x1, y + 1⟩ = orR G ⟨x0, y0, x1, y + 1⟩ := by
  funext i
  have : (inR ⟨x0, y0, x1, y⟩ i || inR ⟨x0, y, x1, y + 1⟩ i) = inR ⟨x0, y0, x1, y + 1⟩ i := by
    rw [Bool.eq_iff_iff, Bool.or_eq_true]
    simp only [inR_iff]
    omega
  simp only [orR, Bool.or_assoc, this]

/-- One more cell. -/
theorem orR_cell (G : Gr) (x0 x y : Int) (h2 : -40 ≤ x0) (h3 : x0 ≤ x) (h4 : x < 40) (j : Nat) (hj : (j : Int) = (y + 40) * 80 + (x + 40)) :
    updG (orR G ⟨x0, y, x, y + 1⟩) j true = orR G ⟨x0, y, x + 1, y + 1⟩ := by
  funext i
  simp only [updG, orR]
  by_cases hi : i = j
  · subst hi
    have : inR ⟨x0, y, x + 1, y + 1⟩ i = true := by rw [inR_iff]; simp only; omega
    simp [this]
  · rw [if_neg hi]
    have : inR ⟨x0, y, x, y + 1⟩ i = inR ⟨x0, y, x + 1, y + 1⟩ i := by
      rw [Bool.eq_iff_iff]
      simp only [inR_iff]
      omega
    rw [this]

/-- A rectangle, clipped to the chip, has the same cells of the chip. -/
theorem orR_clip (G : Gr) (r : Rc) (i : Nat) (hi : i < 6400) : orR G ⟨max r.x0 (-40), max r.y0 (-40), min r.x1 40, min r.y1 40⟩ i = orR G r i := by
  simp only [orR]
  congr 1
  rw [Bool.eq_iff_iff]
  simp only [inR_iff]
  omega

/-! ## Rows and runs -/

/-- The cell (x, y), y and x from 0 on, false outside. -/
def at_ (G : Gr) (y x : Nat) : Bool := decide (y < 80) && decide (x < 80) && G (y * 80 + x)

/-- Two rows are alike. -/
def rowEq (G : Gr) (a b : Nat) : Bool := (List.range 80).all fun x => G (a * 80 + x) == G (b * 80 + x)
theorem rowEq_iff (G : Gr) (a b : Nat) : rowEq G a b = true ↔ ∀ x, x < 80 → G (a * 80 + x) = G (b * 80 + x) := by
  simp [rowEq, List.all_eq_true, List.mem_range]

/-- The first row from e on that is not as the row y, or 80. -/
def rowEnd (G : Gr) (y : Nat) : (n : Nat) → (e : Nat) → Nat
  | 0, e => e
  | n + 1, e => if e < 80 ∧ rowEq G e y = true then rowEnd G y n (e + 1) else e
def rowEnd' (G : Gr) (y e : Nat) : Nat := rowEnd G y (80 - e) e

theorem rowEnd_step (G : Gr) (y e : Nat) (he : e < 80) (h : rowEq G e y = true) : rowEnd' G y e = rowEnd' G y (e + 1) := by
  have : 80 - e = (80 - (e + 1)) + 1 := by omega
  unfold rowEnd'
  rw [this, rowEnd, if_pos ⟨he, h⟩]
theorem rowEnd_stop (G : Gr) (y e : Nat) (h : ¬ (e < 80 ∧ rowEq G e y = true)) : rowEnd' G y e = e := by
  unfold rowEnd'
  cases hn : 80 - e with
  | zero => rfl
  | succ n => rw [rowEnd, if_neg h]
theorem rowEnd_ge (G : Gr) (y : Nat) : ∀ n e, e ≤ rowEnd G y n e := by
  intro n
  induction n with
  | zero => intro e; exact Nat.le_refl _
  | succ n ih =>
    intro e
    rw [rowEnd]
    split
    · exact Nat.le_of_succ_le (ih (e + 1))
    · exact Nat.le_refl _
theorem rowEnd_le (G : Gr) (y : Nat) : ∀ n e, e ≤ 80 → rowEnd G y n e ≤ 80 := by
  intro n
  induction n with
  | zero => intro e h; exact h
  | succ n ih =>
    intro e h
    rw [rowEnd]
    split
    · rename_i hc; exact ih (e + 1) (by omega)
    · exact h
theorem rowEnd'_ge (G : Gr) (y e : Nat) : e ≤ rowEnd' G y e := rowEnd_ge G y _ e
theorem rowEnd'_le (G : Gr) (y e : Nat) (h : e ≤ 80) : rowEnd' G y e ≤ 80 := rowEnd_le G y _ e h

/-- Is there a change of the row y at x (between the cells x - 1 and x)? -/
def turns (G : Gr) (y x : Nat) : Bool := at_ G y x != (decide (0 < x) && at_ G y (x - 1))
/-- The changes of a row below x, in order. -/
def turnsTo (G : Gr) (y x : Nat) : List Nat := (List.range x).filter (turns G y)
theorem turnsTo_succ (G : Gr) (y x : Nat) : turnsTo G y (x + 1) = turnsTo G y x ++ (if turns G y x = true then [x] else []) := by
  simp [turnsTo, List.range_succ, List.filter_append, List.filter_cons]

/-- The pairs of a list. -/
def pairs {α : Type} : List α → List (α × α)
  | a :: b :: l => (a, b) :: pairs l
  | _ => []
theorem pairs_append {α : Type} : ∀ (l : List α) (m : List α), l.length % 2 = 0 → pairs (l ++ m) = pairs l ++ pairs m
  | [], _, _ => rfl
  | [a], _, h => by simp at h
  | a :: b :: l, m, h => by
    simp only [List.cons_append, pairs]
    rw [pairs_append l m (by simp at h; omega)]

/-- The runs of the row y as rectangles from row y up to row e. -/
def rowRects (G : Gr) (y e : Nat) : List Rc := (pairs (turnsTo G y 81)).map fun p => ⟨(p.1 : Int) - 40, (y : Int) - 40, (p.2 : Int) - 40, (e : Int) - 40⟩

/-- The canonical rectangles of a set from row y on. -/
def canonF (G : Gr) : (n : Nat) → (y : Nat) → List Rc
  | 0, _ => []
  | n + 1, y => if y < 80 then rowRects G y (rowEnd' G y (y + 1)) ++ canonF G n (rowEnd' G y (y + 1)) else []
def canonFrom (G : Gr) (y : Nat) : List Rc := canonF G (80 - y) y
/-- The canonical form of a set. -/
def canon (G : Gr) : List Rc := canonFrom G 0

theorem canonF_enough (G : Gr) : ∀ n y, 80 - y ≤ n → canonF G n y = canonF G (80 - y) y := by
  intro n
  induction n using Nat.strongRecOn with
  | _ n ih =>
    intro y hy
    by_cases h80 : y < 80
    · obtain ⟨m, hm⟩ : ∃ m, 80 - y = m + 1 := ⟨80 - y - 1, by omega⟩
      obtain ⟨k, rfl⟩ : ∃ k, n = k + 1 := ⟨n - 1, by omega⟩
      rw [hm, canonF, canonF, if_pos h80, if_pos h80]
      have hge := rowEnd'_ge G y (y + 1)
      congr 1
      rw [ih k (by omega) _ (by omega)]
      by_cases hk : m < k + 1
      · rw [ih m hk _ (by omega)]
      · have : m = k := by omega
        subst this
        rw [ih m (by omega) _ (by omega)]
    · have e : 80 - y = 0 := by omega
      rw [e]
      cases n with
      | zero => rfl
      | succ n => simp [canonF, h80]

theorem canonFrom_step (G : Gr) (y : Nat) (h : y < 80) : canonFrom G y = rowRects G y (rowEnd' G y (y + 1)) ++ canonFrom G (rowEnd' G y (y + 1)) := by
  unfold canonFrom
  obtain ⟨m, hm⟩ : ∃ m, 80 - y = m + 1 := ⟨80 - y - 1, by omega⟩
  have hge := rowEnd'_ge G y (y + 1)
  rw [hm, canonF, if_pos h, canonF_enough G m _ (by omega)]
theorem canonFrom_end (G : Gr) (y : Nat) (h : 80 ≤ y) : canonFrom G y = [] := by
  unfold canonFrom
  have e : 80 - y = 0 := by omega
  rw [e]; rfl

/-- A list is a region. -/
def isReg (rs : List Rc) : Bool := decide (rs.length ≤ 3200) && okAll rs && decide (canon (cellsG rs) = rs)
theorem isReg_iff (rs : List Rc) : isReg rs = true ↔ rs.length ≤ 3200 ∧ okAll rs = true ∧ canon (cellsG rs) = rs := by
  simp [isReg, and_assoc]

end Go.Proofs.Ythifinolgbjekaa
