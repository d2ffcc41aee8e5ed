/- Plain mathematics, no program in sight: rectangles of unit cells, sets of unit cells as flat grids of 80 by 80, and the canonical form of a set. No conditions. Plain mathematics: the changes of a row tell the row; pairs of changes; lists read from a place on. No conditions. Plain mathematics: the rectangles of a canonical form have at most 6400 cells together. No conditions. Plain mathematics: the canonical form of a set covers each of its cells just once and no other; it is a region. No conditions. Plain mathematics: the run through a cell. No conditions. Plain mathematics: the covered cells of a box, counted cell by cell and rectangle by rectangle. No conditions. Plain mathematics: the cells near a set, as the reference and as the program reckon them; what another set leaves of them. No conditions. Plain mathematics: all runs of a set in rows, or in columns, as both texts list them. No conditions. Plain mathematics: the shortest of a list of runs, the first that is short, all that are short. No conditions. Plain mathematics: the component of a cell in a set; what a search from a cell gathers is the component. No conditions. Plain mathematics: counting cells in a row; the first rectangle of a canonical form; the smallest of some numbers; the components in order. No conditions. Plain mathematics: a grid whose first cells have been set anew. No conditions. Plain mathematics: the runs of a set partition it; the run through a cell. No conditions. -/
import Derived.Below

namespace Go.Proofs.YtgegbgkokkdmpaaGreat

/-- A rectangle. -/
structure Rc where
  x0 : Int
  y0 : Int
  x1 : Int
  y1 : Int
deriving DecidableEq

/-- A valid rectangle of the chip. -/
def okRc (r : Rc) : Bool := decide (-40 ≤ r.x0 ∧ r.x0 < r.x1 ∧ r.x1 ≤ 40 ∧ -40 ≤ r.y0 ∧ r.y0 < r.y1 ∧ r.y1 ≤ 40)
theorem okRc_iff (r : Rc) : okRc r = true ↔ -40 ≤ r.x0 ∧ r.x0 < r.x1 ∧ r.x1 ≤ 40 ∧ -40 ≤ r.y0 ∧ r.y0 < r.y1 ∧ r.y1 ≤ 40 := by simp [okRc]

/-- All of a list are valid. -/
def okAll (rs : List Rc) : Bool := rs.all okRc

/-- The cell with the flat index i lies in a rectangle. -/
def inR (r : Rc) (i : Nat) : Bool := decide (r.y0 + 40 ≤ ((i / 80 : Nat) : Int) ∧ ((i / 80 : Nat) : Int) < r.y1 + 40 ∧ r.x0 + 40 ≤ ((i % 80 : Nat) : Int) ∧ ((i % 80 : Nat) : Int) < r.x1 + 40)
theorem inR_iff (r : Rc) (i : Nat) : inR r i = true ↔ r.y0 + 40 ≤ ((i / 80 : Nat) : Int) ∧ ((i / 80 : Nat) : Int) < r.y1 + 40 ∧ r.x0 + 40 ≤ ((i % 80 : Nat) : Int) ∧ ((i % 80 : Nat) : Int) < r.x1 + 40 := by simp [inR]

/-- A set of cells, by the flat index. -/
abbrev Gr := Nat → Bool
/-- A set and the cells of a rectangle. -/
def orR (G : Gr) (r : Rc) : Gr := fun i => G i || inR r i
/-- The cells of a list of rectangles. -/
def cellsG (rs : List Rc) : Gr := fun i => rs.any fun r => inR r i
/-- A set with one cell set or struck. -/
def updG (G : Gr) (j : Nat) (b : Bool) : Gr := fun i => if i = j then b else G i
def emptyG : Gr := fun _ => false

theorem cellsG_nil : cellsG [] = emptyG := rfl
theorem cellsG_snoc (rs : List Rc) (r : Rc) : cellsG (rs ++ [r]) = orR (cellsG rs) r := by
  funext i; simp [cellsG, orR, List.any_append]

/-- Two grids agree on the chip. -/
def sameG (G H : Gr) : Prop := ∀ i, i < 6400 → G i = H i

theorem orR_empty (G : Gr) (r : Rc) (h : r.x1 ≤ r.x0 ∨ r.y1 ≤ r.y0) : orR G r = G := by
  funext i
  have : inR r i = false := by
    rw [Bool.eq_false_iff]; intro hc; rw [inR_iff] at hc; omega
  simp [orR, this]

/-- One more row. -/
theorem orR_row (G : Gr) (x0 x1 y0 y : Int) (h : y0 ≤ y) :
    orR (orR G ⟨x0, y0, x1, y⟩) ⟨x0, y, x1, y + 1⟩ = orR G ⟨x0, y0, x1, y + 1⟩ := by
  funext i
  have : (inR ⟨x0, y0, x1, y⟩ i || inR ⟨x0, y, x1, y + 1⟩ i) = inR ⟨x0, y0, x1, y + 1⟩ i := by
    rw [Bool.eq_iff_iff, Bool.or_eq_true]
    simp only [inR_iff]
    omega
  simp only [orR, Bool.or_assoc, this]

/-- One more cell. -/
theorem orR_cell (G : Gr) (x0 x y : Int) (h2 : -40 ≤ x0) (h3 : x0 ≤ x) (h4 : x < 40) (j : Nat) (hj : (j : Int) = (y + 40) * 80 + (x + 40)) :
    updG (orR G ⟨x0, y, x, y + 1⟩) j true = orR G ⟨x0, y, x + 1, y + 1⟩ := by
  funext i
  simp only [updG, orR]
  by_cases hi : i = j
  · subst hi
    have : inR ⟨x0, y, x + 1, y + 1⟩ i = true := by rw [inR_iff]; simp only; omega
    simp [this]
  · rw [if_neg hi]
    have : inR ⟨x0, y, x, y + 1⟩ i = inR ⟨x0, y, x + 1, y + 1⟩ i := by
      rw [Bool.eq_iff_iff]
      simp only [inR_iff]
      omega
    rw [this]

/-- A rectangle, clipped to the chip, has the same cells of the chip. -/
theorem orR_clip (G : Gr) (r : Rc) (i : Nat) (hi : i < 6400) : orR G ⟨max r.x0 (-40), max r.y0 (-40), min r.x1 40, min r.y1 40⟩ i = orR G r i := by
  simp only [orR]
  congr 1
  rw [Bool.eq_iff_iff]
  simp only [inR_iff]
  omega

/-! ## Rows and runs -/

/-- The cell (x, y), y and x from 0 on, false outside. -/
def at_ (G : Gr) (y x : Nat) : Bool := decide (y < 80) && decide (x < 80) && G (y * 80 + x)

/-- Two rows are alike. -/
def rowEq (G : Gr) (a b : Nat) : Bool := (List.range 80).all fun x => G (a * 80 + x) == G (b * 80 + x)
theorem rowEq_iff (G : Gr) (a b : Nat) : rowEq G a b = true ↔ ∀ x, x < 80 → G (a * 80 + x) = G (b * 80 + x) := by
  simp [rowEq, List.all_eq_true, List.mem_range]

/-- The first row from e on that is not as the row y, or 80. -/
def rowEnd (G : Gr) (y : Nat) : (n : Nat) → (e : Nat) → Nat
  | 0, e => e
  | n + 1, e => if e < 80 ∧ rowEq G e y = true then rowEnd G y n (e + 1) else e
def rowEnd' (G : Gr) (y e : Nat) : Nat := rowEnd G y (80 - e) e

theorem rowEnd_step (G : Gr) (y e : Nat) (he : e < 80) (h : rowEq G e y = true) : rowEnd' G y e = rowEnd' G y (e + 1) := by
  have : 80 - e = (80 - (e + 1)) + 1 := by omega
  unfold rowEnd'
  rw [this, rowEnd, if_pos ⟨he, h⟩]
theorem rowEnd_stop (G : Gr) (y e : Nat) (h : ¬ (e < 80 ∧ rowEq G e y = true)) : rowEnd' G y e = e := by
  unfold rowEnd'
  cases hn : 80 - e with
  | zero => rfl
  | succ n => rw [rowEnd, if_neg h]
theorem rowEnd_ge (G : Gr) (y : Nat) : ∀ n e, e ≤ rowEnd G y n e := by
  intro n
  induction n with
  | zero => intro e; exact Nat.le_refl _
  | succ n ih =>
    intro e
    rw [rowEnd]
    split
    · exact Nat.le_of_succ_le (ih (e + 1))
    · exact Nat.le_refl _
theorem rowEnd_le (G : Gr) (y : Nat) : ∀ n e, e ≤ 80 → rowEnd G y n e ≤ 80 := by
  intro n
  induction n with
  | zero => intro e h; exact h
  | succ n ih =>
    intro e h
    rw [rowEnd]
    split
    · rename_i hc; exact ih (e + 1) (by omega)
    · exact h
theorem rowEnd'_ge (G : Gr) (y e : Nat) : e ≤ rowEnd' G y e := rowEnd_ge G y _ e
theorem rowEnd'_le (G : Gr) (y e : Nat) (h : e ≤ 80) : rowEnd' G y e ≤ 80 := rowEnd_le G y _ e h

/-- Is there a change of the row y at x (between the cells x - 1 and x)? -/
def turns (G : Gr) (y x : Nat) : Bool := at_ G y x != (decide (0 < x) && at_ G y (x - 1))
/-- The changes of a row below x, in order. -/
def turnsTo (G : Gr) (y x : Nat) : List Nat := (List.range x).filter (turns G y)
theorem turnsTo_succ (G : Gr) (y x : Nat) : turnsTo G y (x + 1) = turnsTo G y x ++ (if turns G y x = true then [x] else []) := by
  simp [turnsTo, List.range_succ, List.filter_append, List.filter_cons]

/-- The pairs of a list. -/
def pairs {α : Type} : List α → List (α × α)
  | a :: b :: l => (a, b) :: pairs l
  | _ => []
theorem pairs_append {α : Type} : ∀ (l : List α) (m : List α), l.length % 2 = 0 → pairs (l ++ m) = pairs l ++ pairs m
  | [], _, _ => rfl
  | [a], _, h => by simp at h
  | a :: b :: l, m, h => by
    simp only [List.cons_append, pairs]
    rw [pairs_append l m (by simp at h; omega)]

/-- The runs of the row y as rectangles from row y up to row e. -/
def rowRects (G : Gr) (y e : Nat) : List Rc := (pairs (turnsTo G y 81)).map fun p => ⟨(p.1 : Int) - 40, (y : Int) - 40, (p.2 : Int) - 40, (e : Int) - 40⟩

/-- The canonical rectangles of a set from row y on. -/
def canonF (G : Gr) : (n : Nat) → (y : Nat) → List Rc
  | 0, _ => []
  | n + 1, y => if y < 80 then rowRects G y (rowEnd' G y (y + 1)) ++ canonF G n (rowEnd' G y (y + 1)) else []
def canonFrom (G : Gr) (y : Nat) : List Rc := canonF G (80 - y) y
/-- The canonical form of a set. -/
def canon (G : Gr) : List Rc := canonFrom G 0

theorem canonF_enough (G : Gr) : ∀ n y, 80 - y ≤ n → canonF G n y = canonF G (80 - y) y := by
  intro n
  induction n using Nat.strongRecOn with
  | _ n ih =>
    intro y hy
    by_cases h80 : y < 80
    · obtain ⟨m, hm⟩ : ∃ m, 80 - y = m + 1 := ⟨80 - y - 1, by omega⟩
      obtain ⟨k, rfl⟩ : ∃ k, n = k + 1 := ⟨n - 1, by omega⟩
      rw [hm, canonF, canonF, if_pos h80, if_pos h80]
      have hge := rowEnd'_ge G y (y + 1)
      congr 1
      rw [ih k (by omega) _ (by omega)]
      by_cases hk : m < k + 1
      · rw [ih m hk _ (by omega)]
      · have : m = k := by omega
        subst this
        rw [ih m (by omega) _ (by omega)]
    · have e : 80 - y = 0 := by omega
      rw [e]
      cases n with
      | zero => rfl
      | succ n => simp [canonF, h80]

theorem canonFrom_step (G : Gr) (y : Nat) (h : y < 80) : canonFrom G y = rowRects G y (rowEnd' G y (y + 1)) ++ canonFrom G (rowEnd' G y (y + 1)) := by
  unfold canonFrom
  obtain ⟨m, hm⟩ : ∃ m, 80 - y = m + 1 := ⟨80 - y - 1, by omega⟩
  have hge := rowEnd'_ge G y (y + 1)
  rw [hm, canonF, if_pos h, canonF_enough G m _ (by omega)]
theorem canonFrom_end (G : Gr) (y : Nat) (h : 80 ≤ y) : canonFrom G y = [] := by
  unfold canonFrom
  have e : 80 - y = 0 := by omega
  rw [e]; rfl

/-- A list is a region. -/
def isReg (rs : List Rc) : Bool := decide (rs.length ≤ 3200) && okAll rs && decide (canon (cellsG rs) = rs)
theorem isReg_iff (rs : List Rc) : isReg rs = true ↔ rs.length ≤ 3200 ∧ okAll rs = true ∧ canon (cellsG rs) = rs := by
  simp [isReg, and_assoc]

end Go.Proofs.YtgegbgkokkdmpaaGreat

namespace Go.Proofs.YtgegbgkokkdmpaaGreat

theorem at_in (G : Gr) {y x : Nat} (hy : y < 80) (hx : x < 80) : at_ G y x = G (y * 80 + x) := by simp [at_, hy, hx]
theorem at_out (G : Gr) {y x : Nat} (hx : 80 ≤ x) : at_ G y x = false := by simp [at_]; omega

/-- Rows with the same changes are alike. -/
theorem row_of_turns {G : Gr} {a b : Nat} (ha : a < 80) (hb : b < 80) (h : ∀ x, x < 81 → turns G a x = turns G b x) : ∀ x, x < 80 → G (a * 80 + x) = G (b * 80 + x) := by
  intro x
  induction x with
  | zero =>
    intro hx
    have := h 0 (by omega)
    simpa [turns, at_in G ha hx, at_in G hb hx] using this
  | succ x ih =>
    intro hx
    have h1 := h (x + 1) (by omega)
    have h2 := ih (by omega)
    simp only [turns, at_in G ha hx, at_in G hb hx, Nat.add_sub_cancel, at_in G ha (show x < 80 by omega), at_in G hb (show x < 80 by omega), h2] at h1
    have e : decide (0 < x + 1) = true := by simp
    rw [e] at h1
    simp only [Bool.true_and] at h1
    revert h1
    cases G (a * 80 + (x + 1)) <;> cases G (b * 80 + (x + 1)) <;> cases G (b * 80 + x) <;> simp
theorem turns_of_row {G : Gr} {a b : Nat} (ha : a < 80) (hb : b < 80) (h : ∀ x, x < 80 → G (a * 80 + x) = G (b * 80 + x)) (x : Nat) : turns G a x = turns G b x := by
  have e : ∀ x, at_ G a x = at_ G b x := by
    intro x
    by_cases hx : x < 80
    · rw [at_in G ha hx, at_in G hb hx, h x hx]
    · rw [at_out G (by omega), at_out G (by omega)]
  simp only [turns, e]
theorem filter_eq_iff {n : Nat} {p q : Nat → Bool} : (List.range n).filter p = (List.range n).filter q ↔ ∀ x, x < n → p x = q x := by
  constructor
  · intro h x hx
    rw [Bool.eq_iff_iff]
    have h1 : x ∈ (List.range n).filter p ↔ x ∈ (List.range n).filter q := by rw [h]
    simpa [hx] using h1
  · intro h
    apply List.filter_congr
    intro x hx
    exact h x (by simpa using hx)
theorem turnsTo_eq_iff {G : Gr} {a b : Nat} (ha : a < 80) (hb : b < 80) : turnsTo G a 81 = turnsTo G b 81 ↔ rowEq G a b = true := by
  rw [rowEq_iff]
  constructor
  · intro h
    exact row_of_turns ha hb (filter_eq_iff.1 h)
  · intro h
    exact filter_eq_iff.2 fun x _ => turns_of_row ha hb h x

/-- The changes of a row as the reference lists them. -/
def runsL (G : Gr) (a : Nat) : List Int := (turnsTo G a 81).map fun x : Nat => (x : Int) - 40
theorem runsL_eq_iff {G : Gr} {a b : Nat} (ha : a < 80) (hb : b < 80) : decide (runsL G a = runsL G b) = rowEq G a b := by
  rw [Bool.eq_iff_iff, decide_eq_true_iff, ← turnsTo_eq_iff ha hb]
  constructor
  · intro h
    have hinj : ∀ (l m : List Nat), l.map (fun x : Nat => (x : Int) - 40) = m.map (fun x : Nat => (x : Int) - 40) → l = m := by
      intro l
      induction l with
      | nil => intro m hm; cases m <;> simp_all
      | cons x l ih =>
        intro m hm
        cases m with
        | nil => simp at hm
        | cons y m =>
          simp only [List.map_cons, List.cons.injEq] at hm
          rw [ih m hm.2]
          congr 1
          omega
    exact hinj _ _ h
  · intro h
    rw [runsL, h]; rfl
theorem runsL_length (G : Gr) (a : Nat) : (runsL G a).length ≤ 81 := by
  rw [runsL, List.length_map, turnsTo]
  exact Nat.le_trans (List.length_filter_le _ _) (by simp)

theorem pairs_short {α : Type} {l : List α} (h : l.length ≤ 1) : pairs l = [] := by
  match l, h with
  | [], _ => rfl
  | [a], _ => rfl
theorem pairs_drop {α : Type} {l : List α} {i : Nat} {a b : α} (ha : l[i]? = some a) (hb : l[i + 1]? = some b) : pairs (l.drop i) = (a, b) :: pairs (l.drop (i + 2)) := by
  have h0 : i < l.length := (List.getElem?_eq_some_iff.1 ha).1
  have h1 : i + 1 < l.length := (List.getElem?_eq_some_iff.1 hb).1
  have e0 : l[i] = a := by rw [List.getElem?_eq_getElem h0] at ha; exact Option.some.inj ha
  have e1 : l[i + 1] = b := by rw [List.getElem?_eq_getElem h1] at hb; exact Option.some.inj hb
  rw [List.drop_eq_getElem_cons h0, List.drop_eq_getElem_cons h1, e0, e1]
  rfl

/-- The rectangles of the changes from place i on. -/
def restR (G : Gr) (a e i : Nat) : List Rc := (pairs ((turnsTo G a 81).drop i)).map fun p => ⟨(p.1 : Int) - 40, (a : Int) - 40, (p.2 : Int) - 40, (e : Int) - 40⟩
theorem restR_zero (G : Gr) (a e : Nat) : restR G a e 0 = rowRects G a e := rfl
theorem restR_end (G : Gr) (a e i : Nat) (h : (runsL G a).length ≤ i + 1) : restR G a e i = [] := by
  rw [runsL, List.length_map] at h
  rw [restR, pairs_short (by rw [List.length_drop]; omega)]
  rfl
theorem restR_step (G : Gr) (a e i : Nat) (p q : Int) (hp : (runsL G a)[i]? = some p) (hq : (runsL G a)[i + 1]? = some q) : restR G a e i = ⟨p, (a : Int) - 40, q, (e : Int) - 40⟩ :: restR G a e (i + 2) := by
  rw [runsL, List.getElem?_map] at hp hq
  obtain ⟨p', hp', rfl⟩ := Option.map_eq_some_iff.1 hp
  obtain ⟨q', hq', rfl⟩ := Option.map_eq_some_iff.1 hq
  rw [restR, pairs_drop hp' hq']
  rfl

/-! ## The runs of a row, scanned from the left -/

/-- The changes of a row from n on. -/
def turnsFrom (G : Gr) (a n : Nat) : List Nat := (List.range' n (81 - n)).filter (turns G a)
theorem turnsFrom_zero (G : Gr) (a : Nat) : turnsFrom G a 0 = turnsTo G a 81 := by rw [turnsFrom, turnsTo, List.range_eq_range']
theorem turnsFrom_end (G : Gr) (a n : Nat) (h : 81 ≤ n) : turnsFrom G a n = [] := by
  have : 81 - n = 0 := by omega
  rw [turnsFrom, this]; rfl
theorem turnsFrom_step (G : Gr) (a n : Nat) (h : n < 81) : turnsFrom G a n = (if turns G a n = true then [n] else []) ++ turnsFrom G a (n + 1) := by
  have e : 81 - n = (81 - (n + 1)) + 1 := by omega
  rw [turnsFrom, e, List.range'_succ, List.filter_cons, turnsFrom]
  split <;> rfl
/-- The cell before n isn't set. -/
def openAt (G : Gr) (a n : Nat) : Prop := n = 0 ∨ at_ G a (n - 1) = false
theorem turns_open {G : Gr} {a n : Nat} (h : openAt G a n) : turns G a n = at_ G a n := by
  unfold turns
  rcases h with rfl | h
  · simp
  · rw [h]; simp
theorem turnsFrom_skip {G : Gr} {a n : Nat} (hn : n < 81) (ho : openAt G a n) (h : at_ G a n = false) : turnsFrom G a n = turnsFrom G a (n + 1) := by
  rw [turnsFrom_step G a n hn, turns_open ho, h]; rfl
theorem openAt_succ {G : Gr} {a n : Nat} (h : at_ G a n = false) : openAt G a (n + 1) := .inr (by rw [Nat.add_sub_cancel]; exact h)
theorem turnsFrom_inside {G : Gr} {a : Nat} : ∀ (d n : Nat), n + d ≤ 80 → (∀ k, n ≤ k → k < n + d → at_ G a k = true) → (0 < n ∧ at_ G a (n - 1) = true) → turnsFrom G a n = turnsFrom G a (n + d) := by
  intro d
  induction d with
  | zero => intro n _ _ _; rfl
  | succ d ih =>
    intro n hn hk hp
    have h0 := hk n (Nat.le_refl _) (by omega)
    have ht : turns G a n = false := by
      unfold turns
      rw [h0, hp.2, decide_eq_true hp.1]
      rfl
    rw [turnsFrom_step G a n (by omega), ht]
    have := ih (n + 1) (by omega) (fun k h1 h2 => hk k (by omega) (by omega)) ⟨by omega, by rw [Nat.add_sub_cancel]; exact h0⟩
    have e : n + 1 + d = n + (d + 1) := by omega
    rw [e] at this
    rw [← this]
    rfl
theorem turnsFrom_run {G : Gr} {a n m : Nat} (ho : openAt G a n) (hnm : n < m) (hm : m ≤ 80) (hk : ∀ k, n ≤ k → k < m → at_ G a k = true) (he : at_ G a m = false) : turnsFrom G a n = n :: m :: turnsFrom G a (m + 1) := by
  have h0 := hk n (Nat.le_refl _) hnm
  rw [turnsFrom_step G a n (by omega), turns_open ho, h0]
  have h1 : turnsFrom G a (n + 1) = turnsFrom G a m := by
    have := turnsFrom_inside (G := G) (a := a) (m - (n + 1)) (n + 1) (by omega) (fun k h1 h2 => hk k (by omega) (by omega)) ⟨by omega, by rw [Nat.add_sub_cancel]; exact h0⟩
    have e : n + 1 + (m - (n + 1)) = m := by omega
    rwa [e] at this
  have ht : turns G a m = true := by
    unfold turns
    rw [he, hk (m - 1) (by omega) (by omega), decide_eq_true (show 0 < m by omega)]
    rfl
  rw [h1, turnsFrom_step G a m (by omega), ht]
  rfl

/-- The rectangles of the runs from n on. -/
def restX (G : Gr) (a e n : Nat) : List Rc := (pairs (turnsFrom G a n)).map fun p => ⟨(p.1 : Int) - 40, (a : Int) - 40, (p.2 : Int) - 40, (e : Int) - 40⟩
theorem restX_zero (G : Gr) (a e : Nat) : restX G a e 0 = rowRects G a e := by rw [restX, turnsFrom_zero]; rfl
theorem restX_skip {G : Gr} {a e n : Nat} (hn : n < 80) (ho : openAt G a n) (h : at_ G a n = false) : restX G a e n = restX G a e (n + 1) := by rw [restX, turnsFrom_skip (by omega) ho h]; rfl
theorem restX_run {G : Gr} {a e n m : Nat} (ho : openAt G a n) (hnm : n < m) (hm : m ≤ 80) (hk : ∀ k, n ≤ k → k < m → at_ G a k = true) (he : at_ G a m = false) :
    restX G a e n = ⟨(n : Int) - 40, (a : Int) - 40, (m : Int) - 40, (e : Int) - 40⟩ :: restX G a e (m + 1) := by rw [restX, turnsFrom_run ho hnm hm hk he]; rfl
theorem restX_end {G : Gr} {a e n : Nat} (hn : 80 ≤ n) (ho : openAt G a n) : restX G a e n = [] := by
  by_cases h : n = 80
  · subst h
    rw [restX, turnsFrom_skip (by omega) ho (at_out G (Nat.le_refl _)), turnsFrom_end G a _ (by omega)]; rfl
  · rw [restX, turnsFrom_end G a n (by omega)]; rfl

/-- Few rectangles. -/
theorem pairs_length {α : Type} : ∀ l : List α, (pairs l).length ≤ l.length
  | [] => Nat.le_refl _
  | [a] => by simp [pairs]
  | a :: b :: l => by have := pairs_length l; simp only [pairs, List.length_cons]; omega
theorem rowRects_length (G : Gr) (a e : Nat) : (rowRects G a e).length ≤ 81 := by
  have h1 := pairs_length (turnsTo G a 81)
  have h2 := runsL_length G a
  rw [runsL, List.length_map] at h2
  rw [rowRects, List.length_map]
  omega
theorem canonFrom_length (G : Gr) : ∀ n y, 80 - y ≤ n → (canonFrom G y).length ≤ n * 81 := by
  intro n
  induction n with
  | zero => intro y hy; rw [canonFrom_end G y (by omega)]; simp
  | succ n ih =>
    intro y hy
    by_cases h : y < 80
    · have hge := rowEnd'_ge G y (y + 1)
      rw [canonFrom_step G y h, List.length_append, Nat.add_mul]
      have h1 := ih (rowEnd' G y (y + 1)) (by omega)
      have h2 := rowRects_length G y (rowEnd' G y (y + 1))
      omega
    · rw [canonFrom_end G y (by omega)]; simp
theorem canon_length (G : Gr) : (canon G).length ≤ 6480 := canonFrom_length G 80 0 (by omega)

end Go.Proofs.YtgegbgkokkdmpaaGreat

namespace Go.Proofs.YtgegbgkokkdmpaaGreat

/-- The number of cells of a rectangle. -/
def areaR (r : Rc) : Int := (r.x1 - r.x0) * (r.y1 - r.y0)
theorem areaR_bounds {r : Rc} (h : okRc r = true) : 1 ≤ areaR r ∧ areaR r ≤ 6400 := by
  rw [okRc_iff] at h
  unfold areaR
  obtain ⟨a, ha⟩ : ∃ a : Int, a = r.x1 - r.x0 := ⟨_, rfl⟩
  obtain ⟨b, hb⟩ : ∃ b : Int, b = r.y1 - r.y0 := ⟨_, rfl⟩
  rw [← ha, ← hb]
  have h1 : 1 ≤ a ∧ a ≤ 80 := by omega
  have h2 : 1 ≤ b ∧ b ≤ 80 := by omega
  constructor
  · have := Int.mul_le_mul h1.1 h2.1 (by omega) (by omega)
    omega
  · have := Int.mul_le_mul h1.2 h2.2 (by omega) (by omega)
    omega

/-- The number of cells of a list, rectangle by rectangle. -/
def sumA : List Rc → Int
  | [] => 0
  | r :: rs => areaR r + sumA rs
theorem sumA_append (a b : List Rc) : sumA (a ++ b) = sumA a + sumA b := by
  induction a with
  | nil => simp [sumA]
  | cons r a ih => simp only [List.cons_append, sumA, ih]; omega
theorem sumA_take_succ {rs : List Rc} {k : Nat} {r : Rc} (h : rs[k]? = some r) : sumA (rs.take (k + 1)) = sumA (rs.take k) + areaR r := by
  rw [List.take_add_one, h, sumA_append]
  simp [sumA]
theorem sumA_bounds {rs : List Rc} (h : rs.all okRc = true) : 0 ≤ sumA rs ∧ sumA rs ≤ rs.length * 6400 := by
  induction rs with
  | nil => simp [sumA]
  | cons r rs ih =>
    rw [List.all_cons, Bool.and_eq_true] at h
    have h1 := areaR_bounds h.1
    have h2 := ih h.2
    simp only [sumA, List.length_cons]
    omega

/-- The widths of the pairs of an increasing list. -/
theorem widths {l : List Nat} (hp : l.Pairwise (· < ·)) : ∀ lo hi : Nat, lo ≤ hi → (∀ x ∈ l, lo ≤ x ∧ x ≤ hi) → ((pairs l).map fun p => (p.2 - p.1 : Nat)).sum ≤ hi - lo := by
  match l, hp with
  | [], _ => intros; simp [pairs]
  | [a], _ => intros; simp [pairs]
  | a :: b :: l, hp =>
    intro lo hi hlo h
    simp only [pairs, List.map_cons, List.sum_cons]
    have ha := h a (by simp)
    have hb := h b (by simp)
    have hp1 := List.pairwise_cons.1 hp
    have hp2 := List.pairwise_cons.1 hp1.2
    have hab := hp1.1 b (by simp)
    have := widths hp2.2 b hi hb.2 (fun x hx => ⟨Nat.le_of_lt (hp2.1 x hx), (h x (by simp [hx])).2⟩)
    omega
theorem pairs_lt {l : List Nat} (hp : l.Pairwise (· < ·)) : ∀ p ∈ pairs l, p.1 < p.2 := by
  match l, hp with
  | [], _ => simp [pairs]
  | [a], _ => simp [pairs]
  | a :: b :: l, hp =>
    intro p h
    have hp1 := List.pairwise_cons.1 hp
    have hp2 := List.pairwise_cons.1 hp1.2
    simp only [pairs, List.mem_cons] at h
    rcases h with rfl | h
    · exact hp1.1 b (by simp)
    · exact pairs_lt hp2.2 p h
theorem turnsTo_lt (G : Gr) (y n : Nat) : (turnsTo G y n).Pairwise (· < ·) := (List.pairwise_lt_range).filter _
theorem turnsTo_le (G : Gr) (y n : Nat) : ∀ x ∈ turnsTo G y n, x < n := by
  intro x hx
  rw [turnsTo, List.mem_filter] at hx
  exact List.mem_range.1 hx.1

theorem sumA_rows (y e : Nat) (ps : List (Nat × Nat)) (h : ∀ p ∈ ps, p.1 < p.2) (hy : y ≤ e) :
    sumA (ps.map fun p => ⟨(p.1 : Int) - 40, (y : Int) - 40, (p.2 : Int) - 40, (e : Int) - 40⟩) = ((ps.map fun p => (p.2 - p.1 : Nat)).sum : Nat) * ((e - y : Nat) : Int) := by
  induction ps with
  | nil => simp [sumA]
  | cons p ps ih =>
    have h1 := h p (by simp)
    have h2 := ih (fun q hq => h q (by simp [hq]))
    simp only [List.map_cons, sumA, List.sum_cons, h2, areaR]
    have e1 : (p.2 : Int) - 40 - ((p.1 : Int) - 40) = ((p.2 - p.1 : Nat) : Int) := by omega
    have e2 : (e : Int) - 40 - ((y : Int) - 40) = ((e - y : Nat) : Int) := by omega
    rw [e1, e2, Int.natCast_add, Int.add_mul]
theorem sumA_rowRects (G : Gr) (y e : Nat) (hy : y ≤ e) : 0 ≤ sumA (rowRects G y e) ∧ sumA (rowRects G y e) ≤ 80 * ((e - y : Nat) : Int) := by
  rw [rowRects, sumA_rows y e _ (pairs_lt (turnsTo_lt G y 81)) hy]
  have hw := widths (turnsTo_lt G y 81) 0 80 (by omega) (fun x hx => ⟨Nat.zero_le _, by have := turnsTo_le G y 81 x hx; omega⟩)
  generalize ((pairs (turnsTo G y 81)).map fun p => (p.2 - p.1 : Nat)).sum = s at hw ⊢
  constructor
  · exact Int.mul_nonneg (by omega) (by omega)
  · exact Int.mul_le_mul_of_nonneg_right (by omega) (by omega)
theorem sumA_canonFrom (G : Gr) : ∀ n y, 80 - y ≤ n → 0 ≤ sumA (canonFrom G y) ∧ sumA (canonFrom G y) ≤ 80 * ((80 - y : Nat) : Int) := by
  intro n
  induction n with
  | zero => intro y hy; rw [canonFrom_end G y (by omega)]; simp [sumA]; omega
  | succ n ih =>
    intro y hy
    by_cases h : y < 80
    · have hge := rowEnd'_ge G y (y + 1)
      have hle := rowEnd'_le G y (y + 1) (by omega)
      rw [canonFrom_step G y h, sumA_append]
      have h1 := ih (rowEnd' G y (y + 1)) (by omega)
      have h2 := sumA_rowRects G y (rowEnd' G y (y + 1)) (by omega)
      omega
    · rw [canonFrom_end G y (by omega)]; simp [sumA]; omega
theorem sumA_canon (G : Gr) : sumA (canon G) ≤ 6400 := by
  have := sumA_canonFrom G 80 0 (by omega)
  rw [canon]
  omega

end Go.Proofs.YtgegbgkokkdmpaaGreat

namespace Go.Proofs.YtgegbgkokkdmpaaGreat

theorem cmRun_end {G : Gr} {a : Nat} : ∀ (d n : Nat), 80 - n ≤ d → n < 80 → at_ G a n = true → ∃ m, n < m ∧ m ≤ 80 ∧ (∀ k, n ≤ k → k < m → at_ G a k = true) ∧ at_ G a m = false := by
  intro d
  induction d with
  | zero => intro n hd hn; omega
  | succ d ih =>
    intro n hd hn hs
    by_cases h1 : at_ G a (n + 1) = true
    · have hn1 : n + 1 < 80 := by
        rcases Nat.lt_or_ge (n + 1) 80 with h | h
        · exact h
        · rw [at_out G h] at h1; cases h1
      obtain ⟨m, h2, h3, h4, h5⟩ := ih (n + 1) (by omega) hn1 h1
      refine ⟨m, by omega, h3, fun k hk hk' => ?_, h5⟩
      by_cases e : k = n
      · rw [e]; exact hs
      · exact h4 k (by omega) hk'
    · refine ⟨n + 1, by omega, by omega, fun k hk hk' => ?_, by simpa using h1⟩
      have e : k = n := by omega
      rw [e]; exact hs

theorem pairs_first {α : Type} : ∀ (l : List α) (p : α × α), p ∈ pairs l → p.1 ∈ l ∧ p.2 ∈ l
  | [], p, h => by simp [pairs] at h
  | [a], p, h => by simp [pairs] at h
  | a :: b :: l, p, h => by
    simp only [pairs, List.mem_cons] at h
    rcases h with rfl | h
    · simp
    · have := pairs_first l p h
      simp [this]
theorem turnsFrom_ge {G : Gr} {a n x : Nat} (h : x ∈ turnsFrom G a n) : n ≤ x := by
  rw [turnsFrom, List.mem_filter, List.mem_range'_1] at h
  exact h.1.1
/-- Does a pair hold a place? -/
def holds (x : Nat) (p : Nat × Nat) : Bool := decide (p.1 ≤ x) && decide (x < p.2)
theorem none_before {G : Gr} {a n x : Nat} (h : x < n) : (pairs (turnsFrom G a n)).countP (holds x) = 0 := by
  rw [List.countP_eq_zero]
  intro p hp
  have h1 := turnsFrom_ge (pairs_first _ _ hp).1
  have : ¬ p.1 ≤ x := by omega
  simp [holds, this]

theorem pairs_count {G : Gr} {a : Nat} : ∀ (d n : Nat), 81 - n ≤ d → openAt G a n → ∀ x, n ≤ x → x < 80 → (pairs (turnsFrom G a n)).countP (holds x) = if at_ G a x = true then 1 else 0 := by
  intro d
  induction d with
  | zero => intro n hd _ x h1 h2; omega
  | succ d ih =>
    intro n hd ho x h1 h2
    by_cases hs : at_ G a n = true
    · obtain ⟨m, hm0, hm1, hall, hend⟩ := cmRun_end 80 n (by omega) (by omega) hs
      rw [turnsFrom_run ho hm0 hm1 hall hend]
      simp only [pairs, List.countP_cons]
      by_cases hx : x < m
      · rw [none_before (show x < m + 1 by omega), hall x h1 hx]
        simp [holds, h1, hx]
      · have hh : holds x (n, m) = false := by simp [holds]; omega
        rw [hh]
        by_cases e : x = m
        · subst e
          rw [none_before (Nat.lt_succ_self _), hend]; rfl
        · rw [ih (m + 1) (by omega) (openAt_succ hend) x (by omega) h2]; simp
    · have hs' : at_ G a n = false := by simpa using hs
      rw [turnsFrom_skip (by omega) ho hs']
      by_cases e : x = n
      · subst e
        rw [none_before (Nat.lt_succ_self _), hs']; rfl
      · exact ih (n + 1) (by omega) (openAt_succ hs') x (by omega) h2

theorem rowEnd_same {G : Gr} {y : Nat} : ∀ (n e r : Nat), e ≤ r → r < rowEnd G y n e → rowEq G r y = true := by
  intro n
  induction n with
  | zero => intro e r h1 h2; rw [rowEnd] at h2; omega
  | succ n ih =>
    intro e r h1 h2
    rw [rowEnd] at h2
    split at h2
    · rename_i hc
      by_cases e' : r = e
      · rw [e']; exact hc.2
      · exact ih (e + 1) r (by omega) h2
    · omega

/-- How many rectangles of a list hold a cell. -/
def cntR (rs : List Rc) (i : Nat) : Nat := rs.countP fun r => inR r i
theorem cntR_append (a b : List Rc) (i : Nat) : cntR (a ++ b) i = cntR a i + cntR b i := List.countP_append
theorem cntR_row (G : Gr) (y e : Nat) (i : Nat) (_hi : i < 6400) (hy : y < 80) : cntR (rowRects G y e) i = if y ≤ i / 80 ∧ i / 80 < e ∧ G (y * 80 + i % 80) = true then 1 else 0 := by
  have hx : i % 80 < 80 := Nat.mod_lt _ (by omega)
  have h1 : cntR (rowRects G y e) i = if y ≤ i / 80 ∧ i / 80 < e then (pairs (turnsTo G y 81)).countP (holds (i % 80)) else 0 := by
    rw [cntR, rowRects, List.countP_map]
    split
    · rename_i h
      apply List.countP_congr
      intro p _
      simp only [Function.comp, inR_iff, holds, Bool.and_eq_true, decide_eq_true_eq]
      omega
    · rename_i h
      rw [List.countP_eq_zero]
      intro p _
      simp only [Function.comp, inR_iff]
      omega
  rw [h1, ← turnsFrom_zero, pairs_count 81 0 (by omega) (.inl rfl) _ (Nat.zero_le _) hx, at_in G hy hx]
  by_cases h : y ≤ i / 80 ∧ i / 80 < e
  · rw [if_pos h]
    simp [h.1, h.2]
  · rw [if_neg h, if_neg (fun h' => h ⟨h'.1, h'.2.1⟩)]

theorem cntR_from (G : Gr) (i : Nat) (hi : i < 6400) : ∀ n y, 80 - y ≤ n → cntR (canonFrom G y) i = if y ≤ i / 80 ∧ G i = true then 1 else 0 := by
  intro n
  have hrow : i / 80 < 80 := by omega
  induction n with
  | zero => intro y hy; rw [canonFrom_end G y (by omega), if_neg (by omega)]; rfl
  | succ n ih =>
    intro y hy
    by_cases h : y < 80
    · have hge := rowEnd'_ge G y (y + 1)
      rw [canonFrom_step G y h, cntR_append, cntR_row G y _ i hi h, ih _ (by omega)]
      by_cases h1 : y ≤ i / 80
      · by_cases h2 : i / 80 < rowEnd' G y (y + 1)
        · have hG : G (y * 80 + i % 80) = G i := by
            by_cases e : i / 80 = y
            · congr 1; omega
            · have := rowEnd_same (80 - (y + 1)) (y + 1) (i / 80) (by omega) h2
              rw [rowEq_iff] at this
              have h3 := this (i % 80) (Nat.mod_lt _ (by omega))
              rw [← h3]
              congr 1; omega
          rw [hG, if_neg (show ¬ (rowEnd' G y (y + 1) ≤ i / 80 ∧ G i = true) by omega)]
          simp [h1, h2]
        · rw [if_neg (show ¬ (y ≤ i / 80 ∧ i / 80 < rowEnd' G y (y + 1) ∧ G (y * 80 + i % 80) = true) by omega)]
          have : rowEnd' G y (y + 1) ≤ i / 80 := by omega
          simp [h1, this]
      · rw [if_neg (by omega), if_neg (by omega), if_neg (by omega)]
    · rw [canonFrom_end G y (by omega), if_neg (by omega)]; rfl
/-- Each cell of a set lies in just one rectangle of the canonical form, no other cell in any. -/
theorem cntR_canon (G : Gr) (i : Nat) (hi : i < 6400) : cntR (canon G) i = if G i = true then 1 else 0 := by
  rw [canon, cntR_from G i hi 80 0 (by omega)]
  simp
theorem cellsG_cnt (rs : List Rc) (i : Nat) : cellsG rs i = decide (0 < cntR rs i) := by
  rw [Bool.eq_iff_iff, decide_eq_true_iff, cntR, List.countP_pos_iff, cellsG, List.any_eq_true]
/-- The cells of the canonical form are the set. -/
theorem cells_canon (G : Gr) : sameG (cellsG (canon G)) G := by
  intro i hi
  rw [cellsG_cnt, cntR_canon G i hi]
  cases G i <;> simp

/-! ## The canonical form hangs on the cells of the chip alone -/
theorem at_congr {G H : Gr} (h : sameG G H) (y x : Nat) : at_ G y x = at_ H y x := by
  by_cases hy : y < 80
  · by_cases hx : x < 80
    · rw [at_in G hy hx, at_in H hy hx, h _ (by omega)]
    · rw [at_out G (by omega), at_out H (by omega)]
  · simp [at_, hy]
theorem turns_congr {G H : Gr} (h : sameG G H) (y x : Nat) : turns G y x = turns H y x := by simp only [turns, at_congr h]
theorem turnsTo_congr {G H : Gr} (h : sameG G H) (y n : Nat) : turnsTo G y n = turnsTo H y n := List.filter_congr fun x _ => turns_congr h y x
theorem rowEq_congr {G H : Gr} (h : sameG G H) {a b : Nat} (ha : a < 80) (hb : b < 80) : rowEq G a b = rowEq H a b := by
  rw [Bool.eq_iff_iff, rowEq_iff, rowEq_iff]
  constructor
  · intro k x hx
    rw [← h _ (by omega), ← h _ (by omega)]
    exact k x hx
  · intro k x hx
    rw [h _ (by omega), h _ (by omega)]
    exact k x hx
theorem rowEnd_congr {G H : Gr} (h : sameG G H) {y : Nat} (hy : y < 80) : ∀ n e, rowEnd G y n e = rowEnd H y n e := by
  intro n
  induction n with
  | zero => intro e; rfl
  | succ n ih =>
    intro e
    rw [rowEnd, rowEnd, ih]
    by_cases he : e < 80
    · rw [rowEq_congr h he hy]
    · rw [if_neg (by omega), if_neg (by omega)]
theorem canonFrom_congr {G H : Gr} (h : sameG G H) : ∀ n y, 80 - y ≤ n → canonFrom G y = canonFrom H y := by
  intro n
  induction n with
  | zero => intro y hy; rw [canonFrom_end G y (by omega), canonFrom_end H y (by omega)]
  | succ n ih =>
    intro y hy
    by_cases hlt : y < 80
    · have e1 : rowEnd' G y (y + 1) = rowEnd' H y (y + 1) := rowEnd_congr h hlt _ _
      have hge := rowEnd'_ge H y (y + 1)
      rw [canonFrom_step G y hlt, canonFrom_step H y hlt, e1, ih _ (by omega)]
      congr 1
      rw [rowRects, rowRects, turnsTo_congr h]
    · rw [canonFrom_end G y (by omega), canonFrom_end H y (by omega)]
theorem canon_congr {G H : Gr} (h : sameG G H) : canon G = canon H := canonFrom_congr h 80 0 (by omega)

/-! ## The canonical form is a region -/
theorem pairs_half {α : Type} : ∀ l : List α, 2 * (pairs l).length ≤ l.length
  | [] => Nat.le_refl _
  | [a] => by simp [pairs]
  | a :: b :: l => by have := pairs_half l; simp only [pairs, List.length_cons]; omega
theorem rowRects_few (G : Gr) (a e : Nat) : (rowRects G a e).length ≤ 40 := by
  have h1 := pairs_half (turnsTo G a 81)
  have h2 := runsL_length G a
  rw [runsL, List.length_map] at h2
  rw [rowRects, List.length_map]
  omega
theorem canonFrom_few (G : Gr) : ∀ n y, 80 - y ≤ n → (canonFrom G y).length ≤ n * 40 := by
  intro n
  induction n with
  | zero => intro y hy; rw [canonFrom_end G y (by omega)]; simp
  | succ n ih =>
    intro y hy
    by_cases h : y < 80
    · have hge := rowEnd'_ge G y (y + 1)
      rw [canonFrom_step G y h, List.length_append, Nat.add_mul]
      have h1 := ih (rowEnd' G y (y + 1)) (by omega)
      have h2 := rowRects_few G y (rowEnd' G y (y + 1))
      omega
    · rw [canonFrom_end G y (by omega)]; simp
theorem canon_few (G : Gr) : (canon G).length ≤ 3200 := canonFrom_few G 80 0 (by omega)
theorem rowRects_ok (G : Gr) (y e : Nat) (hy : y < e) (he : e ≤ 80) : ∀ r ∈ rowRects G y e, okRc r = true := by
  intro r hr
  rw [rowRects, List.mem_map] at hr
  obtain ⟨p, hp, rfl⟩ := hr
  have h1 := pairs_lt (turnsTo_lt G y 81) p hp
  have h2 := turnsTo_le G y 81 _ (pairs_first _ _ hp).2
  rw [okRc_iff]
  dsimp only
  omega
theorem canonFrom_ok (G : Gr) : ∀ n y, 80 - y ≤ n → ∀ r ∈ canonFrom G y, okRc r = true := by
  intro n
  induction n with
  | zero => intro y hy r hr; rw [canonFrom_end G y (by omega)] at hr; simp at hr
  | succ n ih =>
    intro y hy r hr
    by_cases h : y < 80
    · have hge := rowEnd'_ge G y (y + 1)
      have hle := rowEnd'_le G y (y + 1) (by omega)
      rw [canonFrom_step G y h, List.mem_append] at hr
      rcases hr with hr | hr
      · exact rowRects_ok G y _ (by omega) hle r hr
      · exact ih _ (by omega) r hr
    · rw [canonFrom_end G y (by omega)] at hr; simp at hr
theorem canon_ok (G : Gr) : okAll (canon G) = true := by
  rw [okAll, List.all_eq_true]
  exact canonFrom_ok G 80 0 (by omega)
theorem isReg_canon (G : Gr) : isReg (canon G) = true := by
  rw [isReg_iff]
  exact ⟨canon_few G, canon_ok G, canon_congr (cells_canon G)⟩
/-- A region is the canonical form of its cells. -/
theorem canon_of_reg {rs : List Rc} (h : isReg rs = true) : canon (cellsG rs) = rs := ((isReg_iff rs).1 h).2.2
theorem okAll_of_reg {rs : List Rc} (h : isReg rs = true) : okAll rs = true := ((isReg_iff rs).1 h).2.1

end Go.Proofs.YtgegbgkokkdmpaaGreat

namespace Go.Proofs.YtgegbgkokkdmpaaGreat

/-- The flat index of a unit cell. -/
def ix (x y : Int) : Int := (y + 40) * 80 + x + 40
/-- x and y lie on the chip. -/
def onC (x y : Int) : Bool := decide (-40 ≤ x ∧ x ≤ 39 ∧ -40 ≤ y ∧ y ≤ 39)
theorem onC_iff (x y : Int) : onC x y = true ↔ -40 ≤ x ∧ x ≤ 39 ∧ -40 ≤ y ∧ y ≤ 39 := by simp [onC]
theorem onC_no {x y : Int} (h : ¬ (-40 ≤ x ∧ x ≤ 39 ∧ -40 ≤ y ∧ y ≤ 39)) : onC x y = false := decide_eq_false h
/-- The index, as the program reckons it. -/
theorem ix_nat {x y : Int} (h : onC x y = true) : (ix x y).toNat = (y + 40).toNat * 80 + (x + 40).toNat ∧ (y + 40).toNat * 80 + (x + 40).toNat < 6400 := by
  rw [onC_iff] at h
  unfold ix
  omega
/-- A set has the cell (x, y); false outside the chip. -/
def hasG (G : Gr) (x y : Int) : Bool := onC x y && G (ix x y).toNat
theorem hasG_on {G : Gr} {x y : Int} (h : onC x y = true) : hasG G x y = G (ix x y).toNat := by simp [hasG, h]
theorem hasG_off {G : Gr} {x y : Int} (h : onC x y = false) : hasG G x y = false := by simp [hasG, h]
theorem hasG_in {G : Gr} {x y : Int} (h : hasG G x y = true) : -40 ≤ x ∧ x ≤ 39 ∧ -40 ≤ y ∧ y ≤ 39 := by
  rw [hasG, Bool.and_eq_true] at h
  exact (onC_iff x y).1 h.1
theorem hasG_nat (G : Gr) (a n : Nat) : hasG G ((n : Int) - 40) ((a : Int) - 40) = at_ G a n := by
  by_cases h : n < 80 ∧ a < 80
  · have hc : onC ((n : Int) - 40) ((a : Int) - 40) = true := (onC_iff _ _).2 (by omega)
    rw [hasG_on hc, at_in G h.2 h.1]
    congr 1
    unfold ix
    omega
  · have hc : onC ((n : Int) - 40) ((a : Int) - 40) = false := onC_no (by omega)
    rw [hasG_off hc]
    unfold at_
    by_cases ha : a < 80
    · have : ¬ n < 80 := by omega
      simp [this]
    · simp [ha]

section
variable (p : Int → Bool)
def goDown : Nat → Int → Int
  | 0, x => x
  | n + 1, x => if p (x - 1) = true then goDown n (x - 1) else x
/-- The lowest place that is reached from x over cells that are set. -/
def lowOf (x : Int) : Int := goDown p (x + 41).toNat x
def goUp : Nat → Int → Int
  | 0, x => x
  | n + 1, x => if p x = true then goUp n (x + 1) else x
/-- The place behind the last cell that is set, from x on. -/
def highOf (x : Int) : Int := goUp p (41 - x).toNat x
variable {p} {x : Int}
theorem lowOf_step (h : p (x - 1) = true) (hx : -40 ≤ x - 1) : lowOf p x = lowOf p (x - 1) := by
  have e : (x + 41).toNat = (x - 1 + 41).toNat + 1 := by omega
  rw [lowOf, e, goDown, if_pos h]; rfl
theorem lowOf_stop (h : p (x - 1) = false) : lowOf p x = x := by
  unfold lowOf
  cases (x + 41).toNat with
  | zero => rfl
  | succ n => rw [goDown, if_neg (by rw [h]; simp)]
theorem highOf_step (h : p x = true) (hx : x ≤ 39) : highOf p x = highOf p (x + 1) := by
  have e : (41 - x).toNat = (41 - (x + 1)).toNat + 1 := by omega
  rw [highOf, e, goUp, if_pos h]; rfl
theorem highOf_stop (h : p x = false) : highOf p x = x := by
  unfold highOf
  cases (41 - x).toNat with
  | zero => rfl
  | succ n => rw [goUp, if_neg (by rw [h]; simp)]
/-- All from x on below z are set, z is not: z is the end. -/
theorem highOf_all : ∀ (d : Nat) (x : Int), (∀ t, x ≤ t → t < x + d → p t = true ∧ t ≤ 39) → p (x + d) = false → highOf p x = x + d := by
  intro d
  induction d with
  | zero => intro x _ h; rw [highOf_stop (by simpa using h)]; simp
  | succ d ih =>
    intro x h he
    have h0 := h x (by omega) (by omega)
    rw [highOf_step h0.1 h0.2, ih (x + 1) (fun t h1 h2 => h t (by omega) (by omega)) (by rw [← he]; congr 1; omega)]
    omega
end

/-- The run through a cell, in its row, or in its column if vertical. -/
def runR (G : Gr) (x y : Int) (vertical : Bool) : Rc :=
  if vertical = true then ⟨x, lowOf (fun t => hasG G x t) y, x + 1, highOf (fun t => hasG G x t) (y + 1)⟩
  else ⟨lowOf (fun t => hasG G t y) x, y, highOf (fun t => hasG G t y) (x + 1), y + 1⟩

end Go.Proofs.YtgegbgkokkdmpaaGreat

namespace Go.Proofs.YtgegbgkokkdmpaaGreat

/-- f a + f (a + 1) + .., n terms. -/
def sumI (f : Int → Int) (a : Int) : Nat → Int
  | 0 => 0
  | n + 1 => sumI f a n + f (a + n)
theorem sumI_add (f g : Int → Int) (a : Int) : ∀ n : Nat, sumI (fun x => f x + g x) a n = sumI f a n + sumI g a n
  | 0 => rfl
  | n + 1 => by simp only [sumI, sumI_add f g a n]; omega
theorem sumI_congr {f g : Int → Int} {a : Int} : ∀ n : Nat, (∀ x, a ≤ x → x < a + (n : Int) → f x = g x) → sumI f a n = sumI g a n
  | 0, _ => rfl
  | n + 1, h => by
    simp only [sumI]
    rw [sumI_congr n (fun x h1 h2 => h x h1 (by omega)), h (a + n) (by omega) (by omega)]
theorem sumI_zero (a : Int) : ∀ n : Nat, sumI (fun _ => 0) a n = 0
  | 0 => rfl
  | n + 1 => by simp only [sumI, sumI_zero a n]; rfl
theorem sumI_ind (a c d : Int) : ∀ n : Nat, sumI (fun x => if c ≤ x ∧ x < d then 1 else 0) a n = max 0 (min (a + (n : Int)) d - max a c)
  | 0 => by simp only [sumI]; omega
  | n + 1 => by
    simp only [sumI, sumI_ind a c d n]
    split <;> omega
theorem sumI_if (a c d k : Int) : ∀ n : Nat, sumI (fun y => if c ≤ y ∧ y < d then k else 0) a n = k * sumI (fun y => if c ≤ y ∧ y < d then 1 else 0) a n
  | 0 => by simp [sumI]
  | n + 1 => by
    simp only [sumI, sumI_if a c d k n, Int.mul_add]
    congr 1
    split <;> simp
theorem sumI_bounds {f : Int → Int} {a m : Int} (hm : 0 ≤ m) : ∀ n : Nat, (∀ x, 0 ≤ f x ∧ f x ≤ m) → 0 ≤ sumI f a n ∧ sumI f a n ≤ m * n
  | 0, _ => by simp [sumI]
  | n + 1, h => by
    have h1 := sumI_bounds hm n h (a := a)
    have h2 := h (a + n)
    simp only [sumI]
    rw [Int.natCast_add, Int.mul_add]
    have e : m * ((1 : Nat) : Int) = m := by simp
    omega

/-- What a row of the box counts. -/
def rowC (F : Nat → Int) (x0 y : Int) (n : Nat) : Int := sumI (fun x => F (ix x y).toNat) x0 n
/-- What the box counts, m rows of n cells. -/
def boxC (F : Nat → Int) (x0 y0 : Int) (n m : Nat) : Int := sumI (fun y => rowC F x0 y n) y0 m
def oneG (G : Gr) (i : Nat) : Int := if G i = true then 1 else 0
/-- The cells of a set in a box. -/
def coverG (G : Gr) (b : Rc) : Int := boxC (oneG G) b.x0 b.y0 (b.x1 - b.x0).toNat (b.y1 - b.y0).toNat

theorem boxC_add (F H : Nat → Int) (x0 y0 : Int) (n m : Nat) : boxC (fun i => F i + H i) x0 y0 n m = boxC F x0 y0 n m + boxC H x0 y0 n m := by
  unfold boxC rowC
  rw [← sumI_add]
  exact sumI_congr m fun y _ _ => sumI_add _ _ _ n
theorem boxC_congr {F H : Nat → Int} {x0 y0 : Int} {n m : Nat} (hx : -40 ≤ x0 ∧ x0 + n ≤ 40) (hy : -40 ≤ y0 ∧ y0 + m ≤ 40) (h : ∀ i, i < 6400 → F i = H i) : boxC F x0 y0 n m = boxC H x0 y0 n m := by
  unfold boxC rowC
  refine sumI_congr m fun y h1 h2 => sumI_congr n fun x h3 h4 => h _ ?_
  unfold ix
  omega

/-- The common part of two rectangles. -/
def commonR (a b : Rc) : Rc := ⟨max a.x0 b.x0, max a.y0 b.y0, min a.x1 b.x1, min a.y1 b.y1⟩
/-- What one rectangle covers of a box. -/
def partC (r b : Rc) : Int := if okRc (commonR r b) = true then areaR (commonR r b) else 0
theorem cover_one (r b : Rc) (hr : okRc r = true) (hb : okRc b = true) : boxC (fun i => if inR r i = true then 1 else 0) b.x0 b.y0 (b.x1 - b.x0).toNat (b.y1 - b.y0).toNat = partC r b := by
  rw [okRc_iff] at hr hb
  have e1 : ∀ y, b.y0 ≤ y → y < b.y0 + ((b.y1 - b.y0).toNat : Int) → rowC (fun i => if inR r i = true then 1 else 0) b.x0 y (b.x1 - b.x0).toNat = if r.y0 ≤ y ∧ y < r.y1 then max 0 (min b.x1 r.x1 - max b.x0 r.x0) else 0 := by
    intro y h1 h2
    unfold rowC
    have e2 : ∀ x, b.x0 ≤ x → x < b.x0 + ((b.x1 - b.x0).toNat : Int) → (if inR r (ix x y).toNat = true then (1 : Int) else 0) = if (r.y0 ≤ y ∧ y < r.y1) ∧ (r.x0 ≤ x ∧ x < r.x1) then 1 else 0 := by
      intro x h3 h4
      have e3 : inR r (ix x y).toNat = true ↔ (r.y0 ≤ y ∧ y < r.y1) ∧ (r.x0 ≤ x ∧ x < r.x1) := by
        rw [inR_iff]
        unfold ix
        omega
      by_cases hc : (r.y0 ≤ y ∧ y < r.y1) ∧ (r.x0 ≤ x ∧ x < r.x1)
      · rw [if_pos hc, if_pos (e3.2 hc)]
      · rw [if_neg hc, if_neg (fun h => hc (e3.1 h))]
    rw [sumI_congr _ e2]
    by_cases hy : r.y0 ≤ y ∧ y < r.y1
    · rw [if_pos hy]
      have e4 : ∀ x : Int, (if (r.y0 ≤ y ∧ y < r.y1) ∧ (r.x0 ≤ x ∧ x < r.x1) then (1 : Int) else 0) = if r.x0 ≤ x ∧ x < r.x1 then 1 else 0 := by
        intro x
        simp [hy]
      rw [sumI_congr _ (fun x _ _ => e4 x), sumI_ind]
      omega
    · rw [if_neg hy]
      have e4 : ∀ x : Int, (if (r.y0 ≤ y ∧ y < r.y1) ∧ (r.x0 ≤ x ∧ x < r.x1) then (1 : Int) else 0) = 0 := by
        intro x
        exact if_neg (fun h => hy h.1)
      rw [sumI_congr _ (fun x _ _ => e4 x), sumI_zero]
  unfold boxC
  rw [sumI_congr _ e1, sumI_if, sumI_ind]
  unfold partC
  by_cases hc : okRc (commonR r b) = true
  · rw [if_pos hc]
    rw [okRc_iff] at hc
    unfold areaR commonR at *
    dsimp only at hc ⊢
    congr 1 <;> omega
  · rw [if_neg hc]
    rw [okRc_iff] at hc
    unfold commonR at hc
    dsimp only at hc
    have : max 0 (min b.x1 r.x1 - max b.x0 r.x0) = 0 ∨ max 0 (min (b.y0 + ((b.y1 - b.y0).toNat : Int)) r.y1 - max b.y0 r.y0) = 0 := by omega
    rcases this with h | h <;> rw [h] <;> simp

/-- What a list of rectangles covers of a box. -/
def sumC : List Rc → Rc → Int
  | [], _ => 0
  | r :: rs, b => partC r b + sumC rs b
theorem sumC_append (a c : List Rc) (b : Rc) : sumC (a ++ c) b = sumC a b + sumC c b := by
  induction a with
  | nil => simp [sumC]
  | cons r a ih => simp only [List.cons_append, sumC, ih]; omega
theorem sumC_take_succ {rs : List Rc} {k : Nat} {r : Rc} (b : Rc) (h : rs[k]? = some r) : sumC (rs.take (k + 1)) b = sumC (rs.take k) b + partC r b := by
  rw [List.take_add_one, h, sumC_append]
  simp [sumC]
theorem partC_bounds (r b : Rc) : 0 ≤ partC r b ∧ partC r b ≤ 6400 := by
  unfold partC
  split
  · rename_i h
    have := areaR_bounds h
    omega
  · omega
theorem sumC_bounds (rs : List Rc) (b : Rc) : 0 ≤ sumC rs b ∧ sumC rs b ≤ 6400 * rs.length := by
  induction rs with
  | nil => simp [sumC]
  | cons r rs ih =>
    have := partC_bounds r b
    simp only [sumC, List.length_cons]
    omega
theorem cover_list (rs : List Rc) (b : Rc) (hok : okAll rs = true) (hb : okRc b = true) : boxC (fun i => (cntR rs i : Int)) b.x0 b.y0 (b.x1 - b.x0).toNat (b.y1 - b.y0).toNat = sumC rs b := by
  induction rs with
  | nil =>
    have e : (fun i => (cntR [] i : Int)) = fun _ => 0 := by funext i; simp [cntR]
    rw [e]
    unfold boxC rowC sumC
    rw [sumI_congr _ (fun y _ _ => sumI_zero _ _), sumI_zero]
  | cons r rs ih =>
    have h1 : okRc r = true ∧ okAll rs = true := by simpa [okAll] using hok
    have e : (fun i => (cntR (r :: rs) i : Int)) = fun i => (if inR r i = true then 1 else 0) + (cntR rs i : Int) := by
      funext i
      unfold cntR
      rw [List.countP_cons]
      by_cases h : inR r i = true <;> simp [h] <;> omega
    rw [e, boxC_add, cover_one r b h1.1 hb, ih h1.2, sumC]
/-- The two counts of a region agree. -/
theorem cover_reg {rs : List Rc} (h : isReg rs = true) {b : Rc} (hb : okRc b = true) : coverG (cellsG rs) b = sumC rs b := by
  have h1 := (isReg_iff rs).1 h
  have h2 := (okRc_iff b).1 hb
  rw [← cover_list rs b h1.2.1 hb]
  unfold coverG
  refine boxC_congr (by omega) (by omega) fun i hi => ?_
  have h3 := cntR_canon (cellsG rs) i hi
  rw [h1.2.2] at h3
  rw [h3]
  unfold oneG
  split <;> rfl

end Go.Proofs.YtgegbgkokkdmpaaGreat

namespace Go.Proofs.YtgegbgkokkdmpaaGreat

/-- The cells of the rectangles that belong to the first n cells of a set. -/
def spreadG (S : Gr) (seg : Nat → Rc) (n : Nat) : Gr := fun c => (List.range n).any fun i => S i && inR (seg i) c
theorem spread_zero (S : Gr) (seg : Nat → Rc) : spreadG S seg 0 = emptyG := rfl
theorem spread_yes {S : Gr} {seg : Nat → Rc} {n : Nat} (h : S n = true) : spreadG S seg (n + 1) = orR (spreadG S seg n) (seg n) := by
  funext c
  simp [spreadG, orR, List.range_succ, List.any_append, h]
theorem spread_no {S : Gr} {seg : Nat → Rc} {n : Nat} (h : S n = false) : spreadG S seg (n + 1) = spreadG S seg n := by
  funext c
  simp [spreadG, List.range_succ, List.any_append, h]
theorem spread_iff (S : Gr) (seg : Nat → Rc) (n c : Nat) : spreadG S seg n c = true ↔ ∃ i, i < n ∧ S i = true ∧ inR (seg i) c = true := by
  simp [spreadG, List.any_eq_true]
/-- The cells of a row, of a column, at most k from a cell. -/
def hseg (k : Int) (i : Nat) : Rc := ⟨((i % 80 : Nat) : Int) - 40 - k, ((i / 80 : Nat) : Int) - 40, ((i % 80 : Nat) : Int) - 40 + (k + 1), ((i / 80 : Nat) : Int) - 40 + 1⟩
def vseg (k : Int) (i : Nat) : Rc := ⟨((i % 80 : Nat) : Int) - 40, ((i / 80 : Nat) : Int) - 40 - k, ((i % 80 : Nat) : Int) - 40 + 1, ((i / 80 : Nat) : Int) - 40 + (k + 1)⟩
def wideG (G : Gr) (k : Int) : Gr := spreadG G (hseg k) 6400
def nearG (G : Gr) (k : Int) : Gr := spreadG (wideG G k) (vseg k) 6400

theorem near_iff (G : Gr) (k : Int) (c : Nat) : nearG G k c = true ↔ ∃ i, i < 6400 ∧ (∃ j, j < 6400 ∧ G j = true ∧ inR (hseg k j) i = true) ∧ inR (vseg k i) c = true := by
  unfold nearG wideG
  rw [spread_iff]
  constructor
  · rintro ⟨i, hi, h, h2⟩
    exact ⟨i, hi, (spread_iff _ _ _ _).1 h, h2⟩
  · rintro ⟨i, hi, h, h2⟩
    exact ⟨i, hi, (spread_iff _ _ _ _).2 h, h2⟩

/-- A rectangle, k larger on each side. -/
def growR (k : Int) (r : Rc) : Rc := ⟨r.x0 - k, r.y0 - k, r.x1 + k, r.y1 + k⟩
def grownG (rs : List Rc) (k : Int) : Gr := cellsG (rs.map (growR k))
theorem cellsG_iff (rs : List Rc) (i : Nat) : cellsG rs i = true ↔ ∃ r ∈ rs, inR r i = true := by simp [cellsG, List.any_eq_true]
theorem grown_iff (rs : List Rc) (k : Int) (i : Nat) : grownG rs k i = true ↔ ∃ r ∈ rs, inR (growR k r) i = true := by
  unfold grownG
  rw [cellsG_iff]
  constructor
  · rintro ⟨q, hq, h⟩
    obtain ⟨r, hr, rfl⟩ := List.mem_map.1 hq
    exact ⟨r, hr, h⟩
  · rintro ⟨r, hr, h⟩
    exact ⟨_, List.mem_map.2 ⟨r, hr, rfl⟩, h⟩
theorem near_same {rs : List Rc} (hok : okAll rs = true) {k : Int} (hk : 0 ≤ k) : sameG (nearG (cellsG rs) k) (grownG rs k) := by
  intro c hc
  rw [Bool.eq_iff_iff, near_iff, grown_iff]
  constructor
  · rintro ⟨i, hi, ⟨j, hj, hG, h1⟩, h2⟩
    obtain ⟨r, hr, h3⟩ := (cellsG_iff rs j).1 hG
    refine ⟨r, hr, ?_⟩
    rw [inR_iff] at *
    unfold hseg at h1
    unfold vseg at h2
    unfold growR
    dsimp only at *
    omega
  · rintro ⟨r, hr, h⟩
    have hv : okRc r = true := by
      rw [okAll, List.all_eq_true] at hok
      exact hok r hr
    rw [okRc_iff] at hv
    rw [inR_iff] at h
    unfold growR at h
    dsimp only at h
    obtain ⟨jx, hx0, hx1, hx2, hx3⟩ : ∃ jx : Nat, jx < 80 ∧ (r.x0 + 40 ≤ (jx : Int) ∧ (jx : Int) < r.x1 + 40) ∧ (jx : Int) - k ≤ ((c % 80 : Nat) : Int) ∧ ((c % 80 : Nat) : Int) ≤ (jx : Int) + k := by
      by_cases h1 : ((c % 80 : Nat) : Int) < r.x0 + 40
      · exact ⟨(r.x0 + 40).toNat, by omega, by omega, by omega, by omega⟩
      · by_cases h2 : ((c % 80 : Nat) : Int) < r.x1 + 40
        · exact ⟨c % 80, by omega, by omega, by omega, by omega⟩
        · exact ⟨(r.x1 + 39).toNat, by omega, by omega, by omega, by omega⟩
    obtain ⟨jy, hy0, hy1, hy2, hy3⟩ : ∃ jy : Nat, jy < 80 ∧ (r.y0 + 40 ≤ (jy : Int) ∧ (jy : Int) < r.y1 + 40) ∧ (jy : Int) - k ≤ ((c / 80 : Nat) : Int) ∧ ((c / 80 : Nat) : Int) ≤ (jy : Int) + k := by
      by_cases h1 : ((c / 80 : Nat) : Int) < r.y0 + 40
      · exact ⟨(r.y0 + 40).toNat, by omega, by omega, by omega, by omega⟩
      · by_cases h2 : ((c / 80 : Nat) : Int) < r.y1 + 40
        · exact ⟨c / 80, by omega, by omega, by omega, by omega⟩
        · exact ⟨(r.y1 + 39).toNat, by omega, by omega, by omega, by omega⟩
    have e1 : (jy * 80 + jx) / 80 = jy ∧ (jy * 80 + jx) % 80 = jx := by omega
    have e2 : (jy * 80 + c % 80) / 80 = jy ∧ (jy * 80 + c % 80) % 80 = c % 80 := by omega
    refine ⟨jy * 80 + c % 80, by omega, ⟨jy * 80 + jx, by omega, (cellsG_iff _ _).2 ⟨r, hr, ?_⟩, ?_⟩, ?_⟩
    · rw [inR_iff, e1.1, e1.2]
      omega
    · rw [inR_iff, e2.1, e2.2]
      unfold hseg
      rw [e1.1, e1.2]
      dsimp only
      omega
    · rw [inR_iff]
      unfold vseg
      rw [e2.1, e2.2]
      dsimp only
      omega

/-- One set without another. -/
def diffG (G H : Gr) : Gr := fun i => G i && !H i
theorem diff_same {G G' H : Gr} (h : sameG G G') : sameG (diffG G H) (diffG G' H) := fun i hi => by simp only [diffG, h i hi]
/-- The cells near a list of rectangles that another list does not cover. -/
def encL (inner outer : List Rc) (k : Int) : List Rc := canon (diffG (grownG inner k) (cellsG outer))
theorem enc_near {inner outer : List Rc} (hok : okAll inner = true) {k : Int} (hk : 0 ≤ k) : canon (diffG (nearG (cellsG inner) k) (cellsG outer)) = encL inner outer k := canon_congr (diff_same (near_same hok hk))
theorem enc_grown (inner outer : List Rc) (k : Int) : canon (diffG (cellsG (canon (grownG inner k))) (cellsG outer)) = encL inner outer k := canon_congr (diff_same (cells_canon _))

theorem canon_nil_iff (G : Gr) : canon G = [] ↔ ∀ i, i < 6400 → G i = false := by
  have hc := cells_canon G
  constructor
  · intro h i hi
    rw [← hc i hi, h]; rfl
  · intro h
    cases hr : canon G with
    | nil => rfl
    | cons r rs =>
      have hok := canon_ok G
      rw [hr] at hok hc
      have h1 : okRc r = true := by
        have : okRc r = true ∧ okAll rs = true := by simpa [okAll] using hok
        exact this.1
      rw [okRc_iff] at h1
      have hi : ((r.y0 + 40).toNat * 80 + (r.x0 + 40).toNat) < 6400 := by omega
      have h2 := hc _ hi
      rw [h _ hi] at h2
      have h3 : cellsG (r :: rs) ((r.y0 + 40).toNat * 80 + (r.x0 + 40).toNat) = true := by
        rw [cellsG_iff]
        refine ⟨r, by simp, ?_⟩
        have e1 : ((r.y0 + 40).toNat * 80 + (r.x0 + 40).toNat) / 80 = (r.y0 + 40).toNat ∧ ((r.y0 + 40).toNat * 80 + (r.x0 + 40).toNat) % 80 = (r.x0 + 40).toNat := by omega
        rw [inR_iff, e1.1, e1.2]
        omega
      rw [h3] at h2
      cases h2
theorem enc_mono {inner outer : List Rc} {k : Int} (h : encL inner outer (k + 1) = []) : encL inner outer k = [] := by
  unfold encL at *
  rw [canon_nil_iff] at *
  intro i hi
  have h1 := h i hi
  unfold diffG at *
  cases hg : grownG inner k i with
  | false => rfl
  | true =>
    have h2 : grownG inner (k + 1) i = true := by
      rw [grown_iff] at hg ⊢
      obtain ⟨r, hr, h3⟩ := hg
      refine ⟨r, hr, ?_⟩
      rw [inR_iff] at h3 ⊢
      unfold growR at *
      dsimp only at *
      omega
    rw [h2] at h1
    exact h1
theorem enc_below {inner outer : List Rc} {k : Int} : ∀ (d : Nat), encL inner outer (k + d) = [] → encL inner outer k = []
  | 0, h => by simpa using h
  | d + 1, h => by
    have e : k + ((d + 1 : Nat) : Int) = (k + d) + 1 := by omega
    rw [e] at h
    exact enc_below d (enc_mono h)

/-- One cell more of a row segment. -/
theorem orR_cellH (G : Gr) (x0 x y : Int) (h3 : x0 ≤ x) (hc : onC x y = true) : updG (orR G ⟨x0, y, x, y + 1⟩) (ix x y).toNat true = orR G ⟨x0, y, x + 1, y + 1⟩ := by
  rw [onC_iff] at hc
  funext i
  simp only [updG, orR]
  unfold ix
  by_cases hi : i = ((y + 40) * 80 + x + 40).toNat
  · rw [if_pos hi]
    have : inR ⟨x0, y, x + 1, y + 1⟩ i = true := by rw [inR_iff]; simp only; omega
    simp [this]
  · rw [if_neg hi]
    have : inR ⟨x0, y, x, y + 1⟩ i = inR ⟨x0, y, x + 1, y + 1⟩ i := by
      rw [Bool.eq_iff_iff]
      simp only [inR_iff]
      omega
    rw [this]
theorem orR_cellV (G : Gr) (x y0 y : Int) (h3 : y0 ≤ y) (hc : onC x y = true) : updG (orR G ⟨x, y0, x + 1, y⟩) (ix x y).toNat true = orR G ⟨x, y0, x + 1, y + 1⟩ := by
  rw [onC_iff] at hc
  funext i
  simp only [updG, orR]
  unfold ix
  by_cases hi : i = ((y + 40) * 80 + x + 40).toNat
  · rw [if_pos hi]
    have : inR ⟨x, y0, x + 1, y + 1⟩ i = true := by rw [inR_iff]; simp only; omega
    simp [this]
  · rw [if_neg hi]
    have : inR ⟨x, y0, x + 1, y⟩ i = inR ⟨x, y0, x + 1, y + 1⟩ i := by
      rw [Bool.eq_iff_iff]
      simp only [inR_iff]
      omega
    rw [this]
theorem orR_offH (G : Gr) (x0 x y : Int) (hy : -40 ≤ y ∧ y ≤ 39) (hc : onC x y = false) : sameG (orR G ⟨x0, y, x, y + 1⟩) (orR G ⟨x0, y, x + 1, y + 1⟩) := by
  have hc' : ¬ (-40 ≤ x ∧ x ≤ 39 ∧ -40 ≤ y ∧ y ≤ 39) := fun h => by rw [(onC_iff x y).2 h] at hc; cases hc
  intro i hi
  simp only [orR]
  congr 1
  rw [Bool.eq_iff_iff]
  simp only [inR_iff]
  omega
theorem orR_offV (G : Gr) (x y0 y : Int) (hx : -40 ≤ x ∧ x ≤ 39) (hc : onC x y = false) : sameG (orR G ⟨x, y0, x + 1, y⟩) (orR G ⟨x, y0, x + 1, y + 1⟩) := by
  have hc' : ¬ (-40 ≤ x ∧ x ≤ 39 ∧ -40 ≤ y ∧ y ≤ 39) := fun h => by rw [(onC_iff x y).2 h] at hc; cases hc
  intro i hi
  simp only [orR]
  congr 1
  rw [Bool.eq_iff_iff]
  simp only [inR_iff]
  omega

end Go.Proofs.YtgegbgkokkdmpaaGreat

namespace Go.Proofs.YtgegbgkokkdmpaaGreat

/-- The cell at t of the row a, or of the column a if vertical. -/
def lnG (G : Gr) (vert : Bool) (a t : Int) : Bool := if vert = true then hasG G a t else hasG G t a
theorem lnG_v (G : Gr) (a t : Int) : lnG G true a t = hasG G a t := rfl
theorem lnG_h (G : Gr) (a t : Int) : lnG G false a t = hasG G t a := rfl
theorem lnG_in {G : Gr} {vert : Bool} {a t : Int} (h : lnG G vert a t = true) : -40 ≤ t ∧ t ≤ 39 := by
  cases vert
  · have := hasG_in (lnG_h G a t ▸ h); omega
  · have := hasG_in (lnG_v G a t ▸ h); omega
/-- A run of a row or column as a rectangle. -/
def lineR (vert : Bool) (a f t : Int) : Rc := if vert = true then ⟨a, f, a + 1, t⟩ else ⟨f, a, t, a + 1⟩
/-- Does a run start at t? -/
def startG (G : Gr) (vert : Bool) (a t : Int) : Bool := lnG G vert a t && !lnG G vert a (t - 1)
/-- The end of the run from t on. -/
def stopG (G : Gr) (vert : Bool) (a t : Int) : Int := highOf (lnG G vert a) (t + 1)
theorem runR_v (G : Gr) (a t : Int) (h : startG G true a t = true) : runR G a t true = lineR true a t (stopG G true a t) := by
  have h2 : lnG G true a (t - 1) = false := by
    unfold startG at h
    revert h
    cases lnG G true a t <;> cases lnG G true a (t - 1) <;> simp
  have e : lowOf (fun s => hasG G a s) t = t := lowOf_stop h2
  unfold runR lineR stopG
  rw [if_pos rfl, if_pos rfl, e]; rfl
theorem runR_h (G : Gr) (a t : Int) (h : startG G false a t = true) : runR G t a false = lineR false a t (stopG G false a t) := by
  have h2 : lnG G false a (t - 1) = false := by
    unfold startG at h
    revert h
    cases lnG G false a t <;> cases lnG G false a (t - 1) <;> simp
  have e : lowOf (fun s => hasG G s a) t = t := lowOf_stop h2
  unfold runR lineR stopG
  rw [if_neg (by simp), if_neg (by simp), e]; rfl

/-- The runs of a line that start from place k on (places counted from 0). -/
def restL (G : Gr) (vert : Bool) (a : Int) (k : Nat) : List Rc :=
  ((List.range' k (80 - k)).filter fun j : Nat => startG G vert a ((j : Int) - 40)).map fun j : Nat => lineR vert a ((j : Int) - 40) (stopG G vert a ((j : Int) - 40))
theorem restL_end (G : Gr) (vert : Bool) (a : Int) {k : Nat} (h : 80 ≤ k) : restL G vert a k = [] := by
  have e : 80 - k = 0 := by omega
  rw [restL, e]; rfl
theorem restL_on (G : Gr) (vert : Bool) (a : Int) {k : Nat} (h : k < 80) (hs : startG G vert a ((k : Int) - 40) = true) : restL G vert a k = lineR vert a ((k : Int) - 40) (stopG G vert a ((k : Int) - 40)) :: restL G vert a (k + 1) := by
  have e : 80 - k = (80 - (k + 1)) + 1 := by omega
  rw [restL, e, List.range'_succ, List.filter_cons, if_pos hs, List.map_cons]; rfl
theorem restL_off (G : Gr) (vert : Bool) (a : Int) {k : Nat} (h : k < 80) (hs : startG G vert a ((k : Int) - 40) = false) : restL G vert a k = restL G vert a (k + 1) := by
  have e : 80 - k = (80 - (k + 1)) + 1 := by omega
  rw [restL, e, List.range'_succ, List.filter_cons, if_neg (by rw [hs]; simp)]; rfl
theorem restL_length (G : Gr) (vert : Bool) (a : Int) (k : Nat) : (restL G vert a k).length ≤ 80 := by
  rw [restL, List.length_map]
  refine Nat.le_trans (List.length_filter_le _ _) ?_
  rw [List.length_range']
  omega
/-- No run starts between k and e: all cells there are alike. -/
theorem restL_alike (G : Gr) (vert : Bool) (a : Int) (b : Bool) : ∀ (d k : Nat), k + d ≤ 79 → (∀ j : Nat, k ≤ j → j ≤ k + d → lnG G vert a ((j : Int) - 40) = b) → restL G vert a (k + 1) = restL G vert a (k + d + 1) := by
  intro d
  induction d with
  | zero => intro k _ _; rfl
  | succ d ih =>
    intro k hk hall
    have h0 := hall k (by omega) (by omega)
    have h1 := hall (k + 1) (by omega) (by omega)
    have hs : startG G vert a (((k + 1 : Nat) : Int) - 40) = false := by
      have e : ((k + 1 : Nat) : Int) - 40 - 1 = (k : Int) - 40 := by omega
      unfold startG
      rw [e, h0, h1]
      cases b <;> rfl
    rw [restL_off G vert a (by omega) hs, ih (k + 1) (by omega) (fun j h2 h3 => hall j (by omega) (by omega))]
    congr 1
    omega
theorem lnG_off (G : Gr) (vert : Bool) (a : Int) {t : Int} (h : 40 ≤ t) : lnG G vert a t = false := by
  rw [Bool.eq_false_iff]
  intro hc
  have := lnG_in hc
  omega
/-- From one change of a line to the next: cells that are free. -/
theorem restL_free (G : Gr) (vert : Bool) (a : Int) {k e : Nat} (hk : k < e) (he : e ≤ 80) (hall : ∀ j : Nat, k ≤ j → j < e → lnG G vert a ((j : Int) - 40) = false) : restL G vert a k = restL G vert a e := by
  have h0 := hall k (by omega) hk
  have hs : startG G vert a ((k : Int) - 40) = false := by unfold startG; rw [h0]; rfl
  rw [restL_off G vert a (by omega) hs]
  have := restL_alike G vert a false (e - 1 - k) k (by omega) (fun j h1 h2 => hall j h1 (by omega))
  rw [this]
  congr 1
  omega
/-- .. and cells of a run. -/
theorem restL_set (G : Gr) (vert : Bool) (a : Int) {k e : Nat} (hk : k < e) (he : e ≤ 80) (hall : ∀ j : Nat, k ≤ j → j < e → lnG G vert a ((j : Int) - 40) = true)
    (hb : lnG G vert a ((k : Int) - 41) = false) (hend : lnG G vert a ((e : Int) - 40) = false) : restL G vert a k = lineR vert a ((k : Int) - 40) ((e : Int) - 40) :: restL G vert a e := by
  have h0 := hall k (by omega) hk
  have hs : startG G vert a ((k : Int) - 40) = true := by
    have e1 : (k : Int) - 40 - 1 = (k : Int) - 41 := by omega
    unfold startG; rw [h0, e1, hb]; rfl
  have hz : stopG G vert a ((k : Int) - 40) = (e : Int) - 40 := by
    unfold stopG
    have e2 : (e : Int) - 40 = ((k : Int) - 40 + 1) + ((e - 1 - k : Nat) : Int) := by omega
    rw [e2]
    refine highOf_all _ _ (fun t h1 h2 => ?_) (by rw [← e2]; exact hend)
    have h3 := hall (t + 40).toNat (by omega) (by omega)
    have e3 : (((t + 40).toNat : Nat) : Int) - 40 = t := by omega
    rw [e3] at h3
    exact ⟨h3, by omega⟩
  rw [restL_on G vert a (by omega) hs, hz]
  have := restL_alike G vert a true (e - 1 - k) k (by omega) (fun j h1 h2 => hall j h1 (by omega))
  rw [this]
  congr 2
  omega

/-- The runs from line a on (lines counted from 0). -/
def restA (G : Gr) (vert : Bool) (a : Nat) : List Rc := (List.range' a (80 - a)).flatMap fun i : Nat => restL G vert ((i : Int) - 40) 0
theorem restA_end (G : Gr) (vert : Bool) {a : Nat} (h : 80 ≤ a) : restA G vert a = [] := by
  have e : 80 - a = 0 := by omega
  rw [restA, e]; rfl
theorem restA_step (G : Gr) (vert : Bool) {a : Nat} (h : a < 80) : restA G vert a = restL G vert ((a : Int) - 40) 0 ++ restA G vert (a + 1) := by
  have e : 80 - a = (80 - (a + 1)) + 1 := by omega
  rw [restA, e, List.range'_succ, List.flatMap_cons]; rfl
/-- All runs in rows, or in columns. -/
def runsG (G : Gr) (vert : Bool) : List Rc := restA G vert 0
theorem runsG_start (G : Gr) (vert : Bool) : [] ++ restA G vert 0 = runsG G vert := by rw [List.nil_append, runsG]
theorem restA_length (G : Gr) (vert : Bool) (a : Nat) : (restA G vert a).length ≤ 80 * (80 - a) := by
  by_cases h : a < 80
  · rw [restA_step G vert h, List.length_append]
    have h1 := restL_length G vert ((a : Int) - 40) 0
    have h2 := restA_length G vert (a + 1)
    omega
  · rw [restA_end G vert (by omega)]
    simp
termination_by 80 - a
theorem runsG_length (G : Gr) (vert : Bool) : (runsG G vert).length ≤ 6400 := by
  have := restA_length G vert 0
  rw [runsG]
  omega
/-- The runs in rows, then those in columns. -/
def allG (G : Gr) : List Rc := runsG G false ++ runsG G true
theorem allG_length (G : Gr) : (allG G).length ≤ 12800 := by
  have h1 := runsG_length G false
  have h2 := runsG_length G true
  rw [allG, List.length_append]
  omega

theorem goUp_bounds {p : Int → Bool} (hp : ∀ t, p t = true → t ≤ 39) : ∀ n x, x ≤ 40 → x ≤ goUp p n x ∧ goUp p n x ≤ 40 := by
  intro n
  induction n with
  | zero => intro x h; exact ⟨Int.le_refl _, h⟩
  | succ n ih =>
    intro x h
    rw [goUp]
    split
    · rename_i hc
      have := hp x hc
      have := ih (x + 1) (by omega)
      omega
    · exact ⟨Int.le_refl _, h⟩
theorem restL_ok (G : Gr) (vert : Bool) {a : Int} (ha : -40 ≤ a ∧ a ≤ 39) (k : Nat) : ∀ r ∈ restL G vert a k, okRc r = true := by
  intro r hr
  rw [restL, List.mem_map] at hr
  obtain ⟨j, hj, rfl⟩ := hr
  rw [List.mem_filter, List.mem_range'_1] at hj
  have h1 := goUp_bounds (p := lnG G vert a) (fun t ht => (lnG_in ht).2) ((41 - ((j : Int) - 40 + 1)).toNat) ((j : Int) - 40 + 1) (by omega)
  rw [okRc_iff]
  unfold lineR stopG highOf
  cases vert <;> simp only [Bool.false_eq_true, if_false, if_true] <;> omega
theorem runsG_ok (G : Gr) (vert : Bool) : okAll (runsG G vert) = true := by
  rw [okAll, List.all_eq_true]
  intro r hr
  rw [runsG, restA, List.mem_flatMap] at hr
  obtain ⟨i, hi, hr⟩ := hr
  rw [List.mem_range'_1] at hi
  exact restL_ok G vert (by omega) 0 r hr
theorem allG_ok (G : Gr) : okAll (allG G) = true := by
  have h1 := runsG_ok G false
  have h2 := runsG_ok G true
  rw [okAll] at h1 h2 ⊢
  rw [allG, List.all_append, h1, h2]; rfl

end Go.Proofs.YtgegbgkokkdmpaaGreat

namespace Go.Proofs.YtgegbgkokkdmpaaGreat

def minStep (m : Int) (r : Rc) : Int := if m = 0 ∨ areaR r < m then areaR r else m
/-- The least length of a list of runs, 0 of an empty one. -/
def minA (rs : List Rc) : Int := rs.foldl minStep 0
theorem minA_step {rs : List Rc} {k : Nat} {r : Rc} (h : rs[k]? = some r) : minA (rs.take (k + 1)) = minStep (minA (rs.take k)) r := by
  unfold minA
  rw [List.take_add_one, h, List.foldl_append]; rfl
theorem minA_zero (rs : List Rc) : minA (rs.take 0) = 0 := rfl
theorem min_pos : ∀ (rs : List Rc) (m : Int), okAll rs = true → 1 ≤ m → m ≤ 6400 → 1 ≤ rs.foldl minStep m ∧ rs.foldl minStep m ≤ 6400
  | [], m, _, h, h2 => ⟨h, h2⟩
  | r :: rs, m, hok, h, h2 => by
    have h1 : okRc r = true ∧ okAll rs = true := by simpa [okAll] using hok
    have hb := areaR_bounds h1.1
    rw [List.foldl_cons]
    refine min_pos rs _ h1.2 ?_ ?_ <;> · unfold minStep; split <;> omega
theorem minA_bounds {rs : List Rc} (hok : okAll rs = true) : 0 ≤ minA rs ∧ minA rs ≤ 6400 ∧ (rs ≠ [] → 1 ≤ minA rs) := by
  cases rs with
  | nil => exact ⟨Int.le_refl _, by simp [minA], fun h => absurd rfl h⟩
  | cons r rs =>
    have h1 : okRc r = true ∧ okAll rs = true := by simpa [okAll] using hok
    have hb := areaR_bounds h1.1
    have e : minA (r :: rs) = rs.foldl minStep (areaR r) := by
      unfold minA
      rw [List.foldl_cons]
      congr 1
    have := min_pos rs (areaR r) h1.2 hb.1 hb.2
    rw [e]
    omega
theorem okAll_take {rs : List Rc} (h : okAll rs = true) (k : Nat) : okAll (rs.take k) = true := by
  rw [okAll, List.all_eq_true] at *
  intro r hr
  exact h r (List.mem_of_mem_take hr)
theorem minA_take_pos {rs : List Rc} (hok : okAll rs = true) {k : Nat} (hk : k ≠ 0) (hl : k < rs.length) : 1 ≤ minA (rs.take k) :=
  (minA_bounds (okAll_take hok k)).2.2 (by
    intro h
    have := congrArg List.length h
    rw [List.length_take, List.length_nil] at this
    omega)
theorem min_yes {rs : List Rc} {k : Nat} {r : Rc} (h : rs[k]? = some r) (hc : minA (rs.take k) = 0 ∨ areaR r < minA (rs.take k)) : minA (rs.take (k + 1)) = areaR r := by
  rw [minA_step h, minStep, if_pos hc]
theorem min_no {rs : List Rc} {k : Nat} {r : Rc} (h : rs[k]? = some r) (hc : ¬ minA (rs.take k) = 0) (hc2 : ¬ areaR r < minA (rs.take k)) : minA (rs.take (k + 1)) = minA (rs.take k) := by
  rw [minA_step h, minStep, if_neg (by simp [hc, hc2])]

/-- The first run that is shorter than d. -/
def firstA (rs : List Rc) (d : Int) : Option Rc := rs.find? fun r => decide (areaR r < d)
theorem first_start (rs : List Rc) (d : Int) : firstA (rs.drop 0) d = firstA rs d := by rw [List.drop_zero]
theorem first_yes {rs : List Rc} {k : Nat} {r : Rc} {d : Int} (h : rs[k]? = some r) (hd : areaR r < d) : firstA (rs.drop k) d = some r := by
  obtain ⟨hk, rfl⟩ := List.getElem?_eq_some_iff.1 h
  rw [List.drop_eq_getElem_cons hk, firstA, List.find?_cons]
  simp [hd]
theorem first_no {rs : List Rc} {k : Nat} {r : Rc} {d : Int} (h : rs[k]? = some r) (hd : ¬ areaR r < d) : firstA (rs.drop k) d = firstA (rs.drop (k + 1)) d := by
  obtain ⟨hk, rfl⟩ := List.getElem?_eq_some_iff.1 h
  rw [List.drop_eq_getElem_cons hk, firstA, firstA, List.find?_cons]
  simp [hd]
theorem first_end {rs : List Rc} {k : Nat} {d : Int} (h : rs.length ≤ k) : firstA (rs.drop k) d = none := by
  rw [List.drop_eq_nil_of_le h]; rfl

/-- The cells of all runs that are shorter than d. -/
def shortG (rs : List Rc) (d : Int) : Gr := cellsG (rs.filter fun r => decide (areaR r < d))
theorem short_nil (rs : List Rc) (d : Int) : shortG (rs.take 0) d = emptyG := rfl
theorem short_yes {rs : List Rc} {k : Nat} {r : Rc} {d : Int} (h : rs[k]? = some r) (hd : areaR r < d) : shortG (rs.take (k + 1)) d = orR (shortG (rs.take k) d) r := by
  unfold shortG
  rw [List.take_add_one, h, List.filter_append]
  simp only [Option.toList_some, List.filter_cons, decide_eq_true hd, if_true, List.filter_nil]
  exact cellsG_snoc _ _
theorem short_no {rs : List Rc} {k : Nat} {r : Rc} {d : Int} (h : rs[k]? = some r) (hd : ¬ areaR r < d) : shortG (rs.take (k + 1)) d = shortG (rs.take k) d := by
  unfold shortG
  rw [List.take_add_one, h, List.filter_append]
  simp [hd]

end Go.Proofs.YtgegbgkokkdmpaaGreat

namespace Go.Proofs.YtgegbgkokkdmpaaGreat

/-- Two cells share a side. -/
def nbr (i j : Nat) : Prop := (i / 80 = j / 80 ∧ (i % 80 + 1 = j % 80 ∨ j % 80 + 1 = i % 80)) ∨ (i % 80 = j % 80 ∧ (i / 80 + 1 = j / 80 ∨ j / 80 + 1 = i / 80))
theorem nbr_symm {i j : Nat} (h : nbr i j) : nbr j i := by unfold nbr at *; omega

/-- j is reached from s over at most n sides, inside a set. -/
def reachN (G : Gr) (s : Nat) : Nat → Nat → Prop
  | 0, j => j = s
  | n + 1, j => reachN G s n j ∨ (j < 6400 ∧ G j = true ∧ ∃ i, reachN G s n i ∧ nbr i j)
def Reach (G : Gr) (s j : Nat) : Prop := ∃ n, reachN G s n j
theorem reach_start (G : Gr) (s : Nat) : Reach G s s := ⟨0, rfl⟩
theorem reach_step {G : Gr} {s i j : Nat} (h : Reach G s i) (hn : nbr i j) (hj : j < 6400) (hG : G j = true) : Reach G s j := by
  obtain ⟨n, h⟩ := h
  exact ⟨n + 1, .inr ⟨hj, hG, i, h, hn⟩⟩
/-- What holds of the start and passes over sides holds of all that is reached. -/
theorem reach_ind {G : Gr} {s : Nat} {p : Nat → Prop} (h0 : p s) (hs : ∀ i j, p i → nbr i j → j < 6400 → G j = true → p j) : ∀ {j}, Reach G s j → p j := by
  intro j ⟨n, h⟩
  induction n generalizing j with
  | zero => rw [show j = s from h]; exact h0
  | succ n ih =>
    rcases h with h | ⟨hj, hG, i, hi, hn⟩
    · exact ih h
    · exact hs i j (ih hi) hn hj hG
theorem reach_in {G : Gr} {s : Nat} (hs : s < 6400) (hG : G s = true) {j : Nat} (h : Reach G s j) : j < 6400 ∧ G j = true :=
  reach_ind (p := fun j => j < 6400 ∧ G j = true) ⟨hs, hG⟩ (fun _ _ _ _ hj h => ⟨hj, h⟩) h
theorem reach_trans {G : Gr} {s i j : Nat} (h : Reach G s i) (k : Reach G i j) : Reach G s j :=
  reach_ind (p := fun j => Reach G s j) h (fun _ _ ha hn hj hG => reach_step ha hn hj hG) k
theorem reach_symm {G : Gr} {s j : Nat} (hs : s < 6400) (hG : G s = true) (h : Reach G s j) : Reach G j s := by
  have key : ∀ {j}, Reach G s j → (j < 6400 ∧ G j = true) ∧ Reach G j s := by
    intro j h
    refine reach_ind (p := fun j => (j < 6400 ∧ G j = true) ∧ Reach G j s) ⟨⟨hs, hG⟩, reach_start G s⟩ (fun a b ha hn hj hb => ⟨⟨hj, hb⟩, ?_⟩) h
    exact reach_trans (reach_step (reach_start G b) (nbr_symm hn) ha.1.1 ha.1.2) ha.2
  exact (key h).2
theorem reach_congr {G H : Gr} (h : sameG G H) {s j : Nat} (hr : Reach G s j) : Reach H s j :=
  reach_ind (p := fun j => Reach H s j) (reach_start H s) (fun _ j ha hn hj hG => reach_step ha hn hj (by rw [← h j hj]; exact hG)) hr

/-- The component of a cell. -/
noncomputable def compG (G : Gr) (s : Nat) : Gr := fun j => @decide (Reach G s j) (Classical.propDecidable _)
theorem compG_iff (G : Gr) (s j : Nat) : compG G s j = true ↔ Reach G s j := by unfold compG; exact @decide_eq_true_iff (Reach G s j) (Classical.propDecidable _)
theorem compG_congr {G H : Gr} (h : sameG G H) (s : Nat) : compG G s = compG H s := by
  funext j
  rw [Bool.eq_iff_iff, compG_iff, compG_iff]
  exact ⟨reach_congr h, reach_congr fun i hi => (h i hi).symm⟩

/-! ## A search: a queue of distinct cells; those before i are done -/

/-- The set of a list of cells. -/
def setL (qs : List Nat) : Gr := fun j => qs.contains j
theorem setL_iff (qs : List Nat) (j : Nat) : setL qs j = true ↔ j ∈ qs := by simp [setL]
theorem setL_snoc (qs : List Nat) (j : Nat) : setL (qs ++ [j]) = updG (setL qs) j true := by
  funext k
  rw [Bool.eq_iff_iff, setL_iff]
  unfold updG
  by_cases h : k = j
  · simp [h]
  · rw [if_neg h, setL_iff]
    simp [h]
/-- The queue of a search. -/
structure Srch (G : Gr) (s : Nat) (qs : List Nat) : Prop where
  here : ∀ j ∈ qs, Reach G s j
  start : s ∈ qs
  nodup : qs.Nodup
  on : ∀ j ∈ qs, j < 6400
/-- All sides of the first i cells have been passed. -/
def Done (G : Gr) (qs : List Nat) (i : Nat) : Prop := ∀ k j m : Nat, k < i → qs[k]? = some j → nbr j m → m < 6400 → G m = true → m ∈ qs
theorem srch_start (G : Gr) {s : Nat} (hs : s < 6400) : Srch G s [s] :=
  ⟨fun j hj => by simp at hj; subst hj; exact reach_start G j, by simp, by simp, fun j hj => by simp at hj; omega⟩
theorem done_zero (G : Gr) (qs : List Nat) : Done G qs 0 := fun k j m h => absurd h (by omega)
theorem srch_put {G : Gr} {s : Nat} {qs : List Nat} (h : Srch G s qs) {j m : Nat} (hj : j ∈ qs) (hn : nbr j m) (hm : m < 6400) (hG : G m = true) (hnew : setL qs m = false) : Srch G s (qs ++ [m]) := by
  have hnew' : m ∉ qs := fun hc => by rw [(setL_iff qs m).2 hc] at hnew; cases hnew
  refine ⟨fun k hk => ?_, by simp [h.start], ?_, fun k hk => ?_⟩
  · rcases List.mem_append.1 hk with hk | hk
    · exact h.here k hk
    · simp at hk; subst hk; exact reach_step (h.here j hj) hn hm hG
  · rw [List.nodup_append]
    exact ⟨h.nodup, by simp, fun a ha b hb => by simp at hb; subst hb; intro e; subst e; exact hnew' ha⟩
  · rcases List.mem_append.1 hk with hk | hk
    · exact h.on k hk
    · simp at hk; omega
theorem done_put {G : Gr} {qs : List Nat} {i : Nat} (h : Done G qs i) (hi : i ≤ qs.length) (m : Nat) : Done G (qs ++ [m]) i := by
  intro k j n hk hj hn hn2 hG
  rw [List.getElem?_append_left (by omega)] at hj
  exact List.mem_append.2 (.inl (h k j n hk hj hn hn2 hG))
/-- Four sides of the cell i passed: it's done. -/
theorem done_step {G : Gr} {qs : List Nat} {i j : Nat} (h : Done G qs i) (hj : qs[i]? = some j) (h4 : ∀ m, nbr j m → m < 6400 → G m = true → m ∈ qs) : Done G qs (i + 1) := by
  intro k a n hk ha hn hn2 hG
  by_cases e : k = i
  · subst e
    rw [hj] at ha
    simp at ha
    subst ha
    exact h4 n hn hn2 hG
  · exact h k a n (by omega) ha hn hn2 hG
theorem range_lt : ∀ (n : Nat) (l : List Nat), l.Nodup → (∀ j ∈ l, j < n) → l.length ≤ n
  | 0, l, _, h => by
    cases l with
    | nil => exact Nat.le_refl _
    | cons a l => exact absurd (h a (by simp)) (by omega)
  | n + 1, l, hn, h => by
    by_cases hm : n ∈ l
    · have h1 := List.length_erase_of_mem hm
      have h2 := range_lt n (l.erase n) (hn.erase n) fun j hj => by
        have h3 := (List.Nodup.mem_erase_iff hn).1 hj
        have := h j h3.2
        omega
      omega
    · have := range_lt n l hn fun j hj => by
        have h4 := h j hj
        have : j ≠ n := fun e => hm (e ▸ hj)
        omega
      omega
theorem range_len {qs : List Nat} (hn : qs.Nodup) (h : ∀ j ∈ qs, j < 6400) : qs.length ≤ 6400 := range_lt 6400 qs hn h
theorem srch_len {G : Gr} {s : Nat} {qs : List Nat} (h : Srch G s qs) : qs.length ≤ 6400 := range_len h.nodup h.on
/-- All done: the queue is the component. -/
theorem srch_end {G : Gr} {s : Nat} {qs : List Nat} (h : Srch G s qs) (hd : Done G qs qs.length) : setL qs = compG G s := by
  funext j
  rw [Bool.eq_iff_iff, setL_iff, compG_iff]
  constructor
  · exact h.here j
  · intro hr
    refine reach_ind (p := fun j => j ∈ qs) h.start (fun a b ha hn hb hG => ?_) hr
    obtain ⟨k, hk, hk2⟩ := List.mem_iff_getElem.1 ha
    exact hd k a b hk (by rw [List.getElem?_eq_getElem hk, hk2]) hn hb hG

/-! ## The components, in the order of their first cells -/

/-- What is left without a component. -/
def minusG (L P : Gr) : Gr := fun i => L i && !P i
/-- The components of what is left, from the cell i on. -/
noncomputable def compsN (L : Gr) : Nat → Nat → List Gr
  | 0, _ => []
  | n + 1, i => if L i = true then compG L i :: compsN (minusG L (compG L i)) n (i + 1) else compsN L n (i + 1)
noncomputable def compsF (L : Gr) (i : Nat) : List Gr := compsN L (6400 - i) i
/-- The components of a set. -/
noncomputable def comps (G : Gr) : List Gr := compsF G 0
theorem compsF_yes {L : Gr} {i : Nat} (hi : i < 6400) (h : L i = true) : compsF L i = compG L i :: compsF (minusG L (compG L i)) (i + 1) := by
  unfold compsF
  obtain ⟨n, hn⟩ : ∃ n, 6400 - i = n + 1 := ⟨6400 - i - 1, by omega⟩
  have hn2 : 6400 - (i + 1) = n := by omega
  rw [hn, hn2, compsN, if_pos h]
theorem compsF_no {L : Gr} {i : Nat} (hi : i < 6400) (h : L i = false) : compsF L i = compsF L (i + 1) := by
  unfold compsF
  obtain ⟨n, hn⟩ : ∃ n, 6400 - i = n + 1 := ⟨6400 - i - 1, by omega⟩
  have hn2 : 6400 - (i + 1) = n := by omega
  rw [hn, hn2, compsN, if_neg (by rw [h]; simp)]
theorem compsF_end {L : Gr} {i : Nat} (hi : 6400 ≤ i) : compsF L i = [] := by
  unfold compsF
  have : 6400 - i = 0 := by omega
  rw [this]; rfl
theorem minus_congr {L M : Gr} (h : sameG L M) (P : Gr) : sameG (minusG L P) (minusG M P) := fun i hi => by simp only [minusG, h i hi]
theorem compsF_congr : ∀ (n i : Nat) {L M : Gr}, 6400 - i ≤ n → sameG L M → compsF L i = compsF M i := by
  intro n
  induction n with
  | zero => intro i L M hi h; rw [compsF_end (by omega), compsF_end (by omega)]
  | succ n ih =>
    intro i L M hi h
    by_cases h6 : i < 6400
    · cases hL : L i with
      | true =>
        rw [compsF_yes h6 hL, compsF_yes h6 ((h i h6).symm.trans hL), compG_congr h i]
        rw [ih (i + 1) (by omega) (minus_congr h _)]
      | false => rw [compsF_no h6 hL, compsF_no h6 ((h i h6).symm.trans hL), ih (i + 1) (by omega) h]
    · rw [compsF_end (by omega), compsF_end (by omega)]
theorem comps_congr {G H : Gr} (h : sameG G H) : comps G = comps H := compsF_congr 6400 0 (by omega) h
theorem compsF_length : ∀ (n i : Nat) (L : Gr), 6400 - i ≤ n → (compsF L i).length ≤ n := by
  intro n
  induction n with
  | zero => intro i L hi; rw [compsF_end (by omega)]; exact Nat.le_refl _
  | succ n ih =>
    intro i L hi
    by_cases h6 : i < 6400
    · cases hL : L i with
      | true => rw [compsF_yes h6 hL]; have := ih (i + 1) (minusG L (compG L i)) (by omega); simp; omega
      | false => rw [compsF_no h6 hL]; have := ih (i + 1) L (by omega); omega
    · rw [compsF_end (by omega)]; simp
theorem comps_length (G : Gr) : (comps G).length ≤ 6400 := compsF_length 6400 0 G (by omega)

end Go.Proofs.YtgegbgkokkdmpaaGreat

namespace Go.Proofs.YtgegbgkokkdmpaaGreat

/-! ## Counting -/

def fullR : Rc := ⟨-40, -40, 40, 40⟩
/-- How many cells a set has. -/
def countG (G : Gr) : Int := coverG G fullR
theorem fullR_ok : okRc fullR = true := by decide
theorem partC_full {r : Rc} (h : okRc r = true) : partC r fullR = areaR r := by
  have h1 := (okRc_iff r).1 h
  have e : commonR r fullR = r := by
    obtain ⟨x0, y0, x1, y1⟩ := r
    unfold commonR fullR
    dsimp only at h1 ⊢
    rw [Int.max_eq_left (by omega), Int.max_eq_left (by omega), Int.min_eq_left (by omega), Int.min_eq_left (by omega)]
  rw [partC, e, if_pos h]
theorem sumC_full {rs : List Rc} (h : okAll rs = true) : sumC rs fullR = sumA rs := by
  induction rs with
  | nil => rfl
  | cons r rs ih =>
    have h1 : okRc r = true ∧ okAll rs = true := by simpa [okAll] using h
    rw [sumC, sumA, partC_full h1.1, ih h1.2]
theorem count_congr {G H : Gr} (h : sameG G H) : countG G = countG H := by
  unfold countG coverG
  refine boxC_congr (by decide) (by decide) fun i hi => ?_
  unfold oneG
  rw [h i hi]
theorem count_canon (G : Gr) : sumA (canon G) = countG G := by
  rw [← sumC_full (canon_ok G), ← cover_reg (isReg_canon G) fullR_ok]
  exact count_congr (cells_canon G)
theorem count_bounds (G : Gr) : 0 ≤ countG G ∧ countG G ≤ 6400 := by
  rw [← count_canon G]
  exact ⟨(sumA_bounds (canon_ok G)).1, sumA_canon G⟩
theorem sumA_pos {rs : List Rc} (hok : okAll rs = true) (h : rs ≠ []) : 1 ≤ sumA rs := by
  cases rs with
  | nil => exact absurd rfl h
  | cons r rs =>
    have h1 : okRc r = true ∧ okAll rs = true := by simpa [okAll] using hok
    have := areaR_bounds h1.1
    have := sumA_bounds h1.2
    rw [sumA]
    omega
theorem count_pos {G : Gr} {i : Nat} (hi : i < 6400) (h : G i = true) : 1 ≤ countG G := by
  rw [← count_canon G]
  refine sumA_pos (canon_ok G) fun he => ?_
  rw [(canon_nil_iff G).1 he i hi] at h
  cases h
/-- The cells below n. -/
def flatC (G : Gr) : Nat → Int
  | 0 => 0
  | n + 1 => flatC G n + oneG G n
theorem flatC_row (G : Gr) (a : Nat) : ∀ b : Nat, flatC G (a * 80 + b) = flatC G (a * 80) + rowC (oneG G) (-40) ((a : Int) - 40) b
  | 0 => by simp [rowC, sumI]
  | b + 1 => by
    have e : (ix (-40 + (b : Int)) ((a : Int) - 40)).toNat = a * 80 + b := by unfold ix; omega
    rw [← Nat.add_assoc, flatC, flatC_row G a b]
    unfold rowC
    rw [sumI, e]
    omega
theorem flatC_rows (G : Gr) : ∀ m : Nat, flatC G (m * 80) = sumI (fun y => rowC (oneG G) (-40) y 80) (-40) m
  | 0 => by simp [flatC, sumI]
  | m + 1 => by
    have e : (-40 : Int) + (m : Int) = (m : Int) - 40 := by omega
    rw [Nat.succ_mul, flatC_row, flatC_rows G m, sumI, e]
theorem flatC_all (G : Gr) : flatC G 6400 = countG G := by
  have h := flatC_rows G 80
  rw [show 80 * 80 = 6400 from rfl] at h
  rw [h]; rfl
theorem flatC_bounds (G : Gr) : ∀ n : Nat, 0 ≤ flatC G n ∧ flatC G n ≤ n
  | 0 => by simp [flatC]
  | n + 1 => by
    have := flatC_bounds G n
    rw [flatC]
    unfold oneG
    split <;> omega
theorem flatC_yes {G : Gr} {n : Nat} (h : G n = true) : flatC G (n + 1) = flatC G n + 1 := by rw [flatC, oneG, if_pos h]
theorem flatC_no {G : Gr} {n : Nat} (h : G n = false) : flatC G (n + 1) = flatC G n := by rw [flatC, oneG, if_neg (by rw [h]; simp), Int.add_zero]

/-! ## The smallest of some positive numbers, 0 if there is none -/

def minS (m n : Int) : Int := if m = 0 ∨ n < m then n else m
def minN (ns : List Int) : Int := ns.foldl minS 0
theorem minN_step {ns : List Int} {k : Nat} {n : Int} (h : ns[k]? = some n) : minN (ns.take (k + 1)) = minS (minN (ns.take k)) n := by
  unfold minN
  rw [List.take_add_one, h, Option.toList, List.foldl_append]; rfl
theorem minF_pos : ∀ (ns : List Int) (m : Int), (∀ n ∈ ns, 1 ≤ n ∧ n ≤ 6400) → 1 ≤ m ∧ m ≤ 6400 → 1 ≤ ns.foldl minS m ∧ ns.foldl minS m ≤ 6400
  | [], m, _, h => h
  | n :: ns, m, hn, h => by
    rw [List.foldl_cons]
    refine minF_pos ns _ (fun x hx => hn x (by simp [hx])) ?_
    have := hn n (by simp)
    unfold minS
    split <;> omega
theorem minN_pos {ns : List Int} (h : ∀ n ∈ ns, 1 ≤ n ∧ n ≤ 6400) (hne : ns ≠ []) : 1 ≤ minN ns ∧ minN ns ≤ 6400 := by
  cases ns with
  | nil => exact absurd rfl hne
  | cons n ns =>
    have h0 := h n (by simp)
    unfold minN
    rw [List.foldl_cons]
    have e : minS 0 n = n := if_pos (.inl rfl)
    rw [e]
    exact minF_pos ns n (fun x hx => h x (by simp [hx])) h0
theorem minN_bounds {ns : List Int} (h : ∀ n ∈ ns, 1 ≤ n ∧ n ≤ 6400) (k : Nat) : 0 ≤ minN (ns.take k) ∧ minN (ns.take k) ≤ 6400 := by
  by_cases hne : ns.take k = []
  · rw [hne]; exact ⟨Int.le_refl _, by decide⟩
  · have := minN_pos (ns := ns.take k) (fun n hn => h n (List.mem_of_mem_take hn)) hne
    omega
theorem minN_take_pos {ns : List Int} (h : ∀ n ∈ ns, 1 ≤ n ∧ n ≤ 6400) {k : Nat} (hk : k ≠ 0) (hl : k ≤ ns.length) : 1 ≤ minN (ns.take k) := by
  refine (minN_pos (ns := ns.take k) (fun n hn => h n (List.mem_of_mem_take hn)) fun he => ?_).1
  have := congrArg List.length he
  rw [List.length_take, List.length_nil] at this
  omega

/-! ## The first rectangle -/

/-- s is the first cell of a set. -/
def FirstG (P : Gr) (s : Nat) : Prop := s < 6400 ∧ P s = true ∧ ∀ j, j < s → P j = false
theorem rowRects_none {P : Gr} {a e : Nat} (ha : a < 80) (h : ∀ x, x < 80 → P (a * 80 + x) = false) : rowRects P a e = [] := by
  have key : ∀ n : Nat, n ≤ 80 → restX P a e 0 = restX P a e n ∧ openAt P a n := by
    intro n
    induction n with
    | zero => intro _; exact ⟨rfl, .inl rfl⟩
    | succ n ih =>
      intro hn
      obtain ⟨h1, h2⟩ := ih (by omega)
      have h3 : at_ P a n = false := by rw [at_in P ha (by omega)]; exact h n (by omega)
      exact ⟨h1.trans (restX_skip (by omega) h2 h3), openAt_succ h3⟩
  obtain ⟨h1, h2⟩ := key 80 (Nat.le_refl _)
  rw [← restX_zero, h1, restX_end (Nat.le_refl _) h2]
theorem rowRects_first {P : Gr} {a e s : Nat} (ha : a < 80) (hs : s < 80) (h : ∀ x, x < s → P (a * 80 + x) = false) (hP : P (a * 80 + s) = true) :
    ∃ (m : Nat) (l : List Rc), rowRects P a e = ⟨(s : Int) - 40, (a : Int) - 40, (m : Int) - 40, (e : Int) - 40⟩ :: l := by
  have key : ∀ n : Nat, n ≤ s → restX P a e 0 = restX P a e n ∧ openAt P a n := by
    intro n
    induction n with
    | zero => intro _; exact ⟨rfl, .inl rfl⟩
    | succ n ih =>
      intro hn
      obtain ⟨h1, h2⟩ := ih (by omega)
      have h3 : at_ P a n = false := by rw [at_in P ha (by omega)]; exact h n (by omega)
      exact ⟨h1.trans (restX_skip (by omega) h2 h3), openAt_succ h3⟩
  obtain ⟨h1, h2⟩ := key s (Nat.le_refl _)
  obtain ⟨m, hm, hm2, hall, hend⟩ := cmRun_end (G := P) (a := a) (80 - s) s (Nat.le_refl _) hs (by rw [at_in P ha hs]; exact hP)
  exact ⟨m, _, by rw [← restX_zero, h1, restX_run h2 hm hm2 hall hend]⟩
theorem canon_first {P : Gr} {s : Nat} (h : FirstG P s) : ∃ (x1 y1 : Int) (l : List Rc), canon P = ⟨((s % 80 : Nat) : Int) - 40, ((s / 80 : Nat) : Int) - 40, x1, y1⟩ :: l := by
  obtain ⟨hs, hP, hno⟩ := h
  have hys : s / 80 < 80 := by omega
  have hPs : P ((s / 80) * 80 + s % 80) = true := by rw [show (s / 80) * 80 + s % 80 = s by omega]; exact hP
  have key : ∀ d y : Nat, s / 80 - y ≤ d → y ≤ s / 80 → ∃ (x1 y1 : Int) (l : List Rc), canonFrom P y = ⟨((s % 80 : Nat) : Int) - 40, ((s / 80 : Nat) : Int) - 40, x1, y1⟩ :: l := by
    intro d
    induction d with
    | zero =>
      intro y hd hy
      have e : y = s / 80 := by omega
      subst e
      rw [canonFrom_step P _ hys]
      obtain ⟨m, l, hr⟩ := rowRects_first (P := P) (e := rowEnd' P (s / 80) (s / 80 + 1)) hys (show s % 80 < 80 by omega) (fun x hx => hno _ (by omega)) hPs
      rw [hr]
      exact ⟨_, _, _, rfl⟩
    | succ d ih =>
      intro y hd hy
      by_cases e : y = s / 80
      · exact ih y (by omega) hy
      · have hy80 : y < 80 := by omega
        have hge := rowEnd'_ge P y (y + 1)
        have hle : rowEnd' P y (y + 1) ≤ s / 80 := by
          rcases Nat.lt_or_ge (s / 80) (rowEnd' P y (y + 1)) with hlt | hge2
          · have h1 := rowEnd_same (G := P) (y := y) (80 - (y + 1)) (y + 1) (s / 80) (by omega) hlt
            rw [rowEq_iff] at h1
            have h2 := h1 (s % 80) (by omega)
            rw [hPs, hno _ (by omega)] at h2
            cases h2
          · exact hge2
        rw [canonFrom_step P y hy80, rowRects_none hy80 (fun x hx => hno _ (by omega)), List.nil_append]
        exact ih _ (by omega) hle
  exact key _ 0 (Nat.le_refl _) (Nat.zero_le _)

/-! ## The components in order -/

theorem compG_here (L : Gr) (i : Nat) : compG L i i = true := (compG_iff L i i).2 (reach_start L i)
theorem compG_in {L : Gr} {i j : Nat} (hi : i < 6400) (hL : L i = true) (h : compG L i j = true) : j < 6400 ∧ L j = true := reach_in hi hL ((compG_iff L i j).1 h)
/-- Each component has a first cell, and these are in order. -/
theorem compsF_firsts : ∀ (n i : Nat) (L : Gr), 6400 - i ≤ n → (∀ j, j < i → L j = false) → ∃ ss : List Nat, ss.length = (compsF L i).length ∧ ss.Pairwise (· < ·) ∧ (∀ s ∈ ss, i ≤ s) ∧ ∀ (k : Nat) (P : Gr) (s : Nat), (compsF L i)[k]? = some P → ss[k]? = some s → FirstG P s := by
  intro n
  induction n with
  | zero =>
    intro i L hi _
    rw [compsF_end (by omega)]
    exact ⟨[], rfl, by simp, by simp, fun k P s h => by simp at h⟩
  | succ n ih =>
    intro i L hi hL
    by_cases h6 : i < 6400
    · cases hLi : L i with
      | true =>
        rw [compsF_yes h6 hLi]
        obtain ⟨ss, h1, h2, h3, h4⟩ := ih (i + 1) (minusG L (compG L i)) (by omega) (fun j hj => by
          unfold minusG
          by_cases e : j = i
          · rw [e, compG_here]; simp
          · rw [hL j (by omega)]; rfl)
        refine ⟨i :: ss, by simp [h1], List.pairwise_cons.2 ⟨fun s hs => by have := h3 s hs; omega, h2⟩, fun s hs => ?_, fun k P s hk hs => ?_⟩
        · rcases List.mem_cons.1 hs with rfl | hs
          · exact Nat.le_refl _
          · have := h3 s hs; omega
        · cases k with
          | zero =>
            simp at hk hs
            subst hk hs
            refine ⟨h6, compG_here L i, fun j hj => ?_⟩
            rw [Bool.eq_false_iff]
            intro hc
            have := (compG_in h6 hLi hc).2
            rw [hL j hj] at this
            cases this
          | succ k => exact h4 k P s (by simpa using hk) (by simpa using hs)
      | false =>
        rw [compsF_no h6 hLi]
        obtain ⟨ss, h1, h2, h3, h4⟩ := ih (i + 1) L (by omega) (fun j hj => by
          by_cases e : j = i
          · rw [e]; exact hLi
          · exact hL j (by omega))
        exact ⟨ss, h1, h2, fun s hs => by have := h3 s hs; omega, h4⟩
    · rw [compsF_end (by omega)]
      exact ⟨[], rfl, by simp, by simp, fun k P s h => by simp at h⟩
theorem comps_firsts (G : Gr) : ∃ ss : List Nat, ss.length = (comps G).length ∧ ss.Pairwise (· < ·) ∧ ∀ (k : Nat) (P : Gr) (s : Nat), (comps G)[k]? = some P → ss[k]? = some s → FirstG P s := by
  obtain ⟨ss, h1, h2, _, h4⟩ := compsF_firsts 6400 0 G (by omega) (fun j hj => absurd hj (by omega))
  exact ⟨ss, h1, h2, h4⟩
theorem comps_first (G : Gr) {P : Gr} (h : P ∈ comps G) : ∃ s, FirstG P s := by
  obtain ⟨ss, h1, _, h4⟩ := comps_firsts G
  obtain ⟨k, hk, he⟩ := List.mem_iff_getElem.1 h
  have hk2 : k < ss.length := by omega
  exact ⟨ss[k], h4 k P ss[k] (by rw [List.getElem?_eq_getElem hk, he]) (List.getElem?_eq_getElem hk2)⟩
/-- The numbers of cells of the components. -/
noncomputable def countsV (G : Gr) : List Int := (comps G).map countG
theorem counts_ok (G : Gr) : ∀ n ∈ countsV G, 1 ≤ n ∧ n ≤ 6400 := by
  intro n hn
  obtain ⟨P, hP, rfl⟩ := List.mem_map.1 hn
  obtain ⟨s, h1, h2, _⟩ := comps_first G hP
  exact ⟨count_pos h1 h2, (count_bounds P).2⟩

end Go.Proofs.YtgegbgkokkdmpaaGreat

namespace Go.Proofs.YtgegbgkokkdmpaaGreat

/-- The first n cells of F, the others of G. -/
def headG (F G : Gr) (n : Nat) : Gr := fun i => if i < n then F i else G i
theorem headG_zero (F G : Gr) : headG F G 0 = G := by funext i; simp [headG]
theorem headG_at (F G : Gr) (n : Nat) : headG F G n n = G n := if_neg (Nat.lt_irrefl n)
theorem headG_step (F G : Gr) (n : Nat) : updG (headG F G n) n (F n) = headG F G (n + 1) := by
  funext i
  unfold updG headG
  by_cases h : i = n
  · subst h; rw [if_pos rfl, if_pos (Nat.lt_succ_self _)]
  · rw [if_neg h]
    by_cases h2 : i < n
    · rw [if_pos h2, if_pos (by omega)]
    · rw [if_neg h2, if_neg (by omega)]
theorem headG_all (F G : Gr) : sameG (headG F G 6400) F := fun i hi => by unfold headG; rw [if_pos hi]

end Go.Proofs.YtgegbgkokkdmpaaGreat

namespace Go.Proofs.YtgegbgkokkdmpaaGreat

theorem low_spec {p : Int → Bool} (hp : ∀ t, p t = true → -40 ≤ t) : ∀ (n : Nat) (x : Int), (x + 41).toNat ≤ n → p x = true → lowOf p x ≤ x ∧ (∀ s, lowOf p x ≤ s → s ≤ x → p s = true) ∧ p (lowOf p x - 1) = false := by
  intro n
  induction n with
  | zero => intro x hn hx; have := hp x hx; omega
  | succ n ih =>
    intro x hn hx
    by_cases h : p (x - 1) = true
    · have h40 := hp _ h
      rw [lowOf_step h h40]
      obtain ⟨h1, h2, h3⟩ := ih (x - 1) (by omega) h
      refine ⟨by omega, fun s hs1 hs2 => ?_, h3⟩
      by_cases e : s = x
      · rw [e]; exact hx
      · exact h2 s hs1 (by omega)
    · have h' : p (x - 1) = false := by simpa using h
      rw [lowOf_stop h']
      exact ⟨Int.le_refl _, fun s h1 h2 => by have e : s = x := by omega
                                              rw [e]; exact hx, h'⟩
theorem high_spec {p : Int → Bool} (hp : ∀ t, p t = true → t ≤ 39) : ∀ (n : Nat) (x : Int), (41 - x).toNat ≤ n → x ≤ 40 → x ≤ highOf p x ∧ (∀ s, x ≤ s → s < highOf p x → p s = true) ∧ p (highOf p x) = false := by
  intro n
  induction n with
  | zero => intro x hn hx; omega
  | succ n ih =>
    intro x hn hx
    by_cases h : p x = true
    · have h39 := hp _ h
      rw [highOf_step h h39]
      obtain ⟨h1, h2, h3⟩ := ih (x + 1) (by omega) (by omega)
      refine ⟨by omega, fun s hs1 hs2 => ?_, h3⟩
      by_cases e : s = x
      · rw [e]; exact h
      · exact h2 s (by omega) hs2
    · have h' : p x = false := by simpa using h
      rw [highOf_stop h']
      exact ⟨Int.le_refl _, fun s h1 h2 => absurd h2 (by omega), h'⟩
section
variable {G : Gr} {vert : Bool} {a f t : Int}
theorem ln_low (h : lnG G vert a t = true) : lowOf (lnG G vert a) t ≤ t ∧ (∀ s, lowOf (lnG G vert a) t ≤ s → s ≤ t → lnG G vert a s = true) ∧ lnG G vert a (lowOf (lnG G vert a) t - 1) = false :=
  low_spec (fun _ ht => (lnG_in ht).1) _ t (Nat.le_refl _) h
theorem ln_high (h : f ≤ 39) : f + 1 ≤ stopG G vert a f ∧ (∀ s, f + 1 ≤ s → s < stopG G vert a f → lnG G vert a s = true) ∧ lnG G vert a (stopG G vert a f) = false :=
  high_spec (fun _ ht => (lnG_in ht).2) _ (f + 1) (Nat.le_refl _) (by omega)
theorem start_iff : startG G vert a f = true ↔ lnG G vert a f = true ∧ lnG G vert a (f - 1) = false := by
  unfold startG
  cases lnG G vert a f <;> cases lnG G vert a (f - 1) <;> simp
theorem start_low (h : lnG G vert a t = true) : startG G vert a (lowOf (lnG G vert a) t) = true := by
  obtain ⟨h1, h2, h3⟩ := ln_low h
  exact start_iff.2 ⟨h2 _ (Int.le_refl _) h1, h3⟩
/-- The cells of the run that starts at f. -/
theorem run_core (hs : startG G vert a f = true) : (f ≤ t ∧ t < stopG G vert a f) ↔ (lnG G vert a t = true ∧ lowOf (lnG G vert a) t = f) := by
  obtain ⟨hf, hf1⟩ := start_iff.1 hs
  obtain ⟨k1, k2, k3⟩ := ln_high (G := G) (vert := vert) (a := a) (lnG_in hf).2
  constructor
  · rintro ⟨h1, h2⟩
    have hall : ∀ s, f ≤ s → s < stopG G vert a f → lnG G vert a s = true := fun s h3 h4 => by
      by_cases e : s = f
      · rw [e]; exact hf
      · exact k2 s (by omega) h4
    have ht := hall t h1 h2
    obtain ⟨l1, l2, l3⟩ := ln_low ht
    refine ⟨ht, ?_⟩
    rcases Int.lt_trichotomy (lowOf (lnG G vert a) t) f with h | h | h
    · rw [l2 (f - 1) (by omega) (by omega)] at hf1; cases hf1
    · exact h
    · rw [hall _ (by omega) (by omega)] at l3; cases l3
  · rintro ⟨ht, hl⟩
    obtain ⟨l1, l2, l3⟩ := ln_low ht
    rw [hl] at l1 l2
    refine ⟨l1, ?_⟩
    rcases Int.lt_or_le t (stopG G vert a f) with h | h
    · exact h
    · rw [l2 _ (by omega) h] at k3; cases k3
theorem run_stop (h : lnG G vert a t = true) : highOf (lnG G vert a) (t + 1) = stopG G vert a (lowOf (lnG G vert a) t) := by
  obtain ⟨l1, l2, l3⟩ := ln_low h
  have hs := start_low h
  have ht := lnG_in h
  obtain ⟨k1, k2, k3⟩ := ln_high (G := G) (vert := vert) (a := a) (f := lowOf (lnG G vert a) t) (by omega)
  obtain ⟨m1, m2, m3⟩ := ln_high (G := G) (vert := vert) (a := a) (f := t) (by omega)
  have hlt := ((run_core hs).2 ⟨h, rfl⟩).2
  show stopG G vert a t = _
  rcases Int.lt_trichotomy (stopG G vert a t) (stopG G vert a (lowOf (lnG G vert a) t)) with e | e | e
  · rw [k2 _ (by omega) e] at m3; cases m3
  · exact e
  · rw [m2 _ (by omega) e] at k3; cases k3
end

/-! ## The cells by line and place -/

def lnA (vert : Bool) (i : Nat) : Int := if vert = true then ((i % 80 : Nat) : Int) - 40 else ((i / 80 : Nat) : Int) - 40
def lnT (vert : Bool) (i : Nat) : Int := if vert = true then ((i / 80 : Nat) : Int) - 40 else ((i % 80 : Nat) : Int) - 40
theorem lnG_cell (G : Gr) (vert : Bool) {i : Nat} (hi : i < 6400) : lnG G vert (lnA vert i) (lnT vert i) = G i := by
  have hx : onC (((i % 80 : Nat) : Int) - 40) (((i / 80 : Nat) : Int) - 40) = true := by rw [onC_iff]; omega
  have hn : (ix (((i % 80 : Nat) : Int) - 40) (((i / 80 : Nat) : Int) - 40)).toNat = i := by unfold ix; omega
  cases vert
  · simp only [lnA, lnT, Bool.false_eq_true, if_false, lnG_h]
    rw [hasG_on hx, hn]
  · simp only [lnA, lnT, if_true, lnG_v]
    rw [hasG_on hx, hn]
theorem inR_line (vert : Bool) (a f t : Int) (i : Nat) : inR (lineR vert a f t) i = true ↔ lnA vert i = a ∧ f ≤ lnT vert i ∧ lnT vert i < t := by
  rw [inR_iff]
  cases vert
  · simp only [lineR, lnA, lnT, Bool.false_eq_true, if_false]
    omega
  · simp only [lineR, lnA, lnT, if_true]
    omega
theorem lnA_in (vert : Bool) {i : Nat} (hi : i < 6400) : -40 ≤ lnA vert i ∧ lnA vert i ≤ 39 := by
  unfold lnA
  split <;> omega
/-- The run through a cell. -/
def runAt (G : Gr) (vert : Bool) (i : Nat) : Rc := lineR vert (lnA vert i) (lowOf (lnG G vert (lnA vert i)) (lnT vert i)) (stopG G vert (lnA vert i) (lowOf (lnG G vert (lnA vert i)) (lnT vert i)))
theorem runAt_runR {G : Gr} {x y : Int} {vert : Bool} (h : hasG G x y = true) : runR G x y vert = runAt G vert (ix x y).toNat := by
  have hc := hasG_in h
  have e1 : (((ix x y).toNat % 80 : Nat) : Int) - 40 = x := by unfold ix; omega
  have e2 : (((ix x y).toNat / 80 : Nat) : Int) - 40 = y := by unfold ix; omega
  cases vert
  · have hl : lnG G false y x = true := h
    have := run_stop hl
    unfold runAt
    simp only [lnA, lnT, Bool.false_eq_true, if_false, e1, e2, lineR]
    rw [← this]
    unfold runR
    rw [if_neg (by simp)]
    rfl
  · have hl : lnG G true x y = true := h
    have := run_stop hl
    unfold runAt
    simp only [lnA, lnT, if_true, e1, e2, lineR]
    rw [← this]
    unfold runR
    rw [if_pos rfl]
    rfl
/-- The runs are the runs through the cells. -/
theorem mem_runs_iff {G : Gr} {vert : Bool} {r : Rc} : r ∈ runsG G vert ↔ ∃ a f : Int, -40 ≤ a ∧ a ≤ 39 ∧ startG G vert a f = true ∧ r = lineR vert a f (stopG G vert a f) := by
  unfold runsG restA
  rw [List.mem_flatMap]
  constructor
  · rintro ⟨k, hk, hr⟩
    rw [List.mem_range'_1] at hk
    rw [restL, List.mem_map] at hr
    obtain ⟨j, hj, rfl⟩ := hr
    rw [List.mem_filter] at hj
    exact ⟨(k : Int) - 40, (j : Int) - 40, by omega, by omega, hj.2, rfl⟩
  · rintro ⟨a, f, h1, h2, hs, rfl⟩
    have hf := lnG_in (start_iff.1 hs).1
    have e1 : (((a + 40).toNat : Nat) : Int) - 40 = a := by omega
    have e2 : (((f + 40).toNat : Nat) : Int) - 40 = f := by omega
    refine ⟨(a + 40).toNat, by rw [List.mem_range'_1]; omega, ?_⟩
    rw [restL, List.mem_map]
    refine ⟨(f + 40).toNat, ?_, by rw [e1, e2]⟩
    rw [List.mem_filter, List.mem_range'_1, e1, e2]
    exact ⟨by omega, hs⟩
theorem runAt_mem {G : Gr} {vert : Bool} {i : Nat} (hi : i < 6400) (h : G i = true) : runAt G vert i ∈ runsG G vert := by
  have hl : lnG G vert (lnA vert i) (lnT vert i) = true := by rw [lnG_cell G vert hi]; exact h
  have ha := lnA_in vert hi
  exact mem_runs_iff.2 ⟨_, _, ha.1, ha.2, start_low hl, rfl⟩
theorem runAt_in {G : Gr} {vert : Bool} {i : Nat} (hi : i < 6400) (h : G i = true) : inR (runAt G vert i) i = true := by
  have hl : lnG G vert (lnA vert i) (lnT vert i) = true := by rw [lnG_cell G vert hi]; exact h
  exact (inR_line _ _ _ _ _).2 ⟨rfl, (run_core (start_low hl)).2 ⟨hl, rfl⟩⟩
/-- A run that holds a cell is the run through it. -/
theorem run_at {G : Gr} {vert : Bool} {r : Rc} (hr : r ∈ runsG G vert) {i : Nat} (hi : i < 6400) (h : inR r i = true) : G i = true ∧ r = runAt G vert i := by
  obtain ⟨a, f, h1, h2, hs, rfl⟩ := mem_runs_iff.1 hr
  obtain ⟨ha, ht⟩ := (inR_line _ _ _ _ _).1 h
  subst ha
  obtain ⟨hl, hlow⟩ := (run_core hs).1 ht
  refine ⟨by rw [← lnG_cell G vert hi]; exact hl, ?_⟩
  unfold runAt
  rw [hlow]
/-- Each cell of the set lies in just one run. -/
theorem cntR_restL (G : Gr) (vert : Bool) (a : Int) {i : Nat} (hi : i < 6400) : ∀ (d k : Nat), 80 - k ≤ d → cntR (restL G vert a k) i = if lnA vert i = a ∧ G i = true ∧ (k : Int) - 40 ≤ lowOf (lnG G vert a) (lnT vert i) then 1 else 0 := by
  intro d
  induction d with
  | zero =>
    intro k hk
    rw [restL_end G vert a (by omega), if_neg]
    · rfl
    · rintro ⟨rfl, hG, hl⟩
      have h0 : lnG G vert (lnA vert i) (lnT vert i) = true := by rw [lnG_cell G vert hi]; exact hG
      have := (ln_low h0).1
      have := (lnG_in h0).2
      omega
  | succ d ih =>
    intro k hk
    by_cases hk8 : k < 80
    · have ih' := ih (k + 1) (by omega)
      by_cases hs : startG G vert a ((k : Int) - 40) = true
      · rw [restL_on G vert a hk8 hs]
        unfold cntR at ih' ⊢
        rw [List.countP_cons, ih']
        by_cases hin : inR (lineR vert a ((k : Int) - 40) (stopG G vert a ((k : Int) - 40))) i = true
        · rw [if_pos hin]
          obtain ⟨ha, ht⟩ := (inR_line _ _ _ _ _).1 hin
          obtain ⟨hl, hlow⟩ := (run_core hs).1 ht
          have hG : G i = true := by rw [← lnG_cell G vert hi, ha]; exact hl
          rw [if_neg (by rintro ⟨_, _, h3⟩; rw [hlow] at h3; omega), if_pos ⟨ha, hG, by rw [hlow]; omega⟩]
        · rw [if_neg hin]
          by_cases hc : lnA vert i = a ∧ G i = true ∧ (k : Int) - 40 ≤ lowOf (lnG G vert a) (lnT vert i)
          · obtain ⟨ha, hG, hl⟩ := hc
            have h0 : lnG G vert a (lnT vert i) = true := by rw [← ha, lnG_cell G vert hi]; exact hG
            have hne : lowOf (lnG G vert a) (lnT vert i) ≠ (k : Int) - 40 := fun he => hin ((inR_line _ _ _ _ _).2 ⟨ha, (run_core hs).2 ⟨h0, he⟩⟩)
            rw [if_pos ⟨ha, hG, by omega⟩, if_pos ⟨ha, hG, by omega⟩]
          · rw [if_neg hc, if_neg (fun h => hc ⟨h.1, h.2.1, by have := h.2.2; omega⟩)]
      · have hs' : startG G vert a ((k : Int) - 40) = false := by simpa using hs
        rw [restL_off G vert a hk8 hs', ih']
        by_cases hc : lnA vert i = a ∧ G i = true ∧ (k : Int) - 40 ≤ lowOf (lnG G vert a) (lnT vert i)
        · obtain ⟨ha, hG, hl⟩ := hc
          have h0 : lnG G vert a (lnT vert i) = true := by rw [← ha, lnG_cell G vert hi]; exact hG
          have hne : lowOf (lnG G vert a) (lnT vert i) ≠ (k : Int) - 40 := fun he => hs (he ▸ start_low h0)
          rw [if_pos ⟨ha, hG, by omega⟩, if_pos ⟨ha, hG, by omega⟩]
        · rw [if_neg hc, if_neg (fun h => hc ⟨h.1, h.2.1, by have := h.2.2; omega⟩)]
    · rw [restL_end G vert a (by omega), if_neg]
      · rfl
      · rintro ⟨rfl, hG, hl⟩
        have h0 : lnG G vert (lnA vert i) (lnT vert i) = true := by rw [lnG_cell G vert hi]; exact hG
        have := (ln_low h0).1
        have := (lnG_in h0).2
        omega
theorem low_ge {G : Gr} {vert : Bool} {a t : Int} (h : lnG G vert a t = true) : -40 ≤ lowOf (lnG G vert a) t := (lnG_in (start_iff.1 (start_low h)).1).1
theorem cntR_restA (G : Gr) (vert : Bool) {i : Nat} (hi : i < 6400) : ∀ (d a : Nat), 80 - a ≤ d → cntR (restA G vert a) i = if (a : Int) - 40 ≤ lnA vert i ∧ G i = true then 1 else 0 := by
  have hA := lnA_in vert hi
  intro d
  induction d with
  | zero =>
    intro a ha
    rw [restA_end G vert (by omega), if_neg (by omega)]; rfl
  | succ d ih =>
    intro a ha
    by_cases ha8 : a < 80
    · rw [restA_step G vert ha8, cntR_append, ih (a + 1) (by omega), cntR_restL G vert _ hi 80 0 (by omega)]
      by_cases hG : G i = true
      · by_cases he : lnA vert i = (a : Int) - 40
        · have h0 : lnG G vert ((a : Int) - 40) (lnT vert i) = true := by rw [← he, lnG_cell G vert hi]; exact hG
          have := low_ge h0
          rw [if_pos ⟨he, hG, by omega⟩, if_neg (by omega), if_pos ⟨by omega, hG⟩]
        · rw [if_neg (fun h => he h.1)]
          by_cases h1 : (a : Int) - 40 ≤ lnA vert i
          · rw [if_pos ⟨by omega, hG⟩, if_pos ⟨h1, hG⟩]
          · rw [if_neg (by omega), if_neg (by omega)]
      · rw [if_neg (fun h => hG h.2.1), if_neg (fun h => hG h.2), if_neg (fun h => hG h.2)]
    · rw [restA_end G vert (by omega), if_neg (by omega)]; rfl
theorem cntR_runs (G : Gr) (vert : Bool) {i : Nat} (hi : i < 6400) : cntR (runsG G vert) i = if G i = true then 1 else 0 := by
  have hA := lnA_in vert hi
  unfold runsG
  rw [cntR_restA G vert hi 80 0 (by omega)]
  by_cases hG : G i = true
  · rw [if_pos ⟨by omega, hG⟩, if_pos hG]
  · rw [if_neg (fun h => hG h.2), if_neg hG]
theorem sum_runs (G : Gr) (vert : Bool) : sumA (runsG G vert) = countG G := by
  rw [← sumC_full (runsG_ok G vert), ← cover_list (runsG G vert) fullR (runsG_ok G vert) fullR_ok]
  unfold countG coverG
  refine boxC_congr (by decide) (by decide) fun i hi => ?_
  rw [cntR_runs G vert hi]
  unfold oneG
  split <;> rfl
theorem runs_nil_iff (G : Gr) (vert : Bool) : runsG G vert = [] ↔ ∀ i, i < 6400 → G i = false := by
  constructor
  · intro h i hi
    rw [Bool.eq_false_iff]
    intro hG
    have := runAt_mem (vert := vert) hi hG
    rw [h] at this
    cases this
  · intro h
    rw [List.eq_nil_iff_forall_not_mem]
    intro r hr
    obtain ⟨a, f, h1, h2, hs, rfl⟩ := mem_runs_iff.1 hr
    have hf := (start_iff.1 hs).1
    have hin := lnG_in hf
    cases vert
    · have hh : hasG G f a = true := hf
      have hc : onC f a = true := by rw [onC_iff]; omega
      rw [hasG_on hc, h _ (by unfold ix; omega)] at hh
      cases hh
    · have hh : hasG G a f = true := hf
      have hc : onC a f = true := by rw [onC_iff]; omega
      rw [hasG_on hc, h _ (by unfold ix; omega)] at hh
      cases hh
/-- The cells of the runs that are too short. -/
theorem short_runs {G : Gr} {vert : Bool} {d : Int} {i : Nat} (hi : i < 6400) : shortG (runsG G vert) d i = true ↔ G i = true ∧ areaR (runAt G vert i) < d := by
  unfold shortG
  rw [cellsG_iff]
  constructor
  · rintro ⟨r, hr, h⟩
    rw [List.mem_filter] at hr
    obtain ⟨hG, rfl⟩ := run_at hr.1 hi h
    exact ⟨hG, of_decide_eq_true hr.2⟩
  · rintro ⟨hG, hd⟩
    exact ⟨_, List.mem_filter.2 ⟨runAt_mem hi hG, decide_eq_true hd⟩, runAt_in hi hG⟩

end Go.Proofs.YtgegbgkokkdmpaaGreat
