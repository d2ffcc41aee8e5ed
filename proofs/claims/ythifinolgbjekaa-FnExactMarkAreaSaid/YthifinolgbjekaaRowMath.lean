/- Plain mathematics: the changes of a row tell the row; pairs of changes; lists read from a place on. No conditions. -/
import Derived.Test.YthifinolgbjekaaGrid
namespace Go.Proofs.Ythifinolgbjekaa

theorem at_in (G : Gr) {y x : Nat} (hy : y < 80) (hx : x < 80) : at_ G y x = G (y * 80 + x) := by simp [at_, hy, hx]
theorem at_out (G : Gr) {y x : Nat} (hx : 80 ≤ x) : at_ G y x = false := by simp [at_]; omega

/-- Rows with the same changes are alike. -/
theorem row_of_turns {G : Gr} {a b : Nat} (ha : a < 80) (hb : b < 80) (h : ∀ x, x < 81 → turns G a x = turns G b x) : ∀ x, x < 80 → G (a * 80 + x) = G (b * 80 + x) := by
  intro x
  induction x with
  | zero =>
    intro hx
    have := h 0 (by omega)
    simpa [turns, at_in G ha hx, at_in G hb hx] using this
  | succ x ih =>
    intro hx
    have h1 := h (x + 1) (by omega)
    have h2 := ih (by omega)
    simp only [turns, at_in G ha hx, at_in G hb hx, Nat.add_sub_cancel, at_in G ha (show x < 80 by omega), at_in G hb (show x < 80 by omega), h2] at h1
    have e : decide (0 < x + 1) = true := by simp
    rw [e] at h1
    simp only [Bool.true_and] at h1
    revert h1
    cases G (a * 80 + (x + 1)) <;> cases G (b * 80 + (x + 1)) <;> cases G (b * 80 + x) <;> simp
theorem turns_of_row {G : Gr} {a b : Nat} (ha : a < 80) (hb : b < 80) (h : ∀ x, x < 80 → G (a * 80 + x) = G (b * 80 + x)) (x : Nat) : turns G a x = turns G b x := by
  have e : ∀ x, at_ G a x = at_ G b x := by
    intro x
    by_cases hx : x < 80
    · rw [at_in G ha hx, at_in G hb hx, h x hx]
    · rw [at_out G (by omega), at_out G (by omega)]
  simp only [turns, e]
theorem filter_eq_iff {n : Nat} {p q : Nat → Bool} : (List.range n).filter p = (List.range n).filter q ↔ ∀ x, x < n → p x = q x := by
  constructor
  · intro h x hx
    rw [Bool.eq_iff_iff]
    have h1 : x ∈ (List.range n).filter p ↔ x ∈ (List.range n).filter q := by rw [h]
    simpa [hx] using h1
  · intro h
    apply List.filter_congr
    intro x hx
    exact h x (by simpa using hx)
theorem turnsTo_eq_iff {G : Gr} {a b : Nat} (ha : a < 80) (hb : b < 80) : turnsTo G a 81 = turnsTo G b 81 ↔ rowEq G a b = true := by
  rw [rowEq_iff]
  constructor
  · intro h
    exact row_of_turns ha hb (filter_eq_iff.1 h)
  · intro h
    exact filter_eq_iff.2 fun x _ => turns_of_row ha hb h x

/-- The changes of a row as the reference lists them. -/
def runsL (G : Gr) (a : Nat) : List Int := (turnsTo G a 81).map fun x : Nat => (x : Int) - 40
theorem runsL_eq_iff {G : Gr} {a b : Nat} (ha : a < 80) (hb : b < 80) : decide (runsL G a = runsL G b) = rowEq G a b := by
  rw [Bool.eq_iff_iff, decide_eq_true_iff, ← turnsTo_eq_iff ha hb]
  constructor
  · intro h
    have hinj : ∀ (l m : List Nat), l.map (fun x : Nat => (x : Int) - 40) = m.map (fun x : Nat => (x : Int) - 40) → l = m := by
      intro l
      induction l with
      | nil => intro m hm; cases m <;> simp_all
      | cons x l ih =>
        intro m hm
        cases m with
        | nil => simp at hm
        | cons y m =>
          simp only [List.map_cons, List.cons.injEq] at hm
          rw [ih m hm.2]
          congr 1
          omega
    exact hinj _ _ h
  · intro h
    rw [runsL, h]; rfl
theorem runsL_length (G : Gr) (a : Nat) : (runsL G a).length ≤ 81 := by
  rw [runsL, List.length_map, turnsTo]
  exact Nat.le_trans (List.length_filter_le _ _) (by simp)

theorem pairs_short {α : Type} {l : List α} (h : l.length ≤ 1) : pairs l = [] := by
  match l, h with
  | [], _ => rfl
  | [a], _ => rfl
theorem pairs_drop {α : Type} {l : List α} {i : Nat} {a b : α} (ha : l[i]? = some a) (hb : l[i + 1]? = some b) : pairs (l.drop i) = (a, b) :: pairs (l.drop (i + 2)) := by
  have h0 : i < l.length := (List.getElem?_eq_some_iff.1 ha).1
  have h1 : i + 1 < l.length := (List.getElem?_eq_some_iff.1 hb).1
  have e0 : l[i] = a := by rw [List.getElem?_eq_getElem h0] at ha; exact Option.some.inj ha
  have e1 : l[i + 1] = b := by rw [List.getElem?_eq_getElem h1] at hb; exact Option.some.inj hb
  rw [List.drop_eq_getElem_cons h0, List.drop_eq_getElem_cons h1, e0, e1]
  rfl

/-- The rectangles of the changes from place i on. -/
def restR (G : Gr) (a e i : Nat) : List Rc := (pairs ((turnsTo G a 81).drop i)).map fun p => ⟨(p.1 : Int) - 40, (a : Int) - 40, (p.2 : Int) - 40, (e : Int) - 40⟩
theorem restR_zero (G : Gr) (a e : Nat) : restR G a e 0 = rowRects G a e := rfl
theorem restR_end (G : Gr) (a e i : Nat) (h : (runsL G a).length ≤ i + 1) : restR G a e i = [] := by
  rw [runsL, List.length_map] at h
  rw [restR, pairs_short (by rw [List.length_drop]; omega)]
  rfl
theorem restR_step (G : Gr) (a e i : Nat) (p q : Int) (hp : (runsL G a)[i]? = some p) (hq : (runsL G a)[i + 1]? = some q) : restR G a e i = ⟨p, (a : Int) - 40, q, (e : Int) - 40⟩ :: restR G a e (i + 2) := by
  rw [runsL, List.getElem?_map] at hp hq
  obtain ⟨p', hp', rfl⟩ := Option.map_eq_some_iff.1 hp
  obtain ⟨q', hq', rfl⟩ := Option.map_eq_some_iff.1 hq
  rw [restR, pairs_drop hp' hq']
  rfl

/-! ## The runs of a row, scanned from the left -/

/-- The changes of a row from n on. -/
def turnsFrom (G : Gr) (a n : Nat) : List Nat := (List.range' n (81 - n)).filter (turns G a)
theorem turnsFrom_zero (G : Gr) (a : Nat) : turnsFrom G a 0 = turnsTo G a 81 := by rw [turnsFrom, turnsTo, List.range_eq_range']
theorem turnsFrom_end (G : Gr) (a n : Nat) (h : 81 ≤ n) : turnsFrom G a n = [] := by
  have : 81 - n = 0 := by omega
  rw [turnsFrom, this]; rfl
theorem turnsFrom_step (G : Gr) (a n : Nat) (h : n < 81) : turnsFrom G a n = (if turns G a n = true then [n] else []) ++ turnsFrom G a (n + 1) := by
  have e : 81 - n = (81 - (n + 1)) + 1 := by omega
  rw [turnsFrom, e, List.range'_succ, List.filter_cons, turnsFrom]
  split <;> rfl
/-- The cell before n isn't set. -/
def openAt (G : Gr) (a n : Nat) : Prop := n = 0 ∨ at_ G a (n - 1) = false
theorem turns_open {G : Gr} {a n : Nat} (h : openAt G a n) : turns G a n = at_ G a n := by
  unfold turns
  rcases h with rfl | h
  · simp
  · rw [h]; simp
theorem turnsFrom_skip {G : Gr} {a n : Nat} (hn : n < 81) (ho : openAt G a n) (h : at_ G a n = false) : turnsFrom G a n = turnsFrom G a (n + 1) := by
  rw [turnsFrom_step G a n hn, turns_open ho, h]; rfl
theorem openAt_succ {G : Gr} {a n : Nat} (h : at_ G a n = false) : openAt G a (n + 1) := .inr (by rw [Nat.add_sub_cancel]; exact h)
theorem turnsFrom_inside {G : Gr} {a : Nat} : ∀ (d n : Nat), n + d ≤ 80 → (∀ k, n ≤ k → k < n + d → at_ G a k = true) → (0 < n ∧ at_ G a (n - 1) = true) → turnsFrom G a n = turnsFrom G a (n + d) := by
  intro d
  induction d with
  | zero => intro n _ _ _; rfl
  | succ d ih =>
    intro n hn hk hp
    have h0 := hk n (Nat.le_refl _) (by omega)
    have ht : turns G a n = false := by
      unfold turns
      rw [h0, hp.2, decide_eq_true hp.1]
      rfl
    rw [turnsFrom_step G a n (by omega), ht]
    have := ih (n + 1) (by omega) (fun k h1 h2 => hk k (by omega) (by omega)) ⟨by omega, by rw [Nat.add_sub_cancel]; exact h0⟩
    have e : n + 1 + d = n + (d + 1) := by omega
    rw [e] at this
    rw [← this]
    rfl
theorem turnsFrom_run {G : Gr} {a n m : Nat} (ho : openAt G a n) (hnm : n < m) (hm : m ≤ 80) (hk : ∀ k, n ≤ k → k < m → at_ G a k = true) (he : at_ G a m = false) : turnsFrom G a n = n :: m :: turnsFrom G a (m + 1) := by
  have h0 := hk n (Nat.le_refl _) hnm
  rw [turnsFrom_step G a n (by omega), turns_open ho, h0]
  have h1 : turnsFrom G a (n + 1) = turnsFrom G a m := by
    have := turnsFrom_inside (G := G) (a := a) (m - (n + 1)) (n + 1) (by omega) (fun k h1 h2 => hk k (by omega) (by omega)) ⟨by omega, by rw [Nat.add_sub_cancel]; exact h0⟩
    have e : n + 1 + (m - (n + 1)) = m := by omega
    rwa [e] at this
  have ht : turns G a m = true := by
    unfold turns
    rw [he, hk (m - 1) (by omega) (by omega), decide_eq_true (show 0 < m by omega)]
    rfl
  rw [h1, turnsFrom_step G a m (by omega), ht]
  rfl

/-- The rectangles of the runs from n on. -/
def restX (G : Gr) (a e n : Nat) : List Rc := (pairs (turnsFrom G a n)).map fun p => ⟨(p.1 : Int) - 40, (a : Int) - 40, (p.2 : Int) - 40, (e : Int) - 40⟩
theorem restX_zero (G : Gr) (a e : Nat) : restX G a e 0 = rowRects G a e := by rw [restX, turnsFrom_zero]; rfl
theorem restX_skip {G : Gr} {a e n : Nat} (hn : n < 80) (ho : openAt G a n) (h : at_ G a n = false) : restX G a e n = restX G a e (n + 1) := by rw [restX, turnsFrom_skip (by omega) ho h]; rfl
theorem restX_run {G : Gr} {a e n m : Nat} (ho : openAt G a n) (hnm : n < m) (hm : m ≤ 80) (hk : ∀ k, n ≤ k → k < m → at_ G a k = true) (he : at_ G a m = false) :
    restX G a e n = ⟨(n : Int) - 40, (a : Int) - 40, (m : Int) - 40, (e : Int) - 40⟩ :: restX G a e (m + 1) := by rw [restX, turnsFrom_run ho hnm hm hk he]; rfl
theorem restX_end {G : Gr} {a e n : Nat} (hn : 80 ≤ n) (ho : openAt G a n) : restX G a e n = [] := by
  by_cases h : n = 80
  · subst h
    rw [restX, turnsFrom_skip (by omega) ho (at_out G (Nat.le_refl _)), turnsFrom_end G a _ (by omega)]; rfl
  · rw [restX, turnsFrom_end G a n (by omega)]; rfl

/-- Few rectangles. -/
theorem pairs_length {α : Type} : ∀ l : List α, (pairs l).length ≤ l.length
  | [] => Nat.le_refl _
  | [a] => by simp [pairs]
  | a :: b :: l => by have := pairs_length l; simp only [pairs, List.length_cons]; omega
theorem rowRects_length (G : Gr) (a e : Nat) : (rowRects G a e).length ≤ 81 := by
  have h1 := pairs_length (turnsTo G a 81)
  have h2 := runsL_length G a
  rw [runsL, List.length_map] at h2
  rw [rowRects, List.length_map]
  omega
theorem canonFrom_length (G : Gr) : ∀ n y, 80 - y ≤ n → (canonFrom G y).length ≤ n * 81 := by
  intro n
  induction n with
  | zero => intro y hy; rw [canonFrom_end G y (by omega)]; simp
  | succ n ih =>
    intro y hy
    by_cases h : y < 80
    · have hge := rowEnd'_ge G y (y + 1)
      rw [canonFrom_step G y h, List.length_append, Nat.add_mul]
      have h1 := ih (rowEnd' G y (y + 1)) (by omega)
      have h2 := rowRects_length G y (rowEnd' G y (y + 1))
      omega
    · rw [canonFrom_end G y (by omega)]; simp
theorem canon_length (G : Gr) : (canon G).length ≤ 6480 := canonFrom_length G 80 0 (by omega)

end Go.Proofs.Ythifinolgbjekaa
