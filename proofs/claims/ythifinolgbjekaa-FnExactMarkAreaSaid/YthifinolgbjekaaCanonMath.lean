/- Plain mathematics: the canonical form of a set covers each of its cells just once and no other; it is a region. No conditions. -/
import Derived.Test.YthifinolgbjekaaAreaMath
namespace Go.Proofs.Ythifinolgbjekaa

theorem cmRun_end {G : Gr} {a : Nat} : ∀ (d n : Nat), 80 - n ≤ d → n < 80 → at_ G a n = true → ∃ m, n < m ∧ m ≤ 80 ∧ (∀ k, n ≤ k → k < m → at_ G a k = true) ∧ at_ G a m = false := by
  intro d
  induction d with
  | zero => intro n hd hn; omega
  | succ d ih =>
    intro n hd hn hs
    by_cases h1 : at_ G a (n + 1) = true
    · have hn1 : n + 1 < 80 := by
        rcases Nat.lt_or_ge (n + 1) 80 with h | h
        · exact h
        · rw [at_out G h] at h1; cases h1
      obtain ⟨m, h2, h3, h4, h5⟩ := ih (n + 1) (by omega) hn1 h1
      refine ⟨m, by omega, h3, fun k hk hk' => ?_, h5⟩
      by_cases e : k = n
      · rw [e]; exact hs
      · exact h4 k (by omega) hk'
    · refine ⟨n + 1, by omega, by omega, fun k hk hk' => ?_, by simpa using h1⟩
      have e : k = n := by omega
      rw [e]; exact hs

theorem pairs_first {α : Type} : ∀ (l : List α) (p : α × α), p ∈ pairs l → p.1 ∈ l ∧ p.2 ∈ l
  | [], p, h => by simp [pairs] at h
  | [a], p, h => by simp [pairs] at h
  | a :: b :: l, p, h => by
    simp only [pairs, List.mem_cons] at h
    rcases h with rfl | h
    · simp
    · have := pairs_first l p h
      simp [this]
theorem turnsFrom_ge {G : Gr} {a n x : Nat} (h : x ∈ turnsFrom G a n) : n ≤ x := by
  rw [turnsFrom, List.mem_filter, List.mem_range'_1] at h
  exact h.1.1
/-- Does a pair hold a place? -/
def holds (x : Nat) (p : Nat × Nat) : Bool := decide (p.1 ≤ x) && decide (x < p.2)
theorem none_before {G : Gr} {a n x : Nat} (h : x < n) : (pairs (turnsFrom G a n)).countP (holds x) = 0 := by
  rw [List.countP_eq_zero]
  intro p hp
  have h1 := turnsFrom_ge (pairs_first _ _ hp).1
  have : ¬ p.1 ≤ x := by omega
  simp [holds, this]

theorem pairs_count {G : Gr} {a : Nat} : ∀ (d n : Nat), 81 - n ≤ d → openAt G a n → ∀ x, n ≤ x → x < 80 → (pairs (turnsFrom G a n)).countP (holds x) = if at_ G a x = true then 1 else 0 := by
  intro d
  induction d with
  | zero => intro n hd _ x h1 h2; omega
  | succ d ih =>
    intro n hd ho x h1 h2
    by_cases hs : at_ G a n = true
    · obtain ⟨m, hm0, hm1, hall, hend⟩ := cmRun_end 80 n (by omega) (by omega) hs
      rw [turnsFrom_run ho hm0 hm1 hall hend]
      simp only [pairs, List.countP_cons]
      by_cases hx : x < m
      · rw [none_before (show x < m + 1 by omega), hall x h1 hx]
        simp [holds, h1, hx]
      · have hh : holds x (n, m) = false := by simp [holds]; omega
        rw [hh]
        by_cases e : x = m
        · subst e
          rw [none_before (Nat.lt_succ_self _), hend]; rfl
        · rw [ih (m + 1) (by omega) (openAt_succ hend) x (by omega) h2]; simp
    · have hs' : at_ G a n = false := by simpa using hs
      rw [turnsFrom_skip (by omega) ho hs']
      by_cases e : x = n
      · subst e
        rw [none_before (Nat.lt_succ_self _), hs']; rfl
      · exact ih (n + 1) (by omega) (openAt_succ hs') x (by omega) h2

theorem rowEnd_same {G : Gr} {y : Nat} : ∀ (n e r : Nat), e ≤ r → r < rowEnd G y n e → rowEq G r y = true := by
  intro n
  induction n with
  | zero => intro e r h1 h2; rw [rowEnd] at h2; omega
  | succ n ih =>
    intro e r h1 h2
    rw [rowEnd] at h2
    split at h2
    · rename_i hc
      by_cases e' : r = e
      · rw [e']; exact hc.2
      · exact ih (e + 1) r (by omega) h2
    · omega

/-- How many rectangles of a list hold a cell. -/
def cntR (rs : List Rc) (i : Nat) : Nat := rs.countP fun r => inR r i
theorem cntR_append (a b : List Rc) (i : Nat) : cntR (a ++ b) i = cntR a i + cntR b i := List.countP_append
theorem cntR_row (G : Gr) (y e : Nat) (i : Nat) (_hi : i < 6400) (hy : y < 80) : cntR (rowRects G y e) i = if y ≤ i / 80 ∧ i / 80 < e ∧ G (y * 80 + i % 80) = true then 1 else 0 := by
  have hx : i % 80 < 80 := Nat.mod_lt _ (by omega)
  have h1 : cntR (rowRects G y e) i = if y ≤ i / 80 ∧ i / 80 < e then (pairs (turnsTo G y 81)).countP (holds (i % 80)) else 0 := by
    rw [cntR, rowRects, List.countP_map]
    split
    · rename_i h
      apply List.countP_congr
      intro p _
      simp only [Function.comp, inR_iff, holds, Bool.and_eq_true, decide_eq_true_eq]
      omega
    · rename_i h
      rw [List.countP_eq_zero]
      intro p _
      simp only [Function.comp, inR_iff]
      omega
  rw [h1, ← turnsFrom_zero, pairs_count 81 0 (by omega) (.inl rfl) _ (Nat.zero_le _) hx, at_in G hy hx]
  by_cases h : y ≤ i / 80 ∧ i / 80 < e
  · rw [if_pos h]
    simp [h.1, h.2]
  · rw [if_neg h, if_neg (fun h' => h ⟨h'.1, h'.2.1⟩)]

theorem cntR_from (G : Gr) (i : Nat) (hi : i < 6400) : ∀ n y, 80 - y ≤ n → cntR (canonFrom G y) i = if y ≤ i / 80 ∧ G i = true then 1 else 0 := by
  intro n
  have hrow : i / 80 < 80 := by omega
  induction n with
  | zero => intro y hy; rw [canonFrom_end G y (by omega), if_neg (by omega)]; rfl
  | succ n ih =>
    intro y hy
    by_cases h : y < 80
    · have hge := rowEnd'_ge G y (y + 1)
      rw [canonFrom_step G y h, cntR_append, cntR_row G y _ i hi h, ih _ (by omega)]
      by_cases h1 : y ≤ i / 80
      · by_cases h2 : i / 80 < rowEnd' G y (y + 1)
        · have hG : G (y * 80 + i % 80) = G i := by
            by_cases e : i / 80 = y
            · congr 1; omega
            · have := rowEnd_same (80 - (y + 1)) (y + 1) (i / 80) (by omega) h2
              rw [rowEq_iff] at this
              have h3 := this (i % 80) (Nat.mod_lt _ (by omega))
              rw [← h3]
              congr 1; omega
          rw [hG, if_neg (show ¬ (rowEnd' G y (y + 1) ≤ i / 80 ∧ G i = true) by omega)]
          simp [h1, h2]
        · rw [if_neg (show ¬ (y ≤ i / 80 ∧ i / 80 < rowEnd' G y (y + 1) ∧ G (y * 80 + i % 80) = true) by omega)]
          have : rowEnd' G y (y + 1) ≤ i / 80 := by omega
          simp [h1, this]
      · rw [if_neg (by omega), if_neg (by omega), if_neg (by omega)]
    · rw [canonFrom_end G y (by omega), if_neg (by omega)]; rfl
/-- Each cell of a set lies in just one rectangle of the canonical form, no other cell in any. -/
theorem cntR_canon (G : Gr) (i : Nat) (hi : i < 6400) : cntR (canon G) i = if G i = true then 1 else 0 := by
  rw [canon, cntR_from G i hi 80 0 (by omega)]
  simp
theorem cellsG_cnt (rs : List Rc) (i : Nat) : cellsG rs i = decide (0 < cntR rs i) := by
  rw [Bool.eq_iff_iff, decide_eq_true_iff, cntR, List.countP_pos_iff, cellsG, List.any_eq_true]
/-- The cells of the canonical form are the set. -/
theorem cells_canon (G : Gr) : sameG (cellsG (canon G)) G := by
  intro i hi
  rw [cellsG_cnt, cntR_canon G i hi]
  cases G i <;> simp

/-! ## The canonical form hangs on the cells of the chip alone -/
theorem at_congr {G H : Gr} (h : sameG G H) (y x : Nat) : at_ G y x = at_ H y x := by
  by_cases hy : y < 80
  · by_cases hx : x < 80
    · rw [at_in G hy hx, at_in H hy hx, h _ (by omega)]
    · rw [at_out G (by omega), at_out H (by omega)]
  · simp [at_, hy]
theorem turns_congr {G H : Gr} (h : sameG G H) (y x : Nat) : turns G y x = turns H y x := by simp only [turns, at_congr h]
theorem turnsTo_congr {G H : Gr} (h : sameG G H) (y n : Nat) : turnsTo G y n = turnsTo H y n := List.filter_congr fun x _ => turns_congr h y x
theorem rowEq_congr {G H : Gr} (h : sameG G H) {a b : Nat} (ha : a < 80) (hb : b < 80) : rowEq G a b = rowEq H a b := by
  rw [Bool.eq_iff_iff, rowEq_iff, rowEq_iff]
  constructor
  · intro k x hx
    rw [← h _ (by omega), ← h _ (by omega)]
    exact k x hx
  · intro k x hx
    rw [h _ (by omega), h _ (by omega)]
    exact k x hx
theorem rowEnd_congr {G H : Gr} (h : sameG G H) {y : Nat} (hy : y < 80) : ∀ n e, rowEnd G y n e = rowEnd H y n e := by
  intro n
  induction n with
  | zero => intro e; rfl
  | succ n ih =>
    intro e
    rw [rowEnd, rowEnd, ih]
    by_cases he : e < 80
    · rw [rowEq_congr h he hy]
    · rw [if_neg (by omega), if_neg (by omega)]
theorem canonFrom_congr {G H : Gr} (h : sameG G H) : ∀ n y, 80 - y ≤ n → canonFrom G y = canonFrom H y := by
  intro n
  induction n with
  | zero => intro y hy; rw [canonFrom_end G y (by omega), canonFrom_end H y (by omega)]
  | succ n ih =>
    intro y hy
    by_cases hlt : y < 80
    · have e1 : rowEnd' G y (y + 1) = rowEnd' H y (y + 1) := rowEnd_congr h hlt _ _
      have hge := rowEnd'_ge H y (y + 1)
      rw [canonFrom_step G y hlt, canonFrom_step H y hlt, e1, ih _ (by omega)]
      congr 1
      rw [rowRects, rowRects, turnsTo_congr h]
    · rw [canonFrom_end G y (by omega), canonFrom_end H y (by omega)]
theorem canon_congr {G H : Gr} (h : sameG G H) : canon G = canon H := canonFrom_congr h 80 0 (by omega)

/-! ## The canonical form is a region -/
theorem pairs_half {α : Type} : ∀ l : List α, 2 * (pairs l).length ≤ l.length
  | [] => Nat.le_refl _
  | [a] => by simp [pairs]
  | a :: b :: l => by have := pairs_half l; simp only [pairs, List.length_cons]; omega
theorem rowRects_few (G : Gr) (a e : Nat) : (rowRects G a e).length ≤ 40 := by
  have h1 := pairs_half (turnsTo G a 81)
  have h2 := runsL_length G a
  rw [runsL, List.length_map] at h2
  rw [rowRects, List.length_map]
  omega
theorem canonFrom_few (G : Gr) : ∀ n y, 80 - y ≤ n → (canonFrom G y).length ≤ n * 40 := by
  intro n
  induction n with
  | zero => intro y hy; rw [canonFrom_end G y (by omega)]; simp
  | succ n ih =>
    intro y hy
    by_cases h : y < 80
    · have hge := rowEnd'_ge G y (y + 1)
      rw [canonFrom_step G y h, List.length_append, Nat.add_mul]
      have h1 := ih (rowEnd' G y (y + 1)) (by omega)
      have h2 := rowRects_few G y (rowEnd' G y (y + 1))
      omega
    · rw [canonFrom_end G y (by omega)]; simp
theorem canon_few (G : Gr) : (canon G).length ≤ 3200 := canonFrom_few G 80 0 (by omega)
theorem rowRects_ok (G : Gr) (y e : Nat) (hy : y < e) (he : e ≤ 80) : ∀ r ∈ rowRects G y e, okRc r = true := by
  intro r hr
  rw [rowRects, List.mem_map] at hr
  obtain ⟨p, hp, rfl⟩ := hr
  have h1 := pairs_lt (turnsTo_lt G y 81) p hp
  have h2 := turnsTo_le G y 81 _ (pairs_first _ _ hp).2
  rw [okRc_iff]
  dsimp only
  omega
theorem canonFrom_ok (G : Gr) : ∀ n y, 80 - y ≤ n → ∀ r ∈ canonFrom G y, okRc r = true := by
  intro n
  induction n with
  | zero => intro y hy r hr; rw [canonFrom_end G y (by omega)] at hr; simp at hr
  | succ n ih =>
    intro y hy r hr
    by_cases h : y < 80
    · have hge := rowEnd'_ge G y (y + 1)
      have hle := rowEnd'_le G y (y + 1) (by omega)
      rw [canonFrom_step G y h, List.mem_append] at hr
      rcases hr with hr | hr
      · exact rowRects_ok G y _ (by omega) hle r hr
      · exact ih _ (by omega) r hr
    · rw [canonFrom_end G y (by omega)] at hr; simp at hr
theorem canon_ok (G : Gr) : okAll (canon G) = true := by
  rw [okAll, List.all_eq_true]
  exact canonFrom_ok G 80 0 (by omega)
theorem isReg_canon (G : Gr) : isReg (canon G) = true := by
  rw [isReg_iff]
  exact ⟨canon_few G, canon_ok G, canon_congr (cells_canon G)⟩
/-- A region is the canonical form of its cells. -/
theorem canon_of_reg {rs : List Rc} (h : isReg rs = true) : canon (cellsG rs) = rs := ((isReg_iff rs).1 h).2.2
theorem okAll_of_reg {rs : List Rc} (h : isReg rs = true) : okAll rs = true := ((isReg_iff rs).1 h).2.1

end Go.Proofs.Ythifinolgbjekaa
