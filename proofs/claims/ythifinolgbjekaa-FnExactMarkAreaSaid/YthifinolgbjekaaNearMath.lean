/- Plain mathematics: the cells near a set, as the reference and as the program reckon them; what another set leaves of them. No conditions. -/
import Derived.Test.YthifinolgbjekaaCanonMath
import Derived.Test.YthifinolgbjekaaRunMath
namespace Go.Proofs.Ythifinolgbjekaa

/-- The cells of the rectangles that belong to the first n cells of a set. -/
def spreadG (S : Gr) (seg : Nat → Rc) (n : Nat) : Gr := fun c => (List.range n).any fun i => S i && inR (seg i) c
theorem spread_zero (S : Gr) (seg : Nat → Rc) : spreadG S seg 0 = emptyG := rfl
theorem spread_yes {S : Gr} {seg : Nat → Rc} {n : Nat} (h : S n = true) : spreadG S seg (n + 1) = orR (spreadG S seg n) (seg n) := by
  funext c
  simp [spreadG, orR, List.range_succ, List.any_append, h]
theorem spread_no {S : Gr} {seg : Nat → Rc} {n : Nat} (h : S n = false) : spreadG S seg (n + 1) = spreadG S seg n := by
  funext c
  simp [spreadG, List.range_succ, List.any_append, h]
theorem spread_iff (S : Gr) (seg : Nat → Rc) (n c : Nat) : spreadG S seg n c = true ↔ ∃ i, i < n ∧ S i = true ∧ inR (seg i) c = true := by
  simp [spreadG, List.any_eq_true]
/-- The cells of a row, of a column, at most k from a cell. -/
def hseg (k : Int) (i : Nat) : Rc := ⟨((i % 80 : Nat) : Int) - 40 - k, ((i / 80 : Nat) : Int) - 40, ((i % 80 : Nat) : Int) - 40 + (k + 1), ((i / 80 : Nat) : Int) - 40 + 1⟩
def vseg (k : Int) (i : Nat) : Rc := ⟨((i % 80 : Nat) : Int) - 40, ((i / 80 : Nat) : Int) - 40 - k, ((i % 80 : Nat) : Int) - 40 + 1, ((i / 80 : Nat) : Int) - 40 + (k + 1)⟩
def wideG (G : Gr) (k : Int) : Gr := spreadG G (hseg k) 6400
def nearG (G : Gr) (k : Int) : Gr := spreadG (wideG G k) (vseg k) 6400

theorem near_iff (G : Gr) (k : Int) (c : Nat) : nearG G k c = true ↔ ∃ i, i < 6400 ∧ (∃ j, j < 6400 ∧ G j = true ∧ inR (hseg k j) i = true) ∧ inR (vseg k i) c = true := by
  unfold nearG wideG
  rw [spread_iff]
  constructor
  · rintro ⟨i, hi, h, h2⟩
    exact ⟨i, hi, (spread_iff _ _ _ _).1 h, h2⟩
  · rintro ⟨i, hi, h, h2⟩
    exact ⟨i, hi, (spread_iff _ _ _ _).2 h, h2⟩

/-- A rectangle, k larger on each side. -/
def growR (k : Int) (r : Rc) : Rc := ⟨r.x0 - k, r.y0 - k, r.x1 + k, r.y1 + k⟩
def grownG (rs : List Rc) (k : Int) : Gr := cellsG (rs.map (growR k))
theorem cellsG_iff (rs : List Rc) (i : Nat) : cellsG rs i = true ↔ ∃ r ∈ rs, inR r i = true := by simp [cellsG, List.any_eq_true]
theorem grown_iff (rs : List Rc) (k : Int) (i : Nat) : grownG rs k i = true ↔ ∃ r ∈ rs, inR (growR k r) i = true := by
  unfold grownG
  rw [cellsG_iff]
  constructor
  · rintro ⟨q, hq, h⟩
    obtain ⟨r, hr, rfl⟩ := List.mem_map.1 hq
    exact ⟨r, hr, h⟩
  · rintro ⟨r, hr, h⟩
    exact ⟨_, List.mem_map.2 ⟨r, hr, rfl⟩, h⟩
theorem near_same {rs : List Rc} (hok : okAll rs = true) {k : Int} (hk : 0 ≤ k) : sameG (nearG (cellsG rs) k) (grownG rs k) := by
  intro c hc
  rw [Bool.eq_iff_iff, near_iff, grown_iff]
  constructor
  · rintro ⟨i, hi, ⟨j, hj, hG, h1⟩, h2⟩
    obtain ⟨r, hr, h3⟩ := (cellsG_iff rs j).1 hG
    refine ⟨r, hr, ?_⟩
    rw [inR_iff] at *
    unfold hseg at h1
    unfold vseg at h2
    unfold growR
    dsimp only at *
    omega
  · rintro ⟨r, hr, h⟩
    have hv : okRc r = true := by
      rw [okAll, List.all_eq_true] at hok
      exact hok r hr
    rw [okRc_iff] at hv
    rw [inR_iff] at h
    unfold growR at h
    dsimp only at h
    obtain ⟨jx, hx0, hx1, hx2, hx3⟩ : ∃ jx : Nat, jx < 80 ∧ (r.x0 + 40 ≤ (jx : Int) ∧ (jx : Int) < r.x1 + 40) ∧ (jx : Int) - k ≤ ((c % 80 : Nat) : Int) ∧ ((c % 80 : Nat) : Int) ≤ (jx : Int) + k := by
      by_cases h1 : ((c % 80 : Nat) : Int) < r.x0 + 40
      · exact ⟨(r.x0 + 40).toNat, by omega, by omega, by omega, by omega⟩
      · by_cases h2 : ((c % 80 : Nat) : Int) < r.x1 + 40
        · exact ⟨c % 80, by omega, by omega, by omega, by omega⟩
        · exact ⟨(r.x1 + 39).toNat, by omega, by omega, by omega, by omega⟩
    obtain ⟨jy, hy0, hy1, hy2, hy3⟩ : ∃ jy : Nat, jy < 80 ∧ (r.y0 + 40 ≤ (jy : Int) ∧ (jy : Int) < r.y1 + 40) ∧ (jy : Int) - k ≤ ((c / 80 : Nat) : Int) ∧ ((c / 80 : Nat) : Int) ≤ (jy : Int) + k := by
      by_cases h1 : ((c / 80 : Nat) : Int) < r.y0 + 40
      · exact ⟨(r.y0 + 40).toNat, by omega, by omega, by omega, by omega⟩
      · by_cases h2 : ((c / 80 : Nat) : Int) < r.y1 + 40
        · exact ⟨c / 80, by omega, by omega, by omega, by omega⟩
        · exact ⟨(r.y1 + 39).toNat, by omega, by omega, by omega, by omega⟩
    have e1 : (jy * 80 + jx) / 80 = jy ∧ (jy * 80 + jx) % 80 = jx := by omega
    have e2 : (jy * 80 + c % 80) / 80 = jy ∧ (jy * 80 + c % 80) % 80 = c % 80 := by omega
    refine ⟨jy * 80 + c % 80, by omega, ⟨jy * 80 + jx, by omega, (cellsG_iff _ _).2 ⟨r, hr, ?_⟩, ?_⟩, ?_⟩
    · rw [inR_iff, e1.1, e1.2]
      omega
    · rw [inR_iff, e2.1, e2.2]
      unfold hseg
      rw [e1.1, e1.2]
      dsimp only
      omega
    · rw [inR_iff]
      unfold vseg
      rw [e2.1, e2.2]
      dsimp only
      omega

/-- One set without another. -/
def diffG (G H : Gr) : Gr := fun i => G i && !H i
theorem diff_same {G G' H : Gr} (h : sameG G G') : sameG (diffG G H) (diffG G' H) := fun i hi => by simp only [diffG, h i hi]
/-- The cells near a list of rectangles that another list does not cover. -/
def encL (inner outer : List Rc) (k : Int) : List Rc := canon (diffG (grownG inner k) (cellsG outer))
theorem enc_near {inner outer : List Rc} (hok : okAll inner = true) {k : Int} (hk : 0 ≤ k) : canon (diffG (nearG (cellsG inner) k) (cellsG outer)) = encL inner outer k := canon_congr (diff_same (near_same hok hk))
theorem enc_grown (inner outer : List Rc) (k : Int) : canon (diffG (cellsG (canon (grownG inner k))) (cellsG outer)) = encL inner outer k := canon_congr (diff_same (cells_canon _))

theorem canon_nil_iff (G : Gr) : canon G = [] ↔ ∀ i, i < 6400 → G i = false := by
  have hc := cells_canon G
  constructor
  · intro h i hi
    rw [← hc i hi, h]; rfl
  · intro h
    cases hr : canon G with
    | nil => rfl
    | cons r rs =>
      have hok := canon_ok G
      rw [hr] at hok hc
      have h1 : okRc r = true := by
        have : okRc r = true ∧ okAll rs = true := by simpa [okAll] using hok
        exact this.1
      rw [okRc_iff] at h1
      have hi : ((r.y0 + 40).toNat * 80 + (r.x0 + 40).toNat) < 6400 := by omega
      have h2 := hc _ hi
      rw [h _ hi] at h2
      have h3 : cellsG (r :: rs) ((r.y0 + 40).toNat * 80 + (r.x0 + 40).toNat) = true := by
        rw [cellsG_iff]
        refine ⟨r, by simp, ?_⟩
        have e1 : ((r.y0 + 40).toNat * 80 + (r.x0 + 40).toNat) / 80 = (r.y0 + 40).toNat ∧ ((r.y0 + 40).toNat * 80 + (r.x0 + 40).toNat) % 80 = (r.x0 + 40).toNat := by omega
        rw [inR_iff, e1.1, e1.2]
        omega
      rw [h3] at h2
      cases h2
theorem enc_mono {inner outer : List Rc} {k : Int} (h : encL inner outer (k + 1) = []) : encL inner outer k = [] := by
  unfold encL at *
  rw [canon_nil_iff] at *
  intro i hi
  have h1 := h i hi
  unfold diffG at *
  cases hg : grownG inner k i with
  | false => rfl
  | true =>
    have h2 : grownG inner (k + 1) i = true := by
      rw [grown_iff] at hg ⊢
      obtain ⟨r, hr, h3⟩ := hg
      refine ⟨r, hr, ?_⟩
      rw [inR_iff] at h3 ⊢
      unfold growR at *
      dsimp only at *
      omega
    rw [h2] at h1
    exact h1
theorem enc_below {inner outer : List Rc} {k : Int} : ∀ (d : Nat), encL inner outer (k + d) = [] → encL inner outer k = []
  | 0, h => by simpa using h
  | d + 1, h => by
    have e : k + ((d + 1 : Nat) : Int) = (k + d) + 1 := by omega
    rw [e] at h
    exact enc_below d (enc_mono h)

/-- One cell more of a row segment. -/
theorem orR_cellH (G : Gr) (x0 x y : Int) (h3 : x0 ≤ x) (hc : onC x y = true) : updG (orR G ⟨x0, y, x, y + 1⟩) (ix x y).toNat true = orR G ⟨x0, y, x + 1, y + 1⟩ := by
  rw [onC_iff] at hc
  funext i
  simp only [updG, orR]
  unfold ix
  by_cases hi : i = ((y + 40) * 80 + x + 40).toNat
  · rw [if_pos hi]
    have : inR ⟨x0, y, x + 1, y + 1⟩ i = true := by rw [inR_iff]; simp only; omega
    simp [this]
  · rw [if_neg hi]
    have : inR ⟨x0, y, x, y + 1⟩ i = inR ⟨x0, y, x + 1, y + 1⟩ i := by
      rw [Bool.eq_iff_iff]
      simp only [inR_iff]
      omega
    rw [this]
theorem orR_cellV (G : Gr) (x y0 y : Int) (h3 : y0 ≤ y) (hc : onC x y = true) : updG (orR G ⟨x, y0, x + 1, y⟩) (ix x y).toNat true = orR G ⟨x, y0, x + 1, y + 1⟩ := by
  rw [onC_iff] at hc
  funext i
  simp only [updG, orR]
  unfold ix
  by_cases hi : i = ((y + 40) * 80 + x + 40).toNat
  · rw [if_pos hi]
    have : inR ⟨x, y0, x + 1, y + 1⟩ i = true := by rw [inR_iff]; simp only; omega
    simp [this]
  · rw [if_neg hi]
    have : inR ⟨x, y0, x + 1, y⟩ i = inR ⟨x, y0, x + 1, y + 1⟩ i := by
      rw [Bool.eq_iff_iff]
      simp only [inR_iff]
      omega
    rw [this]
theorem orR_offH (G : Gr) (x0 x y : Int) (hy : -40 ≤ y ∧ y ≤ 39) (hc : onC x y = false) : sameG (orR G ⟨x0, y, x, y + 1⟩) (orR G ⟨x0, y, x + 1, y + 1⟩) := by
  have hc' : ¬ (-40 ≤ x ∧ x ≤ 39 ∧ -40 ≤ y ∧ y ≤ 39) := fun h => by rw [(onC_iff x y).2 h] at hc; cases hc
  intro i hi
  simp only [orR]
  congr 1
  rw [Bool.eq_iff_iff]
  simp only [inR_iff]
  omega
theorem orR_offV (G : Gr) (x y0 y : Int) (hx : -40 ≤ x ∧ x ≤ 39) (hc : onC x y = false) : sameG (orR G ⟨x, y0, x + 1, y⟩) (orR G ⟨x, y0, x + 1, y + 1⟩) := by
  have hc' : ¬ (-40 ≤ x ∧ x ≤ 39 ∧ -40 ≤ y ∧ y ≤ 39) := fun h => by rw [(onC_iff x y).2 h] at hc; cases hc
  intro i hi
  simp only [orR]
  congr 1
  rw [Bool.eq_iff_iff]
  simp only [inR_iff]
  omega

end Go.Proofs.Ythifinolgbjekaa
