/- Plain mathematics: the covered cells of a box, counted cell by cell and rectangle by rectangle. No conditions. -/
import Derived.Test.YthifinolgbjekaaCanonMath
import Derived.Test.YthifinolgbjekaaRunMath
import Derived.Test.YthifinolgbjekaaAreaMath
namespace Go.Proofs.Ythifinolgbjekaa

/-- f a + f (a + 1) + .., n terms. -/
def sumI (f : Int → Int) (a : Int) : Nat → Int
  | 0 => 0
  | n + 1 => sumI f a n + f (a + n)
theorem sumI_add (f g : Int → Int) (a : Int) : ∀ n : Nat, sumI (fun x => f x + g x) a n = sumI f a n + sumI g a n
  | 0 => rfl
  | n + 1 => by simp only [sumI, sumI_add f g a n]; omega
theorem sumI_congr {f g : Int → Int} {a : Int} : ∀ n : Nat, (∀ x, a ≤ x → x < a + (n : Int) → f x = g x) → sumI f a n = sumI g a n
  | 0, _ => rfl
  | n + 1, h => by
    simp only [sumI]
    rw [sumI_congr n (fun x h1 h2 => h x h1 (by omega)), h (a + n) (by omega) (by omega)]
theorem sumI_zero (a : Int) : ∀ n : Nat, sumI (fun _ => 0) a n = 0
  | 0 => rfl
  | n + 1 => by simp only [sumI, sumI_zero a n]; rfl
theorem sumI_ind (a c d : Int) : ∀ n : Nat, sumI (fun x => if c ≤ x ∧ x < d then 1 else 0) a n = max 0 (min (a + (n : Int)) d - max a c)
  | 0 => by simp only [sumI]; omega
  | n + 1 => by
    simp only [sumI, sumI_ind a c d n]
    split <;> omega
theorem sumI_if (a c d k : Int) : ∀ n : Nat, sumI (fun y => if c ≤ y ∧ y < d then k else 0) a n = k * sumI (fun y => if c ≤ y ∧ y < d then 1 else 0) a n
  | 0 => by simp [sumI]
  | n + 1 => by
    simp only [sumI, sumI_if a c d k n, Int.mul_add]
    congr 1
    split <;> simp
theorem sumI_bounds {f : Int → Int} {a m : Int} (hm : 0 ≤ m) : ∀ n : Nat, (∀ x, 0 ≤ f x ∧ f x ≤ m) → 0 ≤ sumI f a n ∧ sumI f a n ≤ m * n
  | 0, _ => by simp [sumI]
  | n + 1, h => by
    have h1 := sumI_bounds hm n h (a := a)
    have h2 := h (a + n)
    simp only [sumI]
    rw [Int.natCast_add, Int.mul_add]
    have e : m * ((1 : Nat) : Int) = m := by simp
    omega

/-- What a row of the box counts. -/
def rowC (F : Nat → Int) (x0 y : Int) (n : Nat) : Int := sumI (fun x => F (ix x y).toNat) x0 n
/-- What the box counts, m rows of n cells. -/
def boxC (F : Nat → Int) (x0 y0 : Int) (n m : Nat) : Int := sumI (fun y => rowC F x0 y n) y0 m
def oneG (G : Gr) (i : Nat) : Int := if G i = true then 1 else 0
/-- The cells of a set in a box. -/
def coverG (G : Gr) (b : Rc) : Int := boxC (oneG G) b.x0 b.y0 (b.x1 - b.x0).toNat (b.y1 - b.y0).toNat

theorem boxC_add (F H : Nat → Int) (x0 y0 : Int) (n m : Nat) : boxC (fun i => F i + H i) x0 y0 n m = boxC F x0 y0 n m + boxC H x0 y0 n m := by
  unfold boxC rowC
  rw [← sumI_add]
  exact sumI_congr m fun y _ _ => sumI_add _ _ _ n
theorem boxC_congr {F H : Nat → Int} {x0 y0 : Int} {n m : Nat} (hx : -40 ≤ x0 ∧ x0 + n ≤ 40) (hy : -40 ≤ y0 ∧ y0 + m ≤ 40) (h : ∀ i, i < 6400 → F i = H i) : boxC F x0 y0 n m = boxC H x0 y0 n m := by
  unfold boxC rowC
  refine sumI_congr m fun y h1 h2 => sumI_congr n fun x h3 h4 => h _ ?_
  unfold ix
  omega

/-- The common part of two rectangles. -/
def commonR (a b : Rc) : Rc := ⟨max a.x0 b.x0, max a.y0 b.y0, min a.x1 b.x1, min a.y1 b.y1⟩
/-- What one rectangle covers of a box. -/
def partC (r b : Rc) : Int := if okRc (commonR r b) = true then areaR (commonR r b) else 0
theorem cover_one (r b : Rc) (hr : okRc r = true) (hb : okRc b = true) : boxC (fun i => if inR r i = true then 1 else 0) b.x0 b.y0 (b.x1 - b.x0).toNat (b.y1 - b.y0).toNat = partC r b := by
  rw [okRc_iff] at hr hb
  have e1 : ∀ y, b.y0 ≤ y → y < b.y0 + ((b.y1 - b.y0).toNat : Int) → rowC (fun i => if inR r i = true then 1 else 0) b.x0 y (b.x1 - b.x0).toNat = if r.y0 ≤ y ∧ y < r.y1 then max 0 (min b.x1 r.x1 - max b.x0 r.x0) else 0 := by
    intro y h1 h2
    unfold rowC
    have e2 : ∀ x, b.x0 ≤ x → x < b.x0 + ((b.x1 - b.x0).toNat : Int) → (if inR r (ix x y).toNat = true then (1 : Int) else 0) = if (r.y0 ≤ y ∧ y < r.y1) ∧ (r.x0 ≤ x ∧ x < r.x1) then 1 else 0 := by
      intro x h3 h4
      have e3 : inR r (ix x y).toNat = true ↔ (r.y0 ≤ y ∧ y < r.y1) ∧ (r.x0 ≤ x ∧ x < r.x1) := by
        rw [inR_iff]
        unfold ix
        omega
      by_cases hc : (r.y0 ≤ y ∧ y < r.y1) ∧ (r.x0 ≤ x ∧ x < r.x1)
      · rw [if_pos hc, if_pos (e3.2 hc)]
      · rw [if_neg hc, if_neg (fun h => hc (e3.1 h))]
    rw [sumI_congr _ e2]
    by_cases hy : r.y0 ≤ y ∧ y < r.y1
    · rw [if_pos hy]
      have e4 : ∀ x : Int, (if (r.y0 ≤ y ∧ y < r.y1) ∧ (r.x0 ≤ x ∧ x < r.x1) then (1 : Int) else 0) = if r.x0 ≤ x ∧ x < r.x1 then 1 else 0 := by
        intro x
        simp [hy]
      rw [sumI_congr _ (fun x _ _ => e4 x), sumI_ind]
      omega
    · rw [if_neg hy]
      have e4 : ∀ x : Int, (if (r.y0 ≤ y ∧ y < r.y1) ∧ (r.x0 ≤ x ∧ x < r.x1) then (1 : Int) else 0) = 0 := by
        intro x
        exact if_neg (fun h => hy h.1)
      rw [sumI_congr _ (fun x _ _ => e4 x), sumI_zero]
  unfold boxC
  rw [sumI_congr _ e1, sumI_if, sumI_ind]
  unfold partC
  by_cases hc : okRc (commonR r b) = true
  · rw [if_pos hc]
    rw [okRc_iff] at hc
    unfold areaR commonR at *
    dsimp only at hc ⊢
    congr 1 <;> omega
  · rw [if_neg hc]
    rw [okRc_iff] at hc
    unfold commonR at hc
    dsimp only at hc
    have : max 0 (min b.x1 r.x1 - max b.x0 r.x0) = 0 ∨ max 0 (min (b.y0 + ((b.y1 - b.y0).toNat : Int)) r.y1 - max b.y0 r.y0) = 0 := by omega
    rcases this with h | h <;> rw [h] <;> simp

/-- What a list of rectangles covers of a box. -/
def sumC : List Rc → Rc → Int
  | [], _ => 0
  | r :: rs, b => partC r b + sumC rs b
theorem sumC_append (a c : List Rc) (b : Rc) : sumC (a ++ c) b = sumC a b + sumC c b := by
  induction a with
  | nil => simp [sumC]
  | cons r a ih => simp only [List.cons_append, sumC, ih]; omega
theorem sumC_take_succ {rs : List Rc} {k : Nat} {r : Rc} (b : Rc) (h : rs[k]? = some r) : sumC (rs.take (k + 1)) b = sumC (rs.take k) b + partC r b := by
  rw [List.take_add_one, h, sumC_append]
  simp [sumC]
theorem partC_bounds (r b : Rc) : 0 ≤ partC r b ∧ partC r b ≤ 6400 := by
  unfold partC
  split
  · rename_i h
    have := areaR_bounds h
    omega
  · omega
theorem sumC_bounds (rs : List Rc) (b : Rc) : 0 ≤ sumC rs b ∧ sumC rs b ≤ 6400 * rs.length := by
  induction rs with
  | nil => simp [sumC]
  | cons r rs ih =>
    have := partC_bounds r b
    simp only [sumC, List.length_cons]
    omega
theorem cover_list (rs : List Rc) (b : Rc) (hok : okAll rs = true) (hb : okRc b = true) : boxC (fun i => (cntR rs i : Int)) b.x0 b.y0 (b.x1 - b.x0).toNat (b.y1 - b.y0).toNat = sumC rs b := by
  induction rs with
  | nil =>
    have e : (fun i => (cntR [] i : Int)) = fun _ => 0 := by funext i; simp [cntR]
    rw [e]
    unfold boxC rowC sumC
    rw [sumI_congr _ (fun y _ _ => sumI_zero _ _), sumI_zero]
  | cons r rs ih =>
    have h1 : okRc r = true ∧ okAll rs = true := by simpa [okAll] using hok
    have e : (fun i => (cntR (r :: rs) i : Int)) = fun i => (if inR r i = true then 1 else 0) + (cntR rs i : Int) := by
      funext i
      unfold cntR
      rw [List.countP_cons]
      by_cases h : inR r i = true <;> simp [h] <;> omega
    rw [e, boxC_add, cover_one r b h1.1 hb, ih h1.2, sumC]
/-- The two counts of a region agree. -/
theorem cover_reg {rs : List Rc} (h : isReg rs = true) {b : Rc} (hb : okRc b = true) : coverG (cellsG rs) b = sumC rs b := by
  have h1 := (isReg_iff rs).1 h
  have h2 := (okRc_iff b).1 hb
  rw [← cover_list rs b h1.2.1 hb]
  unfold coverG
  refine boxC_congr (by omega) (by omega) fun i hi => ?_
  have h3 := cntR_canon (cellsG rs) i hi
  rw [h1.2.2] at h3
  rw [h3]
  unfold oneG
  split <;> rfl

end Go.Proofs.Ythifinolgbjekaa
