/- The windows of a side: the program's DensityWindows and the reference's return the same list. No conditions. Contracts: MarkDensity of the reference and of the program. No conditions. Plain mathematics: the windows of a side divide the chip; what the markers of a density rule cover of each. No conditions. Plain law: the markers of short runs or gaps against the smallest, the witness and the cells. No conditions. Contract: w9Covered. Condition: valid rectangles. -/
import Derived.Test.YtgegbgkokkdmpaaGreatQ02
import Derived.Test.YtgegbgkokkdmpaaGreatQ07
import Derived.Test.YtgegbgkokkdmpaaGreatQ06
import Derived.Test.YtgegbgkokkdmpaaGreatQ01
import Derived.Test.YtgegbgkokkdmpaaGreatQ08
import Derived.Deep.CutRange
import Derived.Deep.RegionHeld

namespace Go.Proofs.YtgegbgkokkdmpaaGreat
open Go.RowKit

end Go.Proofs.YtgegbgkokkdmpaaGreat

namespace Go.Proofs.YtgegbgkokkdmpaaGreat
open Go.RowKit

theorem winX_ok (s y : Int) (hs : 0 < s) (hy : -40 ≤ y ∧ y < 40) : ∀ (n : Nat) (x : Int), 40 - x ≤ (n : Int) → -40 ≤ x → ∀ r ∈ winX s y x, okRc r = true := by
  intro n
  induction n with
  | zero => intro x h _ r hr; rw [winX_stop s y x (by omega)] at hr; cases hr
  | succ n ih =>
    intro x h hx r hr
    by_cases hx4 : x < 40
    · rw [winX_step s y x hs hx4] at hr
      rcases List.mem_append.1 hr with hr | hr
      · rw [List.mem_singleton] at hr
        subst hr
        rw [okRc_iff]
        dsimp only
        omega
      · exact ih (x + s) (by omega) (by omega) r hr
    · rw [winX_stop s y x (by omega)] at hr; cases hr
theorem winY_ok (s : Int) (hs : 0 < s) : ∀ (n : Nat) (y : Int), 40 - y ≤ (n : Int) → -40 ≤ y → ∀ r ∈ winY s y, okRc r = true := by
  intro n
  induction n with
  | zero => intro y h _ r hr; rw [winY_stop s y (by omega)] at hr; cases hr
  | succ n ih =>
    intro y h hy r hr
    by_cases hy4 : y < 40
    · rw [winY_step s y hs hy4] at hr
      rcases List.mem_append.1 hr with hr | hr
      · exact winX_ok s y hs ⟨hy, hy4⟩ 80 (-40) (by omega) (by omega) r hr
      · exact ih (y + s) (by omega) (by omega) r hr
    · rw [winY_stop s y (by omega)] at hr; cases hr
theorem wins_ok (s : Int) : okAll (wins s) = true := by
  rw [okAll, List.all_eq_true]
  intro r hr
  unfold wins at hr
  split at hr
  · exact winY_ok s (by omega) 80 (-40) (by omega) (by omega) r hr
  · cases hr
theorem wins_length (s : Int) : (wins s).length ≤ 6400 := by
  unfold wins
  split
  · exact winY_length s
  · simp
/-- A window is not covered enough. -/
def dueR (G : Gr) (p : Int) (r : Rc) : Bool := decide (coverG G r * 100 < p * areaR r)
/-- The windows that are not covered enough. -/
def dueL (G : Gr) (s p : Int) : List Rc := (wins s).filter (dueR G p)
/-- The markers of a density rule. -/
def densV (rs : List Rc) (s p : Int) : List Rc := if isReg rs = true ∧ inB 4 s 40 = true ∧ inB 1 p 100 = true then canon (diffG (cellsG (dueL (cellsG rs) s p)) (cellsG rs)) else []
theorem densV_yes {rs : List Rc} {s p : Int} (h : isReg rs = true) (hs : inB 4 s 40 = true) (hp : inB 1 p 100 = true) : densV rs s p = canon (diffG (cellsG (dueL (cellsG rs) s p)) (cellsG rs)) := if_pos ⟨h, hs, hp⟩
theorem densV_no1 {rs : List Rc} {s p : Int} (h : isReg rs = false) : densV rs s p = [] := if_neg (by rw [h]; simp)
theorem densV_no2 {rs : List Rc} {s p : Int} (h : inB 4 s 40 = false) : densV rs s p = [] := if_neg (by rw [h]; simp)
theorem densV_no3 {rs : List Rc} {s p : Int} (h : inB 1 p 100 = false) : densV rs s p = [] := if_neg (by rw [h]; simp)
theorem densV_length (rs : List Rc) (s p : Int) : (densV rs s p).length ≤ 1000000 := by
  unfold densV
  split
  · exact Nat.le_trans (canon_few _) (by omega)
  · simp
theorem due_nil (G : Gr) (p : Int) (l : List Rc) : cellsG ((l.take 0).filter (dueR G p)) = emptyG := rfl
theorem due_yes {G : Gr} {p : Int} {l : List Rc} {k : Nat} {r : Rc} (h : l[k]? = some r) (hd : coverG G r * 100 < p * areaR r) : cellsG ((l.take (k + 1)).filter (dueR G p)) = orR (cellsG ((l.take k).filter (dueR G p))) r := by
  rw [filter_yes h (decide_eq_true hd), cellsG_snoc]
theorem due_no {G : Gr} {p : Int} {l : List Rc} {k : Nat} {r : Rc} (h : l[k]? = some r) (hd : ¬ coverG G r * 100 < p * areaR r) : cellsG ((l.take (k + 1)).filter (dueR G p)) = cellsG ((l.take k).filter (dueR G p)) := by
  rw [filter_no h (decide_eq_false hd)]
theorem due_all {G : Gr} {p : Int} {l : List Rc} {k : Nat} (h : l.length ≤ k) : cellsG ((l.take k).filter (dueR G p)) = cellsG (l.filter (dueR G p)) := by rw [List.take_of_length_le h]
theorem cover_bounds (rs : List Rc) {b : Rc} (hb : okRc b = true) : 0 ≤ coverG (cellsG rs) b ∧ coverG (cellsG rs) b ≤ 10000 := by
  have h1 := gotC_bounds (cellsG rs) hb (m := (b.y1 - b.y0).toNat) (k := 0) (by have := (okRc_iff b).1 hb; omega) (by omega)
  rw [gotC_all rfl] at h1
  exact h1
theorem due_prod {p : Int} (hp : 1 ≤ p ∧ p ≤ 100) {r : Rc} (h : okRc r = true) : 0 ≤ p * areaR r ∧ p * areaR r ≤ 640000 := by
  have h1 := areaR_bounds h
  constructor
  · exact Int.mul_nonneg (by omega) (by omega)
  · have := Int.mul_le_mul hp.2 h1.2 (by omega) (by omega)
    omega
theorem put_other {w w' : World} {g B : Nat} {v : Value} {rs : List Rc} {G : Gr} (hR : RL w B v rs) (hG : GB w g 97 G) (hg : w.grownBy w' (some g)) : RL w' B v rs := by
  obtain ⟨cs, hb, _⟩ := hG
  refine World.ownsRow.kept hR hg ?_
  right
  intro he
  exact hb.apart' hR (by decide) he.symm

end Go.Proofs.YtgegbgkokkdmpaaGreat

namespace Go.Proofs.YtgegbgkokkdmpaaGreat
open Go.RowKit

theorem sumI_split (f : Int → Int) (a : Int) (n : Nat) : ∀ m : Nat, sumI f a (n + m) = sumI f a n + sumI f (a + n) m
  | 0 => by simp [sumI]
  | m + 1 => by
    have e : a + (((n + m : Nat) : Nat) : Int) = a + n + m := by omega
    rw [← Nat.add_assoc, sumI, sumI_split f a n m, sumI, e]
    omega
theorem boxC_splitY (F : Nat → Int) (x0 y0 : Int) (n m1 m2 : Nat) : boxC F x0 y0 n (m1 + m2) = boxC F x0 y0 n m1 + boxC F x0 (y0 + m1) n m2 := sumI_split _ _ _ _
theorem boxC_splitX (F : Nat → Int) (x0 y0 : Int) (n1 n2 m : Nat) : boxC F x0 y0 (n1 + n2) m = boxC F x0 y0 n1 m + boxC F (x0 + n1) y0 n2 m := by
  unfold boxC
  rw [← sumI_add]
  exact sumI_congr m fun y _ _ => sumI_split _ _ _ _
/-- Two counts that agree on the cells of the box. -/
theorem box_congr {F H : Nat → Int} {b : Rc} (hb : okRc b = true) (h : ∀ i, i < 6400 → inR b i = true → F i = H i) : boxC F b.x0 b.y0 (b.x1 - b.x0).toNat (b.y1 - b.y0).toNat = boxC H b.x0 b.y0 (b.x1 - b.x0).toNat (b.y1 - b.y0).toNat := by
  rw [okRc_iff] at hb
  unfold boxC rowC
  refine sumI_congr _ fun y h1 h2 => sumI_congr _ fun x h3 h4 => h _ ?_ ?_
  · unfold ix
    omega
  · rw [inR_iff]
    unfold ix
    omega
theorem sumI_const (a k : Int) : ∀ n : Nat, sumI (fun _ => k) a n = k * n
  | 0 => by simp [sumI]
  | n + 1 => by simp only [sumI, sumI_const a k n, Int.natCast_add, Int.mul_add]; simp
theorem box_one {b : Rc} (hb : okRc b = true) : boxC (fun _ => 1) b.x0 b.y0 (b.x1 - b.x0).toNat (b.y1 - b.y0).toNat = areaR b := by
  rw [okRc_iff] at hb
  unfold boxC rowC areaR
  have e : ∀ y : Int, sumI (fun x => (fun _ : Nat => (1 : Int)) (ix x y).toNat) b.x0 (b.x1 - b.x0).toNat = ((b.x1 - b.x0).toNat : Int) := fun y => by
    have := sumI_const b.x0 1 (b.x1 - b.x0).toNat
    rw [Int.one_mul] at this
    exact this
  have e2 : ((b.x1 - b.x0).toNat : Int) = b.x1 - b.x0 := by omega
  have e3 : ((b.y1 - b.y0).toNat : Int) = b.y1 - b.y0 := by omega
  calc sumI (fun y => sumI (fun x => (fun _ : Nat => (1 : Int)) (ix x y).toNat) b.x0 (b.x1 - b.x0).toNat) b.y0 (b.y1 - b.y0).toNat
      = sumI (fun _ => b.x1 - b.x0) b.y0 (b.y1 - b.y0).toNat := sumI_congr _ fun y _ _ => (e y).trans e2
    _ = (b.x1 - b.x0) * ((b.y1 - b.y0).toNat : Int) := sumI_const _ _ _
    _ = (b.x1 - b.x0) * (b.y1 - b.y0) := by rw [e3]

/-! ## A sum over a list -/

def sumF (f : Rc → Int) : List Rc → Int
  | [] => 0
  | r :: rs => f r + sumF f rs
theorem sumF_append (f : Rc → Int) : ∀ a b : List Rc, sumF f (a ++ b) = sumF f a + sumF f b
  | [], b => by simp [sumF]
  | r :: a, b => by simp only [List.cons_append, sumF, sumF_append f a b]; omega
theorem sumF_step (f : Rc → Int) {rs : List Rc} {k : Nat} {r : Rc} (h : rs[k]? = some r) : sumF f (rs.take (k + 1)) = sumF f (rs.take k) + f r := by
  rw [List.take_add_one, h, Option.toList, sumF_append]
  simp [sumF]
theorem sumF_le {f : Rc → Int} {m : Int} (hm : 0 ≤ m) : ∀ {rs : List Rc}, (∀ r ∈ rs, 0 ≤ f r ∧ f r ≤ m) → 0 ≤ sumF f rs ∧ sumF f rs ≤ m * rs.length
  | [], _ => by simp [sumF]
  | r :: rs, h => by
    have h1 := h r (by simp)
    have h2 := sumF_le hm (rs := rs) fun q hq => h q (by simp [hq])
    rw [sumF, List.length_cons, Int.natCast_add, Int.mul_add]
    have e : m * ((1 : Nat) : Int) = m := by simp
    omega
theorem sumF_area (rs : List Rc) : sumF areaR rs = sumA rs := by
  induction rs with
  | nil => rfl
  | cons r rs ih => rw [sumF, sumA, ih]

/-! ## The windows -/

theorem sum_winX (F : Nat → Int) {s y : Int} (hs : 0 < s) : ∀ (n : Nat) (x : Int), 40 - x ≤ (n : Int) → -40 ≤ x →
    sumF (fun b => boxC F b.x0 b.y0 (b.x1 - b.x0).toNat (b.y1 - b.y0).toNat) (winX s y x) = boxC F x y (40 - x).toNat (min (y + s) 40 - y).toNat := by
  intro n
  induction n with
  | zero =>
    intro x hx _
    have e : (40 - x).toNat = 0 := by omega
    rw [winX_stop s y x (by omega), e, sumF]
    unfold boxC rowC
    exact (sumI_zero _ _).symm
  | succ n ih =>
    intro x hx h40
    by_cases hx4 : x < 40
    · rw [winX_step s y x hs hx4, sumF_append, ih (x + s) (by omega) (by omega)]
      simp only [sumF]
      by_cases hc : x + s ≤ 40
      · have e1 : (40 - x).toNat = (min (x + s) 40 - x).toNat + (40 - (x + s)).toNat := by omega
        have e2 : x + (((min (x + s) 40 - x).toNat : Nat) : Int) = x + s := by omega
        rw [e1, boxC_splitX, e2]
        omega
      · have e1 : (40 - x).toNat = (min (x + s) 40 - x).toNat := by omega
        have e3 : (40 - (x + s)).toNat = 0 := by omega
        rw [e1, e3]
        have e4 : boxC F (x + s) y 0 (min (y + s) 40 - y).toNat = 0 := by unfold boxC rowC; exact sumI_zero _ _
        rw [e4]
        omega
    · have e : (40 - x).toNat = 0 := by omega
      rw [winX_stop s y x (by omega), e, sumF]
      unfold boxC rowC
      exact (sumI_zero _ _).symm
theorem sum_winY (F : Nat → Int) {s : Int} (hs : 0 < s) : ∀ (n : Nat) (y : Int), 40 - y ≤ (n : Int) → -40 ≤ y →
    sumF (fun b => boxC F b.x0 b.y0 (b.x1 - b.x0).toNat (b.y1 - b.y0).toNat) (winY s y) = boxC F (-40) y 80 (40 - y).toNat := by
  intro n
  induction n with
  | zero =>
    intro y hy _
    have e : (40 - y).toNat = 0 := by omega
    rw [winY_stop s y (by omega), e, sumF]
    rfl
  | succ n ih =>
    intro y hy h40
    by_cases hy4 : y < 40
    · rw [winY_step s y hs hy4, sumF_append, ih (y + s) (by omega) (by omega), sum_winX F hs 80 (-40) (by omega) (by omega)]
      by_cases hc : y + s ≤ 40
      · have e1 : (40 - y).toNat = (min (y + s) 40 - y).toNat + (40 - (y + s)).toNat := by omega
        have e2 : y + (((min (y + s) 40 - y).toNat : Nat) : Int) = y + s := by omega
        rw [e1, boxC_splitY, e2]
        rfl
      · have e1 : (40 - y).toNat = (min (y + s) 40 - y).toNat := by omega
        have e3 : (40 - (y + s)).toNat = 0 := by omega
        rw [e1, e3]
        exact Int.add_zero _
    · have e : (40 - y).toNat = 0 := by omega
      rw [winY_stop s y (by omega), e, sumF]
      rfl
theorem sum_cover (G : Gr) {s : Int} (h : 4 ≤ s ∧ s ≤ 40) : sumF (coverG G) (wins s) = countG G := by
  unfold wins
  rw [if_pos h]
  exact sum_winY (oneG G) (by omega) 80 (-40) (by omega) (by omega)
theorem sum_area {s : Int} (h : 4 ≤ s ∧ s ≤ 40) : sumF areaR (wins s) = 6400 := by
  have key : ∀ l : List Rc, okAll l = true → sumF areaR l = sumF (fun b => boxC (fun _ => 1) b.x0 b.y0 (b.x1 - b.x0).toNat (b.y1 - b.y0).toNat) l := by
    intro l
    induction l with
    | nil => intro _; rfl
    | cons r rs ih =>
      intro hok
      have h1 : okRc r = true ∧ okAll rs = true := by simpa [okAll] using hok
      rw [sumF, sumF, ih h1.2, box_one h1.1]
  rw [key _ (wins_ok s)]
  unfold wins
  rw [if_pos h, sum_winY (fun _ => 1) (by omega) 80 (-40) (by omega) (by omega)]
  have e := box_one fullR_ok
  have e2 : areaR fullR = 6400 := by decide
  rw [e2] at e
  exact e

/-! ## The windows lie apart -/

def apartR (a b : Rc) : Prop := a.x1 ≤ b.x0 ∨ a.y1 ≤ b.y0
theorem winX_ge (s y : Int) (hs : 0 < s) : ∀ (n : Nat) (x : Int), 40 - x ≤ (n : Int) → ∀ r ∈ winX s y x, x ≤ r.x0 ∧ r.y0 = y ∧ r.y1 ≤ y + s := by
  intro n
  induction n with
  | zero => intro x h r hr; rw [winX_stop s y x (by omega)] at hr; cases hr
  | succ n ih =>
    intro x h r hr
    by_cases hx4 : x < 40
    · rw [winX_step s y x hs hx4] at hr
      rcases List.mem_append.1 hr with hr | hr
      · rw [List.mem_singleton] at hr
        subst hr
        dsimp only
        omega
      · have := ih (x + s) (by omega) r hr
        omega
    · rw [winX_stop s y x (by omega)] at hr; cases hr
theorem winX_apart (s y : Int) (hs : 0 < s) : ∀ (n : Nat) (x : Int), 40 - x ≤ (n : Int) → (winX s y x).Pairwise apartR := by
  intro n
  induction n with
  | zero => intro x h; rw [winX_stop s y x (by omega)]; exact List.Pairwise.nil
  | succ n ih =>
    intro x h
    by_cases hx4 : x < 40
    · rw [winX_step s y x hs hx4, List.singleton_append, List.pairwise_cons]
      refine ⟨fun r hr => ?_, ih (x + s) (by omega)⟩
      have := winX_ge s y hs n (x + s) (by omega) r hr
      left
      dsimp only
      omega
    · rw [winX_stop s y x (by omega)]; exact List.Pairwise.nil
theorem winY_ge (s : Int) (hs : 0 < s) : ∀ (n : Nat) (y : Int), 40 - y ≤ (n : Int) → ∀ r ∈ winY s y, y ≤ r.y0 := by
  intro n
  induction n with
  | zero => intro y h r hr; rw [winY_stop s y (by omega)] at hr; cases hr
  | succ n ih =>
    intro y h r hr
    by_cases hy4 : y < 40
    · rw [winY_step s y hs hy4] at hr
      rcases List.mem_append.1 hr with hr | hr
      · have := winX_ge s y hs 80 (-40) (by omega) r hr
        omega
      · have := ih (y + s) (by omega) r hr
        omega
    · rw [winY_stop s y (by omega)] at hr; cases hr
theorem winY_apart (s : Int) (hs : 0 < s) : ∀ (n : Nat) (y : Int), 40 - y ≤ (n : Int) → (winY s y).Pairwise apartR := by
  intro n
  induction n with
  | zero => intro y h; rw [winY_stop s y (by omega)]; exact List.Pairwise.nil
  | succ n ih =>
    intro y h
    by_cases hy4 : y < 40
    · rw [winY_step s y hs hy4, List.pairwise_append]
      refine ⟨winX_apart s y hs 80 (-40) (by omega), ih (y + s) (by omega), fun a ha b hb => ?_⟩
      have h1 := winX_ge s y hs 80 (-40) (by omega) a ha
      have h2 := winY_ge s hs n (y + s) (by omega) b hb
      right
      omega
    · rw [winY_stop s y (by omega)]; exact List.Pairwise.nil
theorem wins_one {s : Int} {a b : Rc} (ha : a ∈ wins s) (hb : b ∈ wins s) {i : Nat} (h1 : inR a i = true) (h2 : inR b i = true) : a = b := by
  unfold wins at ha hb
  split at ha
  · rename_i hs
    rw [if_pos hs] at hb
    obtain ⟨m, hm, rfl⟩ := List.mem_iff_getElem.1 ha
    obtain ⟨n, hn, rfl⟩ := List.mem_iff_getElem.1 hb
    have hp := winY_apart s (by omega) 80 (-40) (by omega)
    rw [List.pairwise_iff_getElem] at hp
    rw [inR_iff] at h1 h2
    rcases Nat.lt_trichotomy m n with h | h | h
    · have := hp m n hm hn h
      unfold apartR at this
      omega
    · subst h; rfl
    · have := hp n m hn hm h
      unfold apartR at this
      omega
  · cases ha
/-- What the markers of a density rule cover of a window. -/
theorem due_cover {G : Gr} {s p : Int} {r : Rc} (hr : r ∈ wins s) : coverG (cellsG (canon (diffG (cellsG (dueL G s p)) G))) r = if coverG G r * 100 < p * areaR r then areaR r - coverG G r else 0 := by
  have hok : okRc r = true := by
    have := wins_ok s
    rw [okAll, List.all_eq_true] at this
    exact this r hr
  have key : ∀ i, i < 6400 → inR r i = true → cellsG (canon (diffG (cellsG (dueL G s p)) G)) i = (dueR G p r && !G i) := by
    intro i hi h1
    rw [cells_canon _ i hi]
    unfold diffG
    congr 1
    rw [Bool.eq_iff_iff, cellsG_iff]
    unfold dueL
    constructor
    · rintro ⟨q, hq, h2⟩
      rw [List.mem_filter] at hq
      have e := wins_one hr hq.1 h1 h2
      rw [e]
      exact hq.2
    · intro hd
      exact ⟨r, List.mem_filter.2 ⟨hr, hd⟩, h1⟩
  by_cases hd : coverG G r * 100 < p * areaR r
  · have hd' : dueR G p r = true := decide_eq_true hd
    rw [if_pos hd]
    have e1 : coverG (cellsG (canon (diffG (cellsG (dueL G s p)) G))) r + coverG G r = areaR r := by
      unfold coverG
      rw [← boxC_add, ← box_one hok]
      refine box_congr hok fun i hi h1 => ?_
      unfold oneG
      rw [key i hi h1, hd', Bool.true_and]
      cases G i <;> simp
    omega
  · have hd' : dueR G p r = false := decide_eq_false hd
    rw [if_neg hd]
    have e1 : coverG (cellsG (canon (diffG (cellsG (dueL G s p)) G))) r = boxC (fun _ => 0) r.x0 r.y0 (r.x1 - r.x0).toNat (r.y1 - r.y0).toNat := by
      unfold coverG
      refine box_congr hok fun i hi h1 => ?_
      unfold oneG
      rw [key i hi h1, hd', Bool.false_and]
      simp
    rw [e1]
    unfold boxC rowC
    rw [sumI_congr _ fun y _ _ => sumI_zero _ _]
    exact sumI_zero _ _

end Go.Proofs.YtgegbgkokkdmpaaGreat

namespace Go.Proofs.YtgegbgkokkdmpaaGreat
open Go.RowKit

theorem sumI_one (a : Int) : ∀ n : Nat, sumI (fun _ => 1) a n = n
  | 0 => rfl
  | n + 1 => by simp only [sumI, sumI_one a n]; omega
theorem sumI_same (c a : Int) : ∀ n : Nat, sumI (fun _ => c) a n = c * n
  | 0 => by simp [sumI]
  | n + 1 => by
    simp only [sumI, sumI_same c a n, Int.natCast_add, Int.mul_add]
    omega
/-- A box all of whose cells belong to the set. -/
theorem cover_full {G : Gr} {r : Rc} (hr : okRc r = true) (h : ∀ i, i < 6400 → inR r i = true → G i = true) : coverG G r = areaR r := by
  have hb := (okRc_iff r).1 hr
  unfold coverG boxC rowC
  have e1 : sumI (fun y => sumI (fun x => oneG G (ix x y).toNat) r.x0 (r.x1 - r.x0).toNat) r.y0 (r.y1 - r.y0).toNat = sumI (fun _ => (((r.x1 - r.x0).toNat : Nat) : Int)) r.y0 (r.y1 - r.y0).toNat := by
    refine sumI_congr _ fun y h1 h2 => ?_
    rw [← sumI_one r.x0]
    refine sumI_congr _ fun x h3 h4 => ?_
    unfold oneG
    rw [if_pos (h _ (by unfold ix; omega) ((inR_iff _ _).2 (by unfold ix; omega)))]
  rw [e1, sumI_same]
  unfold areaR
  have a1 : (((r.x1 - r.x0).toNat : Nat) : Int) = r.x1 - r.x0 := by omega
  have a2 : (((r.y1 - r.y0).toNat : Nat) : Int) = r.y1 - r.y0 := by omega
  rw [a1, a2]
theorem okAll_in {rs : List Rc} (h : okAll rs = true) {r : Rc} (hr : r ∈ rs) : okRc r = true := by
  rw [okAll, List.all_eq_true] at h
  exact h r hr
theorem first_cell {r : Rc} (h : okRc r = true) : ∃ i, i < 6400 ∧ inR r i = true := by
  have hb := (okRc_iff r).1 h
  exact ⟨(ix r.x0 r.y0).toNat, by unfold ix; omega, (inR_iff _ _).2 (by unfold ix; omega)⟩
theorem short_mem {R : List Rc} {d : Int} {i : Nat} : shortG R d i = true ↔ ∃ r, r ∈ R ∧ areaR r < d ∧ inR r i = true := by
  unfold shortG
  rw [cellsG_iff]
  constructor
  · rintro ⟨r, hr, h⟩
    rw [List.mem_filter] at hr
    exact ⟨r, hr.1, of_decide_eq_true hr.2, h⟩
  · rintro ⟨r, h1, h2, h3⟩
    exact ⟨r, List.mem_filter.2 ⟨h1, decide_eq_true h2⟩, h3⟩
theorem short_none {R : List Rc} {d : Int} (hok : okAll R = true) : canon (shortG R d) = [] ↔ ∀ r ∈ R, d ≤ areaR r := by
  rw [canon_nil_iff]
  constructor
  · intro h r hr
    rcases Int.lt_or_le (areaR r) d with hc | hc
    · obtain ⟨i, hi, h1⟩ := first_cell (okAll_in hok hr)
      have := h i hi
      rw [short_mem.2 ⟨r, hr, hc, h1⟩] at this
      cases this
    · exact hc
  · intro h i _
    rw [Bool.eq_false_iff]
    intro hs
    obtain ⟨r, h1, h2, _⟩ := short_mem.1 hs
    have := h r h1
    omega
theorem fold_iff {d : Int} : ∀ (R : List Rc) (m : Int), (∀ r ∈ R, 1 ≤ areaR r) → 1 ≤ m → (d ≤ R.foldl minStep m ↔ d ≤ m ∧ ∀ r ∈ R, d ≤ areaR r)
  | [], m, _, _ => by simp
  | r :: R, m, hR, hm => by
    have h1 := hR r (by simp)
    rw [List.foldl_cons, fold_iff R _ (fun q hq => hR q (by simp [hq])) (by unfold minStep; split <;> omega)]
    unfold minStep
    constructor
    · rintro ⟨h2, h3⟩
      refine ⟨by split at h2 <;> omega, fun q hq => ?_⟩
      rcases List.mem_cons.1 hq with rfl | hq
      · split at h2 <;> omega
      · exact h3 q hq
    · rintro ⟨h2, h3⟩
      have := h3 r (by simp)
      exact ⟨by split <;> omega, fun q hq => h3 q (by simp [hq])⟩
theorem area_pos {R : List Rc} (hok : okAll R = true) : ∀ r ∈ R, 1 ≤ areaR r := fun _ hr => (areaR_bounds (okAll_in hok hr)).1
theorem min_iff {R : List Rc} {d : Int} (hok : okAll R = true) (hne : R ≠ []) : d ≤ minA R ↔ ∀ r ∈ R, d ≤ areaR r := by
  cases R with
  | nil => exact absurd rfl hne
  | cons r R =>
    have hp := area_pos hok
    unfold minA
    rw [List.foldl_cons]
    have e : minStep 0 r = areaR r := if_pos (.inl rfl)
    rw [e, fold_iff R _ (fun q hq => hp q (by simp [hq])) (hp r (by simp))]
    simp
theorem first_is {R : List Rc} {d : Int} {r : Rc} (h : firstA R d = some r) : r ∈ R ∧ areaR r < d := by
  unfold firstA at h
  exact ⟨List.mem_of_find?_eq_some h, by simpa using List.find?_some h⟩
theorem first_none {R : List Rc} {d : Int} : firstA R d = none ↔ ∀ r ∈ R, d ≤ areaR r := by
  unfold firstA
  rw [List.find?_eq_none]
  constructor
  · intro h r hr
    have := h r hr
    simp at this
    exact this
  · intro h r hr
    have := h r hr
    simp
    exact this
/-- A short run is covered by the markers. -/
theorem short_cover {R : List Rc} {d : Int} {r : Rc} (hok : okAll R = true) (hr : r ∈ R) (hd : areaR r < d) : covV (canon (shortG R d)) r = areaR r := by
  rw [covV_yes (isReg_canon _) (okAll_in hok hr)]
  exact cover_full (okAll_in hok hr) fun i hi h1 => by rw [cells_canon _ i hi]; exact short_mem.2 ⟨r, hr, hd, h1⟩
/-- All cells of a region belong to another one. -/
def w9V (a b : List Rc) : Bool := a.all fun r => covV b r == areaR r
theorem w9V_sub {a b : List Rc} (ha : okAll a = true) (hb : isReg b = true) (h : ∀ i, i < 6400 → cellsG a i = true → cellsG b i = true) : w9V a b = true := by
  unfold w9V
  rw [List.all_eq_true]
  intro r hr
  have hrok := okAll_in ha hr
  rw [covV_yes hb hrok, cover_full hrok fun i hi h1 => h i hi ((cellsG_iff _ _).2 ⟨r, hr, h1⟩)]
  simp
theorem short_more {R : List Rc} {d e : Int} (h : d ≤ e) {i : Nat} (hs : shortG R d i = true) : shortG R e i = true := by
  obtain ⟨r, h1, h2, h3⟩ := short_mem.1 hs
  exact short_mem.2 ⟨r, h1, by omega, h3⟩
/-- The smallest is none exactly if there is none. -/
theorem min_zero {R : List Rc} (hok : okAll R = true) : minA R = 0 ↔ R = [] := by
  constructor
  · intro h
    rcases R with _ | ⟨r, R⟩
    · rfl
    · have := (minA_bounds hok).2.2 (by simp)
      omega
  · rintro rfl; rfl
theorem lim_iff {R : List Rc} {d : Int} (hok : okAll R = true) : canon (shortG R d) = [] ↔ R = [] ∨ d ≤ minA R := by
  rw [short_none hok]
  by_cases hne : R = []
  · subst hne; simp
  · rw [min_iff hok hne]
    simp [hne]
/-- The runs' cells are the region's. -/
theorem all_in {G : Gr} {r : Rc} (hr : r ∈ allG G) {i : Nat} (hi : i < 6400) (h : inR r i = true) : G i = true := by
  rcases List.mem_append.1 hr with hr | hr
  · exact (run_at hr hi h).1
  · exact (run_at hr hi h).1
theorem all_nil {rs : List Rc} (h : isReg rs = true) : allG (cellsG rs) = [] ↔ rs = [] := by
  have e := canon_of_reg h
  unfold allG
  rw [List.append_eq_nil_iff, runs_nil_iff, runs_nil_iff, and_self, ← canon_nil_iff, e]

end Go.Proofs.YtgegbgkokkdmpaaGreat

namespace Go.Proofs.YtgegbgkokkdmpaaGreat
open Go.RowKit

theorem w9V_start (a b : List Rc) : w9V (a.drop 0) b = w9V a b := by rw [List.drop_zero]
theorem w9V_next {a b : List Rc} {k : Nat} {r : Rc} (h : a[k]? = some r) : w9V (a.drop k) b = (covV b r == areaR r && w9V (a.drop (k + 1)) b) := by
  obtain ⟨hk, rfl⟩ := List.getElem?_eq_some_iff.1 h
  unfold w9V
  rw [List.drop_eq_getElem_cons hk, List.all_cons]
theorem w9V_end {a b : List Rc} {k : Nat} (h : a.length ≤ k) : w9V (a.drop k) b = true := by rw [List.drop_eq_nil_of_le h]; rfl

end Go.Proofs.YtgegbgkokkdmpaaGreat
