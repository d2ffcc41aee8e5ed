/- Plain law: short runs and short gaps by the cells around a cell; turned and moved cells. No conditions. -/
import Derived.Test.YtgegbgkokkdmpaaGreatQ23

namespace Go.Proofs.YtgegbgkokkdmpaaGreat

/-- The cell k places on in a row, or in a column. -/
def atG (G : Gr) (v : Bool) (x y k : Int) : Bool := if v = true then hasG G x (y + k) else hasG G (x + k) y
def segR (v : Bool) (x y p q : Int) : Rc := if v = true then ⟨x, y + p, x + 1, y + q⟩ else ⟨x + p, y, x + q, y + 1⟩
theorem area_seg (v : Bool) (x y p q : Int) : areaR (segR v x y p q) = q - p := by
  unfold areaR segR
  cases v
  · simp only [Bool.false_eq_true, if_false]
    have e : y + 1 - y = 1 := by omega
    rw [e, Int.mul_one]; omega
  · simp only [if_true]
    have e : x + 1 - x = 1 := by omega
    rw [e, Int.one_mul]; omega
theorem atG_zero (G : Gr) (v : Bool) (x y : Int) : atG G v x y 0 = hasG G x y := by
  unfold atG
  split <;> rw [Int.add_zero]
/-- The run through a cell, by its ends. -/
theorem runR_spec {G : Gr} {x y : Int} (v : Bool) (h : hasG G x y = true) : ∃ p q : Int, p ≤ 0 ∧ 0 < q ∧ (∀ j, p ≤ j → j < q → atG G v x y j = true) ∧ atG G v x y (p - 1) = false ∧ atG G v x y q = false ∧ runR G x y v = segR v x y p q := by
  have hb := hasG_in h
  cases v
  · have hp : ∀ t, (fun t => hasG G t y) t = true → -40 ≤ t := fun t ht => (hasG_in ht).1
    have hp2 : ∀ t, (fun t => hasG G t y) t = true → t ≤ 39 := fun t ht => (hasG_in ht).2.1
    obtain ⟨l1, l2, l3⟩ := low_spec hp _ x (Nat.le_refl _) h
    obtain ⟨k1, k2, k3⟩ := high_spec hp2 _ (x + 1) (Nat.le_refl _) (by omega)
    refine ⟨lowOf (fun t => hasG G t y) x - x, highOf (fun t => hasG G t y) (x + 1) - x, by omega, by omega, fun j h1 h2 => ?_, ?_, ?_, ?_⟩
    · show hasG G (x + j) y = true
      by_cases e : x + j ≤ x
      · exact l2 (x + j) (by omega) e
      · exact k2 (x + j) (by omega) (by omega)
    · show hasG G (x + _) y = false
      rw [← l3]; congr 1; omega
    · show hasG G (x + _) y = false
      rw [← k3]; congr 1; omega
    · unfold runR segR
      simp only [Bool.false_eq_true, if_false, Rc.mk.injEq]
      exact ⟨by omega, trivial, by omega, trivial⟩
  · have hp : ∀ t, (fun t => hasG G x t) t = true → -40 ≤ t := fun t ht => (hasG_in ht).2.2.1
    have hp2 : ∀ t, (fun t => hasG G x t) t = true → t ≤ 39 := fun t ht => (hasG_in ht).2.2.2
    obtain ⟨l1, l2, l3⟩ := low_spec hp _ y (Nat.le_refl _) h
    obtain ⟨k1, k2, k3⟩ := high_spec hp2 _ (y + 1) (Nat.le_refl _) (by omega)
    refine ⟨lowOf (fun t => hasG G x t) y - y, highOf (fun t => hasG G x t) (y + 1) - y, by omega, by omega, fun j h1 h2 => ?_, ?_, ?_, ?_⟩
    · show hasG G x (y + j) = true
      by_cases e : y + j ≤ y
      · exact l2 (y + j) (by omega) e
      · exact k2 (y + j) (by omega) (by omega)
    · show hasG G x (y + _) = false
      rw [← l3]; congr 1; omega
    · show hasG G x (y + _) = false
      rw [← k3]; congr 1; omega
    · unfold runR segR
      simp only [if_true, Rc.mk.injEq]
      exact ⟨trivial, by omega, trivial, by omega⟩

/-- A cell is marked as too narrow. -/
def NarrowC (G : Gr) (d x y : Int) : Prop := hasG G x y = true ∧ ∃ (v : Bool) (p q : Int), p ≤ 0 ∧ 0 < q ∧ q - p < d ∧ atG G v x y (p - 1) = false ∧ atG G v x y q = false
theorem narrow_run {G : Gr} {d x y : Int} (v : Bool) (h : hasG G x y = true) : areaR (runR G x y v) < d ↔ ∃ p q : Int, p ≤ 0 ∧ 0 < q ∧ q - p < d ∧ atG G v x y (p - 1) = false ∧ atG G v x y q = false := by
  obtain ⟨p, q, h1, h2, h3, h4, h5, e⟩ := runR_spec v h
  rw [e, area_seg]
  constructor
  · intro hd; exact ⟨p, q, h1, h2, hd, h4, h5⟩
  · rintro ⟨p', q', k1, k2, k3, k4, k5⟩
    have a1 : p' ≤ p := by
      rcases Int.lt_or_le p p' with hc | hc
      · rw [h3 (p' - 1) (by omega) (by omega)] at k4; cases k4
      · exact hc
    have b1 : q ≤ q' := by
      rcases Int.lt_or_le q' q with hc | hc
      · rw [h3 q' (by omega) (by omega)] at k5; cases k5
      · exact hc
    omega
theorem narrow_iff {G : Gr} {d x y : Int} : hasG (shortG (allG G) d) x y = true ↔ NarrowC G d x y := by
  unfold NarrowC
  cases hh : hasG G x y with
  | false => rw [mark_out hh]; simp
  | true =>
    rw [mark_in hh, Bool.or_eq_true, decide_eq_true_iff, decide_eq_true_iff, narrow_run false hh, narrow_run true hh]
    constructor
    · rintro (h | h)
      · exact ⟨rfl, false, h⟩
      · exact ⟨rfl, true, h⟩
    · rintro ⟨-, v, h⟩
      cases v
      · exact .inl h
      · exact .inr h
/-- A cell is marked as too near, on both sides. -/
def CloseC (G : Gr) (d x y : Int) : Prop := hasG G x y = false ∧ ∃ (v : Bool) (p q : Int), p ≤ 0 ∧ 0 < q ∧ q - p < d ∧ atG G v x y (p - 1) = true ∧ atG G v x y q = true
theorem atG_in {G : Gr} {v : Bool} {x y k : Int} (h : atG G v x y k = true) : if v = true then (-40 ≤ x ∧ x ≤ 39 ∧ -40 ≤ y + k ∧ y + k ≤ 39) else (-40 ≤ x + k ∧ x + k ≤ 39 ∧ -40 ≤ y ∧ y ≤ 39) := by
  unfold atG at h
  cases v
  · simp only [Bool.false_eq_true, if_false] at h ⊢
    exact hasG_in h
  · simp only [if_true] at h ⊢
    exact hasG_in h
theorem atG_on {G : Gr} {v : Bool} {x y k : Int} (h : atG G v x y k = true) : if v = true then onC x (y + k) = true else onC (x + k) y = true := by
  have := atG_in h
  revert this
  cases v
  · simp only [Bool.false_eq_true, if_false, onC_iff, imp_self]
  · simp only [if_true, onC_iff, imp_self]
/-- Between two cells of the chip all cells are of the chip. -/
theorem atG_not {G : Gr} {v : Bool} {x y k a b : Int} {A B : Gr} (ha : atG A v x y a = true) (hb : atG B v x y b = true) (h1 : a ≤ k) (h2 : k ≤ b) : atG (notG G) v x y k = !atG G v x y k := by
  have i1 := atG_in ha
  have i2 := atG_in hb
  unfold atG
  cases v
  · simp only [Bool.false_eq_true, if_false] at i1 i2 ⊢
    exact hasG_not ((onC_iff _ _).2 (by omega))
  · simp only [if_true] at i1 i2 ⊢
    exact hasG_not ((onC_iff _ _).2 (by omega))
theorem ends_seg (A B : Gr) (v : Bool) (x y p q : Int) : endsG A B v (segR v x y p q) = ((atG A v x y (p - 1) && atG B v x y q) || (atG B v x y (p - 1) && atG A v x y q)) := by
  unfold endsG segR atG
  cases v
  · simp only [Bool.false_eq_true, if_false, Int.add_sub_assoc]
  · simp only [if_true, Int.add_sub_assoc]
/-- The cells of the gaps between two sets that are too short. -/
def BtwC (A B : Gr) (d x y : Int) : Prop := ∃ (v : Bool) (p q : Int), p ≤ 0 ∧ 0 < q ∧ q - p < d ∧ (∀ j, p ≤ j → j < q → atG A v x y j = false ∧ atG B v x y j = false) ∧ ((atG A v x y (p - 1) = true ∧ atG B v x y q = true) ∨ (atG B v x y (p - 1) = true ∧ atG A v x y q = true))
theorem hasG_union (A B : Gr) (x y : Int) : hasG (unionG A B) x y = (hasG A x y || hasG B x y) := by
  unfold hasG unionG
  cases onC x y <;> simp
theorem atG_union (A B : Gr) (v : Bool) (x y k : Int) : atG (unionG A B) v x y k = (atG A v x y k || atG B v x y k) := by
  unfold atG
  split <;> exact hasG_union A B _ _
theorem btw_short {A B : Gr} {d : Int} {i : Nat} (hi : i < 6400) : shortG (allBtw A B) d i = true ↔ notG (unionG A B) i = true ∧ ((areaR (runAt (notG (unionG A B)) false i) < d ∧ endsG A B false (runAt (notG (unionG A B)) false i) = true) ∨ (areaR (runAt (notG (unionG A B)) true i) < d ∧ endsG A B true (runAt (notG (unionG A B)) true i) = true)) := by
  unfold allBtw btwG
  rw [short_app]
  unfold unionG
  rw [Bool.or_eq_true, short_filter hi, short_filter hi]
  constructor
  · rintro (⟨h1, h2⟩ | ⟨h1, h2⟩)
    · exact ⟨h1, .inl h2⟩
    · exact ⟨h1, .inr h2⟩
  · rintro ⟨h1, h2 | h2⟩
    · exact .inl ⟨h1, h2⟩
    · exact .inr ⟨h1, h2⟩
theorem btw_dir {A B : Gr} {d x y : Int} (v : Bool) (hn : hasG (notG (unionG A B)) x y = true) : (areaR (runR (notG (unionG A B)) x y v) < d ∧ endsG A B v (runR (notG (unionG A B)) x y v) = true) ↔
    ∃ p q : Int, p ≤ 0 ∧ 0 < q ∧ q - p < d ∧ (∀ j, p ≤ j → j < q → atG A v x y j = false ∧ atG B v x y j = false) ∧ ((atG A v x y (p - 1) = true ∧ atG B v x y q = true) ∨ (atG B v x y (p - 1) = true ∧ atG A v x y q = true)) := by
  obtain ⟨p, q, h1, h2, h3, h4, h5, e⟩ := runR_spec v hn
  rw [e, area_seg, ends_seg, Bool.or_eq_true, Bool.and_eq_true, Bool.and_eq_true]
  have key : ∀ {a b : Int}, (atG A v x y a = true ∧ atG B v x y b = true) ∨ (atG B v x y a = true ∧ atG A v x y b = true) → ∀ k, a ≤ k → k ≤ b → atG (notG (unionG A B)) v x y k = !(atG A v x y k || atG B v x y k) := by
    intro a b hab k k1 k2
    rw [← atG_union]
    rcases hab with ⟨g1, g2⟩ | ⟨g1, g2⟩
    · exact atG_not g1 g2 k1 k2
    · exact atG_not g1 g2 k1 k2
  constructor
  · rintro ⟨hd, he⟩
    refine ⟨p, q, h1, h2, hd, fun j j1 j2 => ?_, he⟩
    have := h3 j j1 j2
    rw [key he j (by omega) (by omega)] at this
    simpa using this
  · rintro ⟨p', q', k1, k2, k3, k4, k5⟩
    have e1 : p' = p := by
      rcases Int.lt_trichotomy p' p with hc | hc | hc
      · have := k4 (p - 1) (by omega) (by omega)
        have h6 := h4
        rw [key k5 (p - 1) (by omega) (by omega), this.1, this.2] at h6
        cases h6
      · exact hc
      · have h6 := h3 (p' - 1) (by omega) (by omega)
        rw [key k5 (p' - 1) (by omega) (by omega)] at h6
        rcases k5 with ⟨g1, g2⟩ | ⟨g1, g2⟩
        · rw [g1] at h6; simp at h6
        · rw [g1] at h6; simp at h6
    have e2 : q' = q := by
      rcases Int.lt_trichotomy q' q with hc | hc | hc
      · have h6 := h3 q' (by omega) (by omega)
        rw [key k5 q' (by omega) (by omega)] at h6
        rcases k5 with ⟨g1, g2⟩ | ⟨g1, g2⟩
        · rw [g2] at h6; simp at h6
        · rw [g2] at h6; simp at h6
      · exact hc
      · have := k4 q (by omega) (by omega)
        have h6 := h5
        rw [key k5 q (by omega) (by omega), this.1, this.2] at h6
        cases h6
    subst e1 e2
    exact ⟨k3, k5⟩
theorem btw_iff {A B : Gr} {d x y : Int} : hasG (shortG (allBtw A B) d) x y = true ↔ BtwC A B d x y := by
  have on_of : BtwC A B d x y → onC x y = true ∧ hasG (notG (unionG A B)) x y = true := by
    rintro ⟨v, p, q, h1, h2, h3, h4, h5⟩
    have hab : ∃ A' B' : Gr, atG A' v x y (p - 1) = true ∧ atG B' v x y q = true := by
      rcases h5 with ⟨g1, g2⟩ | ⟨g1, g2⟩
      · exact ⟨_, _, g1, g2⟩
      · exact ⟨_, _, g1, g2⟩
    obtain ⟨A', B', g1, g2⟩ := hab
    have := h4 0 h1 h2
    have hk := atG_not (G := unionG A B) g1 g2 (k := 0) (by omega) (by omega)
    rw [atG_union, this.1, this.2, atG_zero] at hk
    have hk' : hasG (notG (unionG A B)) x y = true := hk
    exact ⟨(hasG_yes hk').1, hk'⟩
  constructor
  · intro h
    obtain ⟨hc, hs⟩ := hasG_yes h
    have hi := onC_ix hc
    obtain ⟨hn, hv⟩ := (btw_short hi).1 hs
    have hh : hasG (notG (unionG A B)) x y = true := by rw [hasG_on hc]; exact hn
    rw [← runAt_runR hh, ← runAt_runR hh] at hv
    rcases hv with hv | hv
    · exact ⟨false, (btw_dir false hh).1 hv⟩
    · exact ⟨true, (btw_dir true hh).1 hv⟩
  · intro h
    obtain ⟨hc, hh⟩ := on_of h
    have hi := onC_ix hc
    obtain ⟨v, hv⟩ := h
    rw [hasG_on hc]
    refine (btw_short hi).2 ⟨(hasG_yes hh).2, ?_⟩
    rw [← runAt_runR hh, ← runAt_runR hh]
    cases v
    · exact .inl ((btw_dir false hh).2 hv)
    · exact .inr ((btw_dir true hh).2 hv)
/-- The nearest ones among the cells on both sides. -/
theorem nearest (f : Int → Bool) (p q : Int) (h0 : f 0 = false) (hp : p ≤ 0) (hq : 0 < q) (h1 : f (p - 1) = true) (h2 : f q = true) : ∃ p' q' : Int, p ≤ p' ∧ p' ≤ 0 ∧ 0 < q' ∧ q' ≤ q ∧ f (p' - 1) = true ∧ f q' = true ∧ ∀ j, p' ≤ j → j < q' → f j = false := by
  have down : ∀ n : Nat, ∀ a : Int, a ≤ 0 → (0 - a).toNat ≤ n → f (a - 1) = true → ∃ a', a ≤ a' ∧ a' ≤ 0 ∧ f (a' - 1) = true ∧ ∀ j, a' ≤ j → j ≤ 0 → f j = false := by
    intro n
    induction n with
    | zero =>
      intro a ha hn hf
      refine ⟨a, Int.le_refl _, ha, hf, fun j j1 j2 => ?_⟩
      have e : j = 0 := by omega
      rw [e]; exact h0
    | succ n ih =>
      intro a ha hn hf
      by_cases hall : ∀ j, a ≤ j → j ≤ 0 → f j = false
      · exact ⟨a, Int.le_refl _, ha, hf, hall⟩
      · have : ∃ j, a ≤ j ∧ j ≤ 0 ∧ f j = true := by
          refine Classical.byContradiction fun hc => hall fun j j1 j2 => ?_
          rw [Bool.eq_false_iff]
          exact fun hj => hc ⟨j, j1, j2, hj⟩
        obtain ⟨j, j1, j2, hj⟩ := this
        have hj0 : j ≠ 0 := fun e => by rw [e, h0] at hj; cases hj
        obtain ⟨a', b1, b2, b3, b4⟩ := ih (j + 1) (by omega) (by omega) (by rw [← hj]; congr 1; omega)
        exact ⟨a', by omega, b2, b3, b4⟩
  have up : ∀ n : Nat, ∀ a : Int, 0 < a → a.toNat ≤ n → f a = true → ∃ a', 0 < a' ∧ a' ≤ a ∧ f a' = true ∧ ∀ j, 0 ≤ j → j < a' → f j = false := by
    intro n
    induction n with
    | zero => intro a ha hn hf; omega
    | succ n ih =>
      intro a ha hn hf
      by_cases hall : ∀ j, 0 ≤ j → j < a → f j = false
      · exact ⟨a, ha, Int.le_refl _, hf, hall⟩
      · have : ∃ j, 0 ≤ j ∧ j < a ∧ f j = true := by
          refine Classical.byContradiction fun hc => hall fun j j1 j2 => ?_
          rw [Bool.eq_false_iff]
          exact fun hj => hc ⟨j, j1, j2, hj⟩
        obtain ⟨j, j1, j2, hj⟩ := this
        have hj0 : j ≠ 0 := fun e => by rw [e, h0] at hj; cases hj
        obtain ⟨a', b1, b2, b3, b4⟩ := ih j (by omega) (by omega) hj
        exact ⟨a', b1, by omega, b3, b4⟩
  obtain ⟨p', a1, a2, a3, a4⟩ := down _ p hp (Nat.le_refl _) h1
  obtain ⟨q', b1, b2, b3, b4⟩ := up _ q hq (Nat.le_refl _) h2
  refine ⟨p', q', a1, a2, b1, b2, a3, b3, fun j j1 j2 => ?_⟩
  by_cases e : j ≤ 0
  · exact a4 j j1 e
  · exact b4 j (by omega) j2
theorem close_iff {G : Gr} {d x y : Int} : hasG (shortG (allGaps G) d) x y = true ↔ CloseC G d x y := by
  rw [← allBtw_self, btw_iff]
  unfold BtwC CloseC
  constructor
  · rintro ⟨v, p, q, h1, h2, h3, h4, h5⟩
    rw [or_self] at h5
    refine ⟨?_, v, p, q, h1, h2, h3, h5⟩
    rw [← atG_zero G v x y]
    exact (h4 0 h1 h2).1
  · rintro ⟨h0, v, p, q, h1, h2, h3, h4, h5⟩
    rw [← atG_zero G v x y] at h0
    obtain ⟨p', q', a1, a2, a3, a4, a5, a6, a7⟩ := nearest (fun k => atG G v x y k) p q h0 h1 h2 h4 h5
    exact ⟨v, p', q', a2, a3, by omega, fun j j1 j2 => ⟨a7 j j1 j2, a7 j j1 j2⟩, .inl ⟨a5, a6⟩⟩

/-! ## Turned and moved -/
structure Tf where
  o : Int
  x : Int
  y : Int
deriving DecidableEq
def validT (t : Tf) : Bool := decide ((0 ≤ t.o ∧ t.o ≤ 7) ∧ (-80 ≤ t.x ∧ t.x ≤ 80) ∧ (-80 ≤ t.y ∧ t.y ≤ 80))
theorem validT_iff (t : Tf) : validT t = true ↔ (0 ≤ t.o ∧ t.o ≤ 7) ∧ (-80 ≤ t.x ∧ t.x ≤ 80) ∧ (-80 ≤ t.y ∧ t.y ≤ 80) := by simp [validT]
def turnX (o x y : Int) : Int := if o = 0 then x else if o = 1 then -y else if o = 2 then -x else if o = 3 then y else if o = 4 then x else if o = 5 then y else if o = 6 then -x else -y
def turnY (o x y : Int) : Int := if o = 0 then y else if o = 1 then x else if o = 2 then -y else if o = 3 then -x else if o = 4 then -y else if o = 5 then x else if o = 6 then y else -x
def moveX (t : Tf) (x y : Int) : Int := turnX t.o x y + t.x
def moveY (t : Tf) (x y : Int) : Int := turnY t.o x y + t.y
def moveR (t : Tf) (r : Rc) : Rc := ⟨min (moveX t r.x0 r.y0) (moveX t r.x1 r.y1), min (moveY t r.x0 r.y0) (moveY t r.x1 r.y1), max (moveX t r.x0 r.y0) (moveX t r.x1 r.y1), max (moveY t r.x0 r.y0) (moveY t r.x1 r.y1)⟩
/-- The image of a unit cell. -/
def cellX (t : Tf) (x y : Int) : Int := min (moveX t x y) (moveX t (x + 1) (y + 1))
def cellY (t : Tf) (x y : Int) : Int := min (moveY t x y) (moveY t (x + 1) (y + 1))
theorem eight {o : Int} (h : 0 ≤ o ∧ o ≤ 7) : o = 0 ∨ o = 1 ∨ o = 2 ∨ o = 3 ∨ o = 4 ∨ o = 5 ∨ o = 6 ∨ o = 7 := by omega
def InRc (r : Rc) (x y : Int) : Prop := r.x0 ≤ x ∧ x < r.x1 ∧ r.y0 ≤ y ∧ y < r.y1
theorem inRc_ix {r : Rc} {x y : Int} (hc : onC x y = true) : inR r (ix x y).toNat = true ↔ InRc r x y := by
  rw [onC_iff] at hc
  rw [inR_iff]
  unfold ix InRc
  omega
theorem hasG_cells {rs : List Rc} (hok : okAll rs = true) {x y : Int} : hasG (cellsG rs) x y = true ↔ ∃ r ∈ rs, InRc r x y := by
  constructor
  · intro h
    obtain ⟨hc, h⟩ := hasG_yes h
    obtain ⟨r, hr, h⟩ := (cellsG_iff _ _).1 h
    exact ⟨r, hr, (inRc_ix hc).1 h⟩
  · rintro ⟨r, hr, h⟩
    have hb := (okRc_iff r).1 (okAll_in hok hr)
    have hc : onC x y = true := by rw [onC_iff]; unfold InRc at h; omega
    rw [hasG_on hc]
    exact (cellsG_iff _ _).2 ⟨r, hr, (inRc_ix hc).2 h⟩
theorem inRc_move {t : Tf} (ht : 0 ≤ t.o ∧ t.o ≤ 7) {r : Rc} (hr : r.x0 < r.x1 ∧ r.y0 < r.y1) (x y : Int) : InRc (moveR t r) (cellX t x y) (cellY t x y) ↔ InRc r x y := by
  obtain ⟨o, a, b⟩ := t
  unfold InRc moveR cellX cellY moveX moveY turnX turnY
  rcases eight ht with h | h | h | h | h | h | h | h <;> (dsimp only at h ht ⊢; subst h; simp only [reduceIte, Int.reduceEq]; omega)
theorem move_size {t : Tf} (ht : 0 ≤ t.o ∧ t.o ≤ 7) {r : Rc} (hr : r.x0 < r.x1 ∧ r.y0 < r.y1) : (moveR t r).x0 < (moveR t r).x1 ∧ (moveR t r).y0 < (moveR t r).y1 := by
  obtain ⟨o, a, b⟩ := t
  unfold moveR moveX moveY turnX turnY
  rcases eight ht with h | h | h | h | h | h | h | h <;> (dsimp only at h ht ⊢; subst h; simp only [reduceIte, Int.reduceEq]; omega)
/-- Each cell is the image of one. -/
theorem cell_onto {t : Tf} (ht : 0 ≤ t.o ∧ t.o ≤ 7) (u v : Int) : ∃ x y, cellX t x y = u ∧ cellY t x y = v := by
  obtain ⟨o, a, b⟩ := t
  unfold cellX cellY moveX moveY turnX turnY
  rcases eight ht with h | h | h | h | h | h | h | h <;> (dsimp only at h ht ⊢; subst h; simp only [reduceIte, Int.reduceEq])
  · exact ⟨u - a, v - b, by omega, by omega⟩
  · exact ⟨v - b, a - u - 1, by omega, by omega⟩
  · exact ⟨a - u - 1, b - v - 1, by omega, by omega⟩
  · exact ⟨b - v - 1, u - a, by omega, by omega⟩
  · exact ⟨u - a, b - v - 1, by omega, by omega⟩
  · exact ⟨v - b, u - a, by omega, by omega⟩
  · exact ⟨a - u - 1, v - b, by omega, by omega⟩
  · exact ⟨b - v - 1, a - u - 1, by omega, by omega⟩
/-- The set H is the image of the set G. -/
def Image (t : Tf) (G H : Gr) : Prop := ∀ x y, hasG H (cellX t x y) (cellY t x y) = hasG G x y
/-- The directions of the image. -/
theorem image_dir {t : Tf} (ht : 0 ≤ t.o ∧ t.o ≤ 7) : ∃ (s : Bool) (m : Bool → Bool), ∀ (v : Bool) (G H : Gr), Image t G H → ∀ x y k, atG H (v ^^ s) (cellX t x y) (cellY t x y) k = atG G v x y (if m v = true then -k else k) := by
  obtain ⟨o, a, b⟩ := t
  rcases eight ht with h | h | h | h | h | h | h | h <;> dsimp only at h <;> subst h
  · refine ⟨false, fun _ => false, fun v G H hI x y k => ?_⟩
    cases v <;> simp only [Bool.xor_false, atG, Bool.false_eq_true, if_false, if_true] <;> rw [← hI] <;> congr 1 <;> simp only [cellX, cellY, moveX, moveY, turnX, turnY, reduceIte, Int.reduceEq] <;> omega
  · refine ⟨true, fun v => v, fun v G H hI x y k => ?_⟩
    cases v <;> simp only [Bool.xor_true, Bool.not_false, Bool.not_true, atG, Bool.false_eq_true, if_false, if_true] <;> rw [← hI] <;> congr 1 <;> simp only [cellX, cellY, moveX, moveY, turnX, turnY, reduceIte, Int.reduceEq] <;> omega
  · refine ⟨false, fun _ => true, fun v G H hI x y k => ?_⟩
    cases v <;> simp only [Bool.xor_false, atG, Bool.false_eq_true, if_false, if_true] <;> rw [← hI] <;> congr 1 <;> simp only [cellX, cellY, moveX, moveY, turnX, turnY, reduceIte, Int.reduceEq] <;> omega
  · refine ⟨true, fun v => !v, fun v G H hI x y k => ?_⟩
    cases v <;> simp only [Bool.xor_true, Bool.not_false, Bool.not_true, atG, Bool.false_eq_true, if_false, if_true] <;> rw [← hI] <;> congr 1 <;> simp only [cellX, cellY, moveX, moveY, turnX, turnY, reduceIte, Int.reduceEq] <;> omega
  · refine ⟨false, fun v => v, fun v G H hI x y k => ?_⟩
    cases v <;> simp only [Bool.xor_false, atG, Bool.false_eq_true, if_false, if_true] <;> rw [← hI] <;> congr 1 <;> simp only [cellX, cellY, moveX, moveY, turnX, turnY, reduceIte, Int.reduceEq] <;> omega
  · refine ⟨true, fun _ => false, fun v G H hI x y k => ?_⟩
    cases v <;> simp only [Bool.xor_true, Bool.not_false, Bool.not_true, atG, Bool.false_eq_true, if_false, if_true] <;> rw [← hI] <;> congr 1 <;> simp only [cellX, cellY, moveX, moveY, turnX, turnY, reduceIte, Int.reduceEq] <;> omega
  · refine ⟨false, fun v => !v, fun v G H hI x y k => ?_⟩
    cases v <;> simp only [Bool.xor_false, Bool.not_false, Bool.not_true, atG, Bool.false_eq_true, if_false, if_true] <;> rw [← hI] <;> congr 1 <;> simp only [cellX, cellY, moveX, moveY, turnX, turnY, reduceIte, Int.reduceEq] <;> omega
  · refine ⟨true, fun _ => true, fun v G H hI x y k => ?_⟩
    cases v <;> simp only [Bool.xor_true, Bool.not_false, Bool.not_true, atG, Bool.false_eq_true, if_false, if_true] <;> rw [← hI] <;> congr 1 <;> simp only [cellX, cellY, moveX, moveY, turnX, turnY, reduceIte, Int.reduceEq] <;> omega
end Go.Proofs.YtgegbgkokkdmpaaGreat
