/- Plain mathematics: the run through a cell. No conditions. -/
import Derived.Test.YthifinolgbjekaaRowMath
namespace Go.Proofs.Ythifinolgbjekaa

/-- The flat index of a unit cell. -/
def ix (x y : Int) : Int := (y + 40) * 80 + x + 40
/-- x and y lie on the chip. -/
def onC (x y : Int) : Bool := decide (-40 ≤ x ∧ x ≤ 39 ∧ -40 ≤ y ∧ y ≤ 39)
theorem onC_iff (x y : Int) : onC x y = true ↔ -40 ≤ x ∧ x ≤ 39 ∧ -40 ≤ y ∧ y ≤ 39 := by simp [onC]
theorem onC_no {x y : Int} (h : ¬ (-40 ≤ x ∧ x ≤ 39 ∧ -40 ≤ y ∧ y ≤ 39)) : onC x y = false := decide_eq_false h
/-- The index, as the program reckons it. -/
theorem ix_nat {x y : Int} (h : onC x y = true) : (ix x y).toNat = (y + 40).toNat * 80 + (x + 40).toNat ∧ (y + 40).toNat * 80 + (x + 40).toNat < 6400 := by
  rw [onC_iff] at h
  unfold ix
  omega
/-- A set has the cell (x, y); false outside the chip. -/
def hasG (G : Gr) (x y : Int) : Bool := onC x y && G (ix x y).toNat
theorem hasG_on {G : Gr} {x y : Int} (h : onC x y = true) : hasG G x y = G (ix x y).toNat := by simp [hasG, h]
theorem hasG_off {G : Gr} {x y : Int} (h : onC x y = false) : hasG G x y = false := by simp [hasG, h]
theorem hasG_in {G : Gr} {x y : Int} (h : hasG G x y = true) : -40 ≤ x ∧ x ≤ 39 ∧ -40 ≤ y ∧ y ≤ 39 := by
  rw [hasG, Bool.and_eq_true] at h
  exact (onC_iff x y).1 h.1
theorem hasG_nat (G : Gr) (a n : Nat) : hasG G ((n : Int) - 40) ((a : Int) - 40) = at_ G a n := by
  by_cases h : n < 80 ∧ a < 80
  · have hc : onC ((n : Int) - 40) ((a : Int) - 40) = true := (onC_iff _ _).2 (by omega)
    rw [hasG_on hc, at_in G h.2 h.1]
    congr 1
    unfold ix
    omega
  · have hc : onC ((n : Int) - 40) ((a : Int) - 40) = false := onC_no (by omega)
    rw [hasG_off hc]
    unfold at_
    by_cases ha : a < 80
    · have : ¬ n < 80 := by omega
      simp [this]
    · simp [ha]

section
variable (p : Int → Bool)
def goDown : Nat → Int → Int
  | 0, x => x
  | n + 1, x => if p (x - 1) = true then goDown n (x - 1) else x
/-- The lowest place that is reached from x over cells that are set. -/
def lowOf (x : Int) : Int := goDown p (x + 41).toNat x
def goUp : Nat → Int → Int
  | 0, x => x
  | n + 1, x => if p x = true then goUp n (x + 1) else x
/-- The place behind the last cell that is set, from x on. -/
def highOf (x : Int) : Int := goUp p (41 - x).toNat x
variable {p} {x : Int}
theorem lowOf_step (h : p (x - 1) = true) (hx : -40 ≤ x - 1) : lowOf p x = lowOf p (x - 1) := by
  have e : (x + 41).toNat = (x - 1 + 41).toNat + 1 := by omega
  rw [lowOf, e, goDown, if_pos h]; rfl
theorem lowOf_stop (h : p (x - 1) = false) : lowOf p x = x := by
  unfold lowOf
  cases (x + 41).toNat with
  | zero => rfl
  | succ n => rw [goDown, if_neg (by rw [h]; simp)]
theorem highOf_step (h : p x = true) (hx : x ≤ 39) : highOf p x = highOf p (x + 1) := by
  have e : (41 - x).toNat = (41 - (x + 1)).toNat + 1 := by omega
  rw [highOf, e, goUp, if_pos h]; rfl
theorem highOf_stop (h : p x = false) : highOf p x = x := by
  unfold highOf
  cases (41 - x).toNat with
  | zero => rfl
  | succ n => rw [goUp, if_neg (by rw [h]; simp)]
/-- All from x on below z are set, z is not: z is the end. -/
theorem highOf_all : ∀ (d : Nat) (x : Int), (∀ t, x ≤ t → t < x + d → p t = true ∧ t ≤ 39) → p (x + d) = false → highOf p x = x + d := by
  intro d
  induction d with
  | zero => intro x _ h; rw [highOf_stop (by simpa using h)]; simp
  | succ d ih =>
    intro x h he
    have h0 := h x (by omega) (by omega)
    rw [highOf_step h0.1 h0.2, ih (x + 1) (fun t h1 h2 => h t (by omega) (by omega)) (by rw [← he]; congr 1; omega)]
    omega
end

/-- The run through a cell, in its row, or in its column if vertical. -/
def runR (G : Gr) (x y : Int) (vertical : Bool) : Rc :=
  if vertical = true then ⟨x, lowOf (fun t => hasG G x t) y, x + 1, highOf (fun t => hasG G x t) (y + 1)⟩
  else ⟨lowOf (fun t => hasG G t y) x, y, highOf (fun t => hasG G t y) (x + 1), y + 1⟩

end Go.Proofs.Ythifinolgbjekaa
