/- What memory holds: lists of rules. Contracts: IsValidRule of both, and the laws' helpers on rules and decks. Conditions: lists in memory. -/
import Derived.Test.YtbljapihmkmolaaGreatLay
import Derived.Test.YtbljapihmkmolaaGreatConn
namespace Go.Proofs.YtbljapihmkmolaaGreat
open Go.RowKit

structure Ru where
  k : Int
  l : Int
  o : Int
  v : Int
  p : Int
deriving DecidableEq
def Ru.vals (r : Ru) : List Value := [.int .i64 r.k, .int .i64 r.l, .int .i64 r.o, .int .i64 r.v, .int .i64 r.p]
def Ru.val (r : Ru) : Value := .agg #[.int .i64 r.k, .int .i64 r.l, .int .i64 r.o, .int .i64 r.v, .int .i64 r.p]
def Ru.in64 (r : Ru) : Prop := I64 r.k ∧ I64 r.l ∧ I64 r.o ∧ I64 r.v ∧ I64 r.p

/-- Has a rule of the kind another layer? -/
def pairB (k : Int) : Bool := decide (k = 2 ∨ k = 3)
/-- Is the value of the rule in range? -/
def valueB (k v : Int) : Bool := if k = 4 then inB 1 v 6400 else if k = 5 then inB 4 v 40 else inB 1 v 8
def otherB (k l o : Int) : Bool := if pairB k = true then inB 0 o 7 && decide (o ≠ l) else decide (o = 0)
def ruleB (r : Ru) : Bool := inB 0 r.k 5 && inB 0 r.l 7 && valueB r.k r.v && otherB r.k r.l r.o && (if r.k = 5 then inB 1 r.p 100 else decide (r.p = 0))

theorem l16In_any (x lo hi : Int) (w : World) : Calls Tryz.prog 99 #[.int .i64 x, .int .i64 lo, .int .i64 hi] w fun e w' => e = .returned (.bool (inB lo x hi)) ∧ w = w' := by
  by_cases h1 : lo ≤ x
  · have h1' : decide (lo ≤ x) = true := decide_eq_true h1
    go_enter Tryz.func99, Tryz.ntmps99
    go_wp2
    go_ret
    exact ⟨ret_bool (by simp [inB, h1]), rfl⟩
  · have h1' : decide (lo ≤ x) = false := decide_eq_false h1
    go_enter Tryz.func99, Tryz.ntmps99
    go_wp2
    go_ret
    exact ⟨ret_bool (by simp [inB]; omega), rfl⟩
theorem paired_spec (k : Int) (w : World) : Calls Tryz.prog 101 #[.int .i64 k] w fun e w' => e = .returned (.bool (pairB k)) ∧ w = w' := by
  by_cases h1 : k = 2
  · subst h1
    go_enter Tryz.func101, Tryz.ntmps101
    go_wp2
    go_ret
    exact ⟨rfl, rfl⟩
  · have h1' : (k == 2) = false := by simpa using h1
    go_enter Tryz.func101, Tryz.ntmps101
    go_wp2
    go_ret
    exact ⟨ret_bool (by rw [Bool.eq_iff_iff]; simp [pairB, h1]), rfl⟩
theorem hasOther_any (k : Int) (w : World) : Calls Tryz.prog 120 #[.int .i64 k] w fun e w' => e = .returned (.bool (pairB k)) ∧ w = w' := by
  by_cases h1 : k = 2
  · subst h1
    go_enter Tryz.func120, Tryz.ntmps120
    go_wp2
    go_ret
    exact ⟨rfl, rfl⟩
  · have h1' : (k == 2) = false := by simpa using h1
    go_enter Tryz.func120, Tryz.ntmps120
    go_wp2
    go_ret
    exact ⟨ret_bool (by rw [Bool.eq_iff_iff]; simp [pairB, h1]), rfl⟩
theorem value_spec (r : Ru) (w : World) : Calls Tryz.prog 100 #[r.val] w fun e w' => e = .returned (.bool (valueB r.k r.v)) ∧ Below w.heap.size w w' := by
  obtain ⟨k, l, o, v, p⟩ := r
  unfold Ru.val valueB
  dsimp only
  have hb := (Below.refl w.heap.size w).alloc (Nat.le_refl _) (.cells #[.int .i64 k, .int .i64 l, .int .i64 o, .int .i64 v, .int .i64 p] 30)
  by_cases h4 : k = 4
  · subst h4
    rw [if_pos rfl]
    go_enter Tryz.func100, Tryz.ntmps100
    go_wp2_with (go_at_call 99; refine (l16In_any _ _ _ _).mono ?_; rintro e w2 ⟨rfl, rfl⟩)
    go_ret
    exact ⟨rfl, hb⟩
  · rw [if_neg h4]
    have h4' : (k == 4) = false := by simpa using h4
    by_cases h5 : k = 5
    · subst h5
      rw [if_pos rfl]
      go_enter Tryz.func100, Tryz.ntmps100
      go_wp2_with (go_at_call 99; refine (l16In_any _ _ _ _).mono ?_; rintro e w2 ⟨rfl, rfl⟩)
      go_ret
      exact ⟨rfl, hb⟩
    · rw [if_neg h5]
      have h5' : (k == 5) = false := by simpa using h5
      go_enter Tryz.func100, Tryz.ntmps100
      go_wp2_with (go_at_call 99; refine (l16In_any _ _ _ _).mono ?_; rintro e w2 ⟨rfl, rfl⟩)
      go_ret
      exact ⟨rfl, hb⟩

theorem rule_no1 {r : Ru} (h : inB 0 r.k 5 = false) : ruleB r = false := by unfold ruleB; rw [h]; simp
theorem rule_no2 {r : Ru} (h : inB 0 r.l 7 = false) : ruleB r = false := by unfold ruleB; rw [h]; simp
theorem rule_no3 {r : Ru} (h : valueB r.k r.v = false) : ruleB r = false := by unfold ruleB; rw [h]; simp
theorem rule_no4 {r : Ru} (h : otherB r.k r.l r.o = false) : ruleB r = false := by unfold ruleB; rw [h]; simp
theorem rule_rest {r : Ru} (h1 : inB 0 r.k 5 = true) (h2 : inB 0 r.l 7 = true) (h3 : valueB r.k r.v = true) (h4 : otherB r.k r.l r.o = true) : ruleB r = if r.k = 5 then inB 1 r.p 100 else decide (r.p = 0) := by
  unfold ruleB
  rw [h1, h2, h3, h4]
  simp

end Go.Proofs.YtbljapihmkmolaaGreat
