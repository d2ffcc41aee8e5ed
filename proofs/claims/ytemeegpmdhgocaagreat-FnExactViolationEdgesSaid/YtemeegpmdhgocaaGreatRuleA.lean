/- What memory holds: lists of rules. Contracts: IsValidRule of both, and the laws' helpers on rules and decks. Conditions: lists in memory. Contracts: IsValidRule of the reference and of the program. No conditions. Rules and decks that came in, opened; lists of rules in memory; the laws' helpers on rules and decks. No conditions but bounds on sizes. -/
import Derived.Test.YtemeegpmdhgocaaGreatLay
import Derived.Test.YtemeegpmdhgocaaGreatConn
import Derived.Test.YtemeegpmdhgocaaGreatVioA
namespace Go.Proofs.YtemeegpmdhgocaaGreat
open Go.RowKit

structure Ru where
  k : Int
  l : Int
  o : Int
  v : Int
  p : Int
deriving DecidableEq
def Ru.vals (r : Ru) : List Value := [.int .i64 r.k, .int .i64 r.l, .int .i64 r.o, .int .i64 r.v, .int .i64 r.p]
def Ru.val (r : Ru) : Value := .agg #[.int .i64 r.k, .int .i64 r.l, .int .i64 r.o, .int .i64 r.v, .int .i64 r.p]
def Ru.in64 (r : Ru) : Prop := I64 r.k ∧ I64 r.l ∧ I64 r.o ∧ I64 r.v ∧ I64 r.p

/-- Has a rule of the kind another layer? -/
def pairB (k : Int) : Bool := decide (k = 2 ∨ k = 3)
/-- Is the value of the rule in range? -/
def valueB (k v : Int) : Bool := if k = 4 then inB 1 v 6400 else if k = 5 then inB 4 v 40 else inB 1 v 8
def otherB (k l o : Int) : Bool := if pairB k = true then inB 0 o 7 && decide (o ≠ l) else decide (o = 0)
def ruleB (r : Ru) : Bool := inB 0 r.k 5 && inB 0 r.l 7 && valueB r.k r.v && otherB r.k r.l r.o && (if r.k = 5 then inB 1 r.p 100 else decide (r.p = 0))

theorem l16In_any (x lo hi : Int) (w : World) : Calls Tryz.prog 81 #[.int .i64 x, .int .i64 lo, .int .i64 hi] w fun e w' => e = .returned (.bool (inB lo x hi)) ∧ w = w' := by
  by_cases h1 : lo ≤ x
  · have h1' : decide (lo ≤ x) = true := decide_eq_true h1
    go_enter Tryz.func81, Tryz.ntmps81
    go_wp2
    go_ret
    exact ⟨ret_bool (by simp [inB, h1]), rfl⟩
  · have h1' : decide (lo ≤ x) = false := decide_eq_false h1
    go_enter Tryz.func81, Tryz.ntmps81
    go_wp2
    go_ret
    exact ⟨ret_bool (by simp [inB]; omega), rfl⟩
theorem paired_spec (k : Int) (w : World) : Calls Tryz.prog 83 #[.int .i64 k] w fun e w' => e = .returned (.bool (pairB k)) ∧ w = w' := by
  by_cases h1 : k = 2
  · subst h1
    go_enter Tryz.func83, Tryz.ntmps83
    go_wp2
    go_ret
    exact ⟨rfl, rfl⟩
  · have h1' : (k == 2) = false := by simpa using h1
    go_enter Tryz.func83, Tryz.ntmps83
    go_wp2
    go_ret
    exact ⟨ret_bool (by rw [Bool.eq_iff_iff]; simp [pairB, h1]), rfl⟩
theorem hasOther_any (k : Int) (w : World) : Calls Tryz.prog 35 #[.int .i64 k] w fun e w' => e = .returned (.bool (pairB k)) ∧ w = w' := by
  by_cases h1 : k = 2
  · subst h1
    go_enter Tryz.func35, Tryz.ntmps35
    go_wp2
    go_ret
    exact ⟨rfl, rfl⟩
  · have h1' : (k == 2) = false := by simpa using h1
    go_enter Tryz.func35, Tryz.ntmps35
    go_wp2
    go_ret
    exact ⟨ret_bool (by rw [Bool.eq_iff_iff]; simp [pairB, h1]), rfl⟩
theorem value_spec (r : Ru) (w : World) : Calls Tryz.prog 82 #[r.val] w fun e w' => e = .returned (.bool (valueB r.k r.v)) ∧ Below w.heap.size w w' := by
  obtain ⟨k, l, o, v, p⟩ := r
  unfold Ru.val valueB
  dsimp only
  have hb := (Below.refl w.heap.size w).alloc (Nat.le_refl _) (.cells #[.int .i64 k, .int .i64 l, .int .i64 o, .int .i64 v, .int .i64 p] 60)
  by_cases h4 : k = 4
  · subst h4
    rw [if_pos rfl]
    go_enter Tryz.func82, Tryz.ntmps82
    go_wp2_with (go_at_call 81; refine (l16In_any _ _ _ _).mono ?_; rintro e w2 ⟨rfl, rfl⟩)
    go_ret
    exact ⟨rfl, hb⟩
  · rw [if_neg h4]
    have h4' : (k == 4) = false := by simpa using h4
    by_cases h5 : k = 5
    · subst h5
      rw [if_pos rfl]
      go_enter Tryz.func82, Tryz.ntmps82
      go_wp2_with (go_at_call 81; refine (l16In_any _ _ _ _).mono ?_; rintro e w2 ⟨rfl, rfl⟩)
      go_ret
      exact ⟨rfl, hb⟩
    · rw [if_neg h5]
      have h5' : (k == 5) = false := by simpa using h5
      go_enter Tryz.func82, Tryz.ntmps82
      go_wp2_with (go_at_call 81; refine (l16In_any _ _ _ _).mono ?_; rintro e w2 ⟨rfl, rfl⟩)
      go_ret
      exact ⟨rfl, hb⟩

theorem rule_no1 {r : Ru} (h : inB 0 r.k 5 = false) : ruleB r = false := by unfold ruleB; rw [h]; simp
theorem rule_no2 {r : Ru} (h : inB 0 r.l 7 = false) : ruleB r = false := by unfold ruleB; rw [h]; simp
theorem rule_no3 {r : Ru} (h : valueB r.k r.v = false) : ruleB r = false := by unfold ruleB; rw [h]; simp
theorem rule_no4 {r : Ru} (h : otherB r.k r.l r.o = false) : ruleB r = false := by unfold ruleB; rw [h]; simp
theorem rule_rest {r : Ru} (h1 : inB 0 r.k 5 = true) (h2 : inB 0 r.l 7 = true) (h3 : valueB r.k r.v = true) (h4 : otherB r.k r.l r.o = true) : ruleB r = if r.k = 5 then inB 1 r.p 100 else decide (r.p = 0) := by
  unfold ruleB
  rw [h1, h2, h3, h4]
  simp

end Go.Proofs.YtemeegpmdhgocaaGreat

namespace Go.Proofs.YtemeegpmdhgocaaGreat
open Go.RowKit

theorem box5 {w : World} {g : Nat} {t : TypeId} {a b c d e : Value} (h : Bk w g t #[a, b, c, d, e]) : w.cell? ⟨g, 0, none⟩ = some a ∧ w.cell? ⟨g, 1, none⟩ = some b ∧ w.cell? ⟨g, 2, none⟩ = some c ∧ w.cell? ⟨g, 3, none⟩ = some d ∧ w.cell? ⟨g, 4, none⟩ = some e := ⟨h.cell 0, h.cell 1, h.cell 2, h.cell 3, h.cell 4⟩
theorem valueB_4 (v : Int) : valueB 4 v = inB 1 v 6400 := rfl
theorem valueB_5 (v : Int) : valueB 5 v = inB 4 v 40 := rfl
theorem valueB_n {k : Int} (v : Int) (h : k ≠ 4) (h' : k ≠ 5) : valueB k v = inB 1 v 8 := by unfold valueB; rw [if_neg h, if_neg h']

set_option maxHeartbeats 3200000 in
set_option maxRecDepth 100000 in
theorem rule_spec (r : Ru) (w : World) : Calls Tryz.prog 46 #[r.val] w fun e w' => e = .returned (.bool (ruleB r)) ∧ Below w.heap.size w w' := by
  obtain ⟨k, l, o, v, p⟩ := r
  have hb := (Below.refl w.heap.size w).alloc (Nat.le_refl _) (.cells #[.int .i64 k, .int .i64 l, .int .i64 o, .int .i64 v, .int .i64 p] 60)
  have zb := Bk.new w 60 #[.int .i64 k, .int .i64 l, .int .i64 o, .int .i64 v, .int .i64 p]
  cases h1 : inB 0 k 5 with
  | false =>
    rw [rule_no1 h1]
    unfold Ru.val
    dsimp only
    go_enter Tryz.func46, Tryz.ntmps46
    go_wp2_with (first | (go_at_call 81; refine (l16In_any _ _ _ _).mono ?_; rintro e w2 ⟨rfl, rfl⟩) | (go_at_call 83; refine (paired_spec _ _).mono ?_; rintro e w2 ⟨rfl, rfl⟩) | (go_at_call 82; refine (value_spec ⟨k, l, o, v, p⟩ _).mono ?_; rintro e w3 ⟨rfl, hb3⟩; obtain ⟨c0, c1, c2, c3, c4⟩ := box5 (zb.on hb3); have hbq := hb.trans (hb3.mono hb.size)))
    go_ret
    exact ⟨rfl, hb⟩
  | true =>
    cases h2 : inB 0 l 7 with
    | false =>
      rw [rule_no2 h2]
      unfold Ru.val
      dsimp only
      go_enter Tryz.func46, Tryz.ntmps46
      go_wp2_with (first | (go_at_call 81; refine (l16In_any _ _ _ _).mono ?_; rintro e w2 ⟨rfl, rfl⟩) | (go_at_call 83; refine (paired_spec _ _).mono ?_; rintro e w2 ⟨rfl, rfl⟩) | (go_at_call 82; refine (value_spec ⟨k, l, o, v, p⟩ _).mono ?_; rintro e w3 ⟨rfl, hb3⟩; obtain ⟨c0, c1, c2, c3, c4⟩ := box5 (zb.on hb3); have hbq := hb.trans (hb3.mono hb.size)))
      go_ret
      exact ⟨rfl, hb⟩
    | true =>
      cases h3 : valueB k v with
      | false =>
        rw [rule_no3 h3]
        unfold Ru.val
        dsimp only
        go_enter Tryz.func46, Tryz.ntmps46
        go_wp2_with (first | (go_at_call 81; refine (l16In_any _ _ _ _).mono ?_; rintro e w2 ⟨rfl, rfl⟩) | (go_at_call 83; refine (paired_spec _ _).mono ?_; rintro e w2 ⟨rfl, rfl⟩) | (go_at_call 82; refine (value_spec ⟨k, l, o, v, p⟩ _).mono ?_; rintro e w3 ⟨rfl, hb3⟩; obtain ⟨c0, c1, c2, c3, c4⟩ := box5 (zb.on hb3); have hbq := hb.trans (hb3.mono hb.size)))
        go_ret
        exact ⟨rfl, hbq⟩
      | true =>
        cases hp : pairB k with
        | true =>
          cases ho : inB 0 o 7 with
          | false =>
            rw [rule_no4 (show otherB k l o = false by unfold otherB; rw [if_pos hp, ho]; rfl)]
            unfold Ru.val
            dsimp only
            go_enter Tryz.func46, Tryz.ntmps46
            go_wp2_with (first | (go_at_call 81; refine (l16In_any _ _ _ _).mono ?_; rintro e w2 ⟨rfl, rfl⟩) | (go_at_call 83; refine (paired_spec _ _).mono ?_; rintro e w2 ⟨rfl, rfl⟩) | (go_at_call 82; refine (value_spec ⟨k, l, o, v, p⟩ _).mono ?_; rintro e w3 ⟨rfl, hb3⟩; obtain ⟨c0, c1, c2, c3, c4⟩ := box5 (zb.on hb3); have hbq := hb.trans (hb3.mono hb.size)))
            go_ret
            exact ⟨rfl, hbq⟩
          | true =>
            by_cases hol : o = l
            · rw [rule_no4 (show otherB k l o = false by unfold otherB; rw [if_pos hp, ho, hol]; simp)]
              unfold Ru.val
              dsimp only
              have hol' : (o == l) = true := by simpa using hol
              clear hol
              go_enter Tryz.func46, Tryz.ntmps46
              go_wp2_with (first | (go_at_call 81; refine (l16In_any _ _ _ _).mono ?_; rintro e w2 ⟨rfl, rfl⟩) | (go_at_call 83; refine (paired_spec _ _).mono ?_; rintro e w2 ⟨rfl, rfl⟩) | (go_at_call 82; refine (value_spec ⟨k, l, o, v, p⟩ _).mono ?_; rintro e w3 ⟨rfl, hb3⟩; obtain ⟨c0, c1, c2, c3, c4⟩ := box5 (zb.on hb3); have hbq := hb.trans (hb3.mono hb.size)))
              go_ret
              exact ⟨rfl, hbq⟩
            · have h4 : otherB k l o = true := by unfold otherB; rw [if_pos hp, ho]; simpa using hol
              have hol' : (o == l) = false := by simpa using hol
              clear hol
              rw [rule_rest h1 h2 h3 h4]
              clear h4
              unfold Ru.val
              dsimp only
              by_cases h5 : k = 5
              · rw [if_pos h5]
                have h5' : (k == 5) = true := by simpa using h5
                clear h5
                go_enter Tryz.func46, Tryz.ntmps46
                go_wp2_with (first | (go_at_call 81; refine (l16In_any _ _ _ _).mono ?_; rintro e w2 ⟨rfl, rfl⟩) | (go_at_call 83; refine (paired_spec _ _).mono ?_; rintro e w2 ⟨rfl, rfl⟩) | (go_at_call 82; refine (value_spec ⟨k, l, o, v, p⟩ _).mono ?_; rintro e w3 ⟨rfl, hb3⟩; obtain ⟨c0, c1, c2, c3, c4⟩ := box5 (zb.on hb3); have hbq := hb.trans (hb3.mono hb.size)))
                go_ret
                exact ⟨rfl, hbq⟩
              · rw [if_neg h5]
                have h5' : (k == 5) = false := by simpa using h5
                clear h5
                go_enter Tryz.func46, Tryz.ntmps46
                go_wp2_with (first | (go_at_call 81; refine (l16In_any _ _ _ _).mono ?_; rintro e w2 ⟨rfl, rfl⟩) | (go_at_call 83; refine (paired_spec _ _).mono ?_; rintro e w2 ⟨rfl, rfl⟩) | (go_at_call 82; refine (value_spec ⟨k, l, o, v, p⟩ _).mono ?_; rintro e w3 ⟨rfl, hb3⟩; obtain ⟨c0, c1, c2, c3, c4⟩ := box5 (zb.on hb3); have hbq := hb.trans (hb3.mono hb.size)))
                go_ret
                exact ⟨ret_bool (by rw [Bool.eq_iff_iff]; simp), hbq⟩
        | false =>
          by_cases ho : o = 0
          · have h4 : otherB k l o = true := by unfold otherB; rw [if_neg (by rw [hp]; simp)]; simpa using ho
            have ho' : (o != 0) = false := by simpa using ho
            clear ho
            rw [rule_rest h1 h2 h3 h4]
            clear h4
            unfold Ru.val
            dsimp only
            by_cases h5 : k = 5
            · rw [if_pos h5]
              have h5' : (k == 5) = true := by simpa using h5
              clear h5
              go_enter Tryz.func46, Tryz.ntmps46
              go_wp2_with (first | (go_at_call 81; refine (l16In_any _ _ _ _).mono ?_; rintro e w2 ⟨rfl, rfl⟩) | (go_at_call 83; refine (paired_spec _ _).mono ?_; rintro e w2 ⟨rfl, rfl⟩) | (go_at_call 82; refine (value_spec ⟨k, l, o, v, p⟩ _).mono ?_; rintro e w3 ⟨rfl, hb3⟩; obtain ⟨c0, c1, c2, c3, c4⟩ := box5 (zb.on hb3); have hbq := hb.trans (hb3.mono hb.size)))
              go_ret
              exact ⟨rfl, hbq⟩
            · rw [if_neg h5]
              have h5' : (k == 5) = false := by simpa using h5
              clear h5
              go_enter Tryz.func46, Tryz.ntmps46
              go_wp2_with (first | (go_at_call 81; refine (l16In_any _ _ _ _).mono ?_; rintro e w2 ⟨rfl, rfl⟩) | (go_at_call 83; refine (paired_spec _ _).mono ?_; rintro e w2 ⟨rfl, rfl⟩) | (go_at_call 82; refine (value_spec ⟨k, l, o, v, p⟩ _).mono ?_; rintro e w3 ⟨rfl, hb3⟩; obtain ⟨c0, c1, c2, c3, c4⟩ := box5 (zb.on hb3); have hbq := hb.trans (hb3.mono hb.size)))
              go_ret
              exact ⟨ret_bool (by rw [Bool.eq_iff_iff]; simp), hbq⟩
          · rw [rule_no4 (show otherB k l o = false by unfold otherB; rw [if_neg (by rw [hp]; simp)]; simpa using ho)]
            unfold Ru.val
            dsimp only
            have ho' : (o != 0) = true := by simpa using ho
            clear ho
            go_enter Tryz.func46, Tryz.ntmps46
            go_wp2_with (first | (go_at_call 81; refine (l16In_any _ _ _ _).mono ?_; rintro e w2 ⟨rfl, rfl⟩) | (go_at_call 83; refine (paired_spec _ _).mono ?_; rintro e w2 ⟨rfl, rfl⟩) | (go_at_call 82; refine (value_spec ⟨k, l, o, v, p⟩ _).mono ?_; rintro e w3 ⟨rfl, hb3⟩; obtain ⟨c0, c1, c2, c3, c4⟩ := box5 (zb.on hb3); have hbq := hb.trans (hb3.mono hb.size)))
            go_ret
            exact ⟨rfl, hbq⟩
set_option maxHeartbeats 3200000 in
set_option maxRecDepth 100000 in
theorem rule_impl (r : Ru) (w : World) : Calls Tryz.prog 59 #[r.val] w fun e w' => e = .returned (.bool (ruleB r)) ∧ Below w.heap.size w w' := by
  obtain ⟨k, l, o, v, p⟩ := r
  have hb := (Below.refl w.heap.size w).alloc (Nat.le_refl _) (.cells #[.int .i64 k, .int .i64 l, .int .i64 o, .int .i64 v, .int .i64 p] 60)
  have zb := Bk.new w 60 #[.int .i64 k, .int .i64 l, .int .i64 o, .int .i64 v, .int .i64 p]
  cases h1 : inB 0 k 5 with
  | false =>
    rw [rule_no1 h1]
    unfold Ru.val
    dsimp only
    go_enter Tryz.func59, Tryz.ntmps59
    go_wp2_with (first | (go_at_call 61; refine (within_any _ _ _ _).mono ?_; rintro e w2 ⟨rfl, rfl⟩) | (go_at_call 35; refine (hasOther_any _ _).mono ?_; rintro e w2 ⟨rfl, rfl⟩))
    go_ret
    exact ⟨rfl, hb⟩
  | true =>
    cases h2 : inB 0 l 7 with
    | false =>
      rw [rule_no2 h2]
      unfold Ru.val
      dsimp only
      go_enter Tryz.func59, Tryz.ntmps59
      go_wp2_with (first | (go_at_call 61; refine (within_any _ _ _ _).mono ?_; rintro e w2 ⟨rfl, rfl⟩) | (go_at_call 35; refine (hasOther_any _ _).mono ?_; rintro e w2 ⟨rfl, rfl⟩))
      go_ret
      exact ⟨rfl, hb⟩
    | true =>
      cases hp : pairB k with
      | true =>
        cases ho : inB 0 o 7 with
        | false =>
          rw [rule_no4 (show otherB k l o = false by unfold otherB; rw [if_pos hp, ho]; rfl)]
          unfold Ru.val
          dsimp only
          go_enter Tryz.func59, Tryz.ntmps59
          go_wp2_with (first | (go_at_call 61; refine (within_any _ _ _ _).mono ?_; rintro e w2 ⟨rfl, rfl⟩) | (go_at_call 35; refine (hasOther_any _ _).mono ?_; rintro e w2 ⟨rfl, rfl⟩))
          go_ret
          exact ⟨rfl, hb⟩
        | true =>
          by_cases hol : o = l
          · rw [rule_no4 (show otherB k l o = false by unfold otherB; rw [if_pos hp, ho, hol]; simp)]
            unfold Ru.val
            dsimp only
            have hol' : (o == l) = true := by simpa using hol
            clear hol
            go_enter Tryz.func59, Tryz.ntmps59
            go_wp2_with (first | (go_at_call 61; refine (within_any _ _ _ _).mono ?_; rintro e w2 ⟨rfl, rfl⟩) | (go_at_call 35; refine (hasOther_any _ _).mono ?_; rintro e w2 ⟨rfl, rfl⟩))
            go_ret
            exact ⟨rfl, hb⟩
          · have h4 : otherB k l o = true := by unfold otherB; rw [if_pos hp, ho]; simpa using hol
            have hol' : (o == l) = false := by simpa using hol
            clear hol
            by_cases h5 : k = 5
            · subst h5
              cases h3 : inB 4 v 40 with
              | false =>
                rw [rule_no3 (show valueB 5 v = false from h3)]
                unfold Ru.val
                dsimp only
                go_enter Tryz.func59, Tryz.ntmps59
                go_wp2_with (first | (go_at_call 61; refine (within_any _ _ _ _).mono ?_; rintro e w2 ⟨rfl, rfl⟩) | (go_at_call 35; refine (hasOther_any _ _).mono ?_; rintro e w2 ⟨rfl, rfl⟩))
                go_ret
                exact ⟨rfl, hb⟩
              | true =>
                rw [rule_rest h1 h2 (show valueB 5 v = true from h3) h4]
                clear h4
                unfold Ru.val
                dsimp only
                rw [if_pos rfl]
                go_enter Tryz.func59, Tryz.ntmps59
                go_wp2_with (first | (go_at_call 61; refine (within_any _ _ _ _).mono ?_; rintro e w2 ⟨rfl, rfl⟩) | (go_at_call 35; refine (hasOther_any _ _).mono ?_; rintro e w2 ⟨rfl, rfl⟩))
                go_ret
                exact ⟨rfl, hb⟩
            · have h5' : (k == 5) = false := by simpa using h5
              by_cases h44 : k = 4
              · subst h44
                cases h3 : inB 1 v 6400 with
                | false =>
                  rw [rule_no3 (show valueB 4 v = false from h3)]
                  unfold Ru.val
                  dsimp only
                  go_enter Tryz.func59, Tryz.ntmps59
                  go_wp2_with (first | (go_at_call 61; refine (within_any _ _ _ _).mono ?_; rintro e w2 ⟨rfl, rfl⟩) | (go_at_call 35; refine (hasOther_any _ _).mono ?_; rintro e w2 ⟨rfl, rfl⟩))
                  go_ret
                  exact ⟨rfl, hb⟩
                | true =>
                  rw [rule_rest h1 h2 (show valueB 4 v = true from h3) h4]
                  clear h4
                  unfold Ru.val
                  dsimp only
                  rw [if_neg (by decide)]
                  go_enter Tryz.func59, Tryz.ntmps59
                  go_wp2_with (first | (go_at_call 61; refine (within_any _ _ _ _).mono ?_; rintro e w2 ⟨rfl, rfl⟩) | (go_at_call 35; refine (hasOther_any _ _).mono ?_; rintro e w2 ⟨rfl, rfl⟩))
                  go_ret
                  exact ⟨ret_bool (by rw [Bool.eq_iff_iff]; simp), hb⟩
              · have h44' : (k == 4) = false := by simpa using h44
                have hvn := valueB_n v h44 h5
                cases h3 : inB 1 v 8 with
                | false =>
                  rw [rule_no3 (hvn.trans h3)]
                  unfold Ru.val
                  dsimp only
                  clear hvn h4 h5 h44
                  go_enter Tryz.func59, Tryz.ntmps59
                  go_wp2_with (first | (go_at_call 61; refine (within_any _ _ _ _).mono ?_; rintro e w2 ⟨rfl, rfl⟩) | (go_at_call 35; refine (hasOther_any _ _).mono ?_; rintro e w2 ⟨rfl, rfl⟩))
                  go_ret
                  exact ⟨rfl, hb⟩
                | true =>
                  rw [rule_rest h1 h2 (hvn.trans h3) h4, if_neg h5]
                  clear h4 hvn h5 h44
                  unfold Ru.val
                  dsimp only
                  go_enter Tryz.func59, Tryz.ntmps59
                  go_wp2_with (first | (go_at_call 61; refine (within_any _ _ _ _).mono ?_; rintro e w2 ⟨rfl, rfl⟩) | (go_at_call 35; refine (hasOther_any _ _).mono ?_; rintro e w2 ⟨rfl, rfl⟩))
                  go_ret
                  exact ⟨ret_bool (by rw [Bool.eq_iff_iff]; simp), hb⟩
      | false =>
        by_cases ho : o = 0
        · have h4 : otherB k l o = true := by unfold otherB; rw [if_neg (by rw [hp]; simp)]; simpa using ho
          have ho' : (o != 0) = false := by simpa using ho
          clear ho
          by_cases h5 : k = 5
          · subst h5
            cases h3 : inB 4 v 40 with
            | false =>
              rw [rule_no3 (show valueB 5 v = false from h3)]
              unfold Ru.val
              dsimp only
              go_enter Tryz.func59, Tryz.ntmps59
              go_wp2_with (first | (go_at_call 61; refine (within_any _ _ _ _).mono ?_; rintro e w2 ⟨rfl, rfl⟩) | (go_at_call 35; refine (hasOther_any _ _).mono ?_; rintro e w2 ⟨rfl, rfl⟩))
              go_ret
              exact ⟨rfl, hb⟩
            | true =>
              rw [rule_rest h1 h2 (show valueB 5 v = true from h3) h4]
              clear h4
              unfold Ru.val
              dsimp only
              rw [if_pos rfl]
              go_enter Tryz.func59, Tryz.ntmps59
              go_wp2_with (first | (go_at_call 61; refine (within_any _ _ _ _).mono ?_; rintro e w2 ⟨rfl, rfl⟩) | (go_at_call 35; refine (hasOther_any _ _).mono ?_; rintro e w2 ⟨rfl, rfl⟩))
              go_ret
              exact ⟨rfl, hb⟩
          · have h5' : (k == 5) = false := by simpa using h5
            by_cases h44 : k = 4
            · subst h44
              cases h3 : inB 1 v 6400 with
              | false =>
                rw [rule_no3 (show valueB 4 v = false from h3)]
                unfold Ru.val
                dsimp only
                go_enter Tryz.func59, Tryz.ntmps59
                go_wp2_with (first | (go_at_call 61; refine (within_any _ _ _ _).mono ?_; rintro e w2 ⟨rfl, rfl⟩) | (go_at_call 35; refine (hasOther_any _ _).mono ?_; rintro e w2 ⟨rfl, rfl⟩))
                go_ret
                exact ⟨rfl, hb⟩
              | true =>
                rw [rule_rest h1 h2 (show valueB 4 v = true from h3) h4]
                clear h4
                unfold Ru.val
                dsimp only
                rw [if_neg (by decide)]
                go_enter Tryz.func59, Tryz.ntmps59
                go_wp2_with (first | (go_at_call 61; refine (within_any _ _ _ _).mono ?_; rintro e w2 ⟨rfl, rfl⟩) | (go_at_call 35; refine (hasOther_any _ _).mono ?_; rintro e w2 ⟨rfl, rfl⟩))
                go_ret
                exact ⟨ret_bool (by rw [Bool.eq_iff_iff]; simp), hb⟩
            · have h44' : (k == 4) = false := by simpa using h44
              have hvn := valueB_n v h44 h5
              cases h3 : inB 1 v 8 with
              | false =>
                rw [rule_no3 (hvn.trans h3)]
                unfold Ru.val
                dsimp only
                clear hvn h4 h5 h44
                go_enter Tryz.func59, Tryz.ntmps59
                go_wp2_with (first | (go_at_call 61; refine (within_any _ _ _ _).mono ?_; rintro e w2 ⟨rfl, rfl⟩) | (go_at_call 35; refine (hasOther_any _ _).mono ?_; rintro e w2 ⟨rfl, rfl⟩))
                go_ret
                exact ⟨rfl, hb⟩
              | true =>
                rw [rule_rest h1 h2 (hvn.trans h3) h4, if_neg h5]
                clear h4 hvn h5 h44
                unfold Ru.val
                dsimp only
                go_enter Tryz.func59, Tryz.ntmps59
                go_wp2_with (first | (go_at_call 61; refine (within_any _ _ _ _).mono ?_; rintro e w2 ⟨rfl, rfl⟩) | (go_at_call 35; refine (hasOther_any _ _).mono ?_; rintro e w2 ⟨rfl, rfl⟩))
                go_ret
                exact ⟨ret_bool (by rw [Bool.eq_iff_iff]; simp), hb⟩
        · rw [rule_no4 (show otherB k l o = false by unfold otherB; rw [if_neg (by rw [hp]; simp)]; simpa using ho)]
          unfold Ru.val
          dsimp only
          have ho' : (o != 0) = true := by simpa using ho
          clear ho
          go_enter Tryz.func59, Tryz.ntmps59
          go_wp2_with (first | (go_at_call 61; refine (within_any _ _ _ _).mono ?_; rintro e w2 ⟨rfl, rfl⟩) | (go_at_call 35; refine (hasOther_any _ _).mono ?_; rintro e w2 ⟨rfl, rfl⟩))
          go_ret
          exact ⟨rfl, hb⟩

end Go.Proofs.YtemeegpmdhgocaaGreat

namespace Go.Proofs.YtemeegpmdhgocaaGreat
open Go.RowKit Go.ChangeShapes Go.WideShapes Go.Deep Go.Joins

section
variable {H : Type} {enc : TypeId × Value → H} {P : Program} {w : World} {base : Nat} {held : Bool}
/-- A struct of five integers, in cells. -/
theorem five_ints {spare : Nat → Bool} {e fuel : Nat} {f0 f1 f2 f3 f4 : Field} {cs : List Value} {x : DataW H × List MemPlace} (he : P.underlying e = some (.struct #[f0, f1, f2, f3, f4])) (hone : oneCellFields P #[f0, f1, f2, f3, f4] = true)
    (hC : P.cellsOf e = 5) (i0 : P.underlying f0.type = some (.int .i64)) (i1 : P.underlying f1.type = some (.int .i64)) (i2 : P.underlying f2.type = some (.int .i64)) (i3 : P.underlying f3.type = some (.int .i64)) (i4 : P.underlying f4.type = some (.int .i64))
    (h : DataW.trod enc P w base spare held fuel e cs = some x) : ∃ r : Ru, cs = r.vals ∧ r.in64 := by
  obtain ⟨xs, n, _, _, hlen, hxl, hf⟩ := DataW.trod_struct he h
  rw [hC] at hlen
  match cs, hlen with
  | [c0, c1, c2, c3, c4], _ =>
    obtain ⟨o0, k0⟩ := hone_of hone 0 f0 rfl
    obtain ⟨o1, k1⟩ := hone_of hone 1 f1 rfl
    obtain ⟨o2, k2⟩ := hone_of hone 2 f2 rfl
    obtain ⟨o3, k3⟩ := hone_of hone 3 f3 rfl
    obtain ⟨o4, k4⟩ := hone_of hone 4 f4 rfl
    match xs, hxl with
    | [y0, y1, y2, y3, y4], _ =>
      have g0 := hf 0 f0 rfl
      have g1 := hf 1 f1 rfl
      have g2 := hf 2 f2 rfl
      have g3 := hf 3 f3 rfl
      have g4 := hf 4 f4 rfl
      rw [o0, k0] at g0
      rw [o1, k1] at g1
      rw [o2, k2] at g2
      rw [o3, k3] at g3
      rw [o4, k4] at g4
      obtain ⟨a0, e0, _, b0⟩ := DataW.trod_int (x := y0) i0 (by simpa using g0)
      obtain ⟨a1, e1, _, b1⟩ := DataW.trod_int (x := y1) i1 (by simpa using g1)
      obtain ⟨a2, e2, _, b2⟩ := DataW.trod_int (x := y2) i2 (by simpa using g2)
      obtain ⟨a3, e3, _, b3⟩ := DataW.trod_int (x := y3) i3 (by simpa using g3)
      obtain ⟨a4, e4, _, b4⟩ := DataW.trod_int (x := y4) i4 (by simpa using g4)
      simp only [List.cons.injEq, and_true] at e0 e1 e2 e3 e4
      subst e0 e1 e2 e3 e4
      exact ⟨⟨a0, a1, a2, a3, a4⟩, rfl, bounds_i64 b0, bounds_i64 b1, bounds_i64 b2, bounds_i64 b3, bounds_i64 b4⟩
/-- A struct of five integers by value. -/
theorem open_five {spare : Nat → Bool} {r : Go.Reach} {b0 e : Nat} {f0 f1 f2 f3 f4 : Field} {v : Value} {d : DataW H} {p : List MemPlace} (he : P.underlying e = some (.struct #[f0, f1, f2, f3, f4])) (hone : oneCellFields P #[f0, f1, f2, f3, f4] = true)
    (hC : P.cellsOf e = 5) (i0 : P.underlying f0.type = some (.int .i64)) (i1 : P.underlying f1.type = some (.int .i64)) (i2 : P.underlying f2.type = some (.int .i64)) (i3 : P.underlying f3.type = some (.int .i64)) (i4 : P.underlying f4.type = some (.int .i64))
    (hv : Value.okWide P w r b0 e v) (h : DataW.Trod enc P w base spare held e v d p) : ∃ r : Ru, v = r.val ∧ r.in64 := by
  obtain ⟨cs, rfl, _⟩ := okWide_struct he hv
  obtain ⟨fuel, hf⟩ := h
  obtain ⟨q, hq, h64⟩ := five_ints he hone hC i0 i1 i2 i3 i4 hf
  refine ⟨q, ?_, h64⟩
  have : cs = q.vals.toArray := by
    apply Array.ext'
    simpa [Value.cells] using hq
  rw [this]
  rfl
end

/-- toRule. -/
theorem toRule_any (k l o v p : Int) (w : World) : Calls Tryz.prog 55 #[.agg #[.int .i64 k, .int .i64 l, .int .i64 o, .int .i64 v, .int .i64 p]] w fun e w' => e = .returned (.agg #[.int .i64 k, .int .i64 l, .int .i64 o, .int .i64 v, .int .i64 p]) ∧ Below w.heap.size w w' := by
  go_enter Tryz.func55, Tryz.ntmps55
  go_wp2
  refine bodyPost_ret (v := .agg #[.int .i64 k, .int .i64 l, .int .i64 o, .int .i64 v, .int .i64 p]) (by simp [results, Tryz.results55, go_sem]) rfl ⟨rfl, ?_⟩
  exact ((((Below.refl _ _).alloc (Nat.le_refl _) _).alloc (by simp) _).alloc (by simp; omega) _)

end Go.Proofs.YtemeegpmdhgocaaGreat
