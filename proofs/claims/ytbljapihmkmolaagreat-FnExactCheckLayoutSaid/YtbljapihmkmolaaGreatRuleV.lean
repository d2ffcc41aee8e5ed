/- Contracts: IsValidRule of the reference and of the program. No conditions. -/
import Derived.Test.YtbljapihmkmolaaGreatRule
namespace Go.Proofs.YtbljapihmkmolaaGreat
open Go.RowKit

theorem box5 {w : World} {g : Nat} {t : TypeId} {a b c d e : Value} (h : Bk w g t #[a, b, c, d, e]) : w.cell? ⟨g, 0, none⟩ = some a ∧ w.cell? ⟨g, 1, none⟩ = some b ∧ w.cell? ⟨g, 2, none⟩ = some c ∧ w.cell? ⟨g, 3, none⟩ = some d ∧ w.cell? ⟨g, 4, none⟩ = some e := ⟨h.cell 0, h.cell 1, h.cell 2, h.cell 3, h.cell 4⟩
theorem valueB_4 (v : Int) : valueB 4 v = inB 1 v 6400 := rfl
theorem valueB_5 (v : Int) : valueB 5 v = inB 4 v 40 := rfl
theorem valueB_n {k : Int} (v : Int) (h : k ≠ 4) (h' : k ≠ 5) : valueB k v = inB 1 v 8 := by unfold valueB; rw [if_neg h, if_neg h']

set_option maxHeartbeats 3200000 in
set_option maxRecDepth 100000 in
theorem rule_spec (r : Ru) (w : World) : Calls Tryz.prog 51 #[r.val] w fun e w' => e = .returned (.bool (ruleB r)) ∧ Below w.heap.size w w' := by
  obtain ⟨k, l, o, v, p⟩ := r
  have hb := (Below.refl w.heap.size w).alloc (Nat.le_refl _) (.cells #[.int .i64 k, .int .i64 l, .int .i64 o, .int .i64 v, .int .i64 p] 30)
  have zb := Bk.new w 30 #[.int .i64 k, .int .i64 l, .int .i64 o, .int .i64 v, .int .i64 p]
  cases h1 : inB 0 k 5 with
  | false =>
    rw [rule_no1 h1]
    unfold Ru.val
    dsimp only
    go_enter Tryz.func51, Tryz.ntmps51
    go_wp2_with (first | (go_at_call 99; refine (l16In_any _ _ _ _).mono ?_; rintro e w2 ⟨rfl, rfl⟩) | (go_at_call 101; refine (paired_spec _ _).mono ?_; rintro e w2 ⟨rfl, rfl⟩) | (go_at_call 100; refine (value_spec ⟨k, l, o, v, p⟩ _).mono ?_; rintro e w3 ⟨rfl, hb3⟩; obtain ⟨c0, c1, c2, c3, c4⟩ := box5 (zb.on hb3); have hbq := hb.trans (hb3.mono hb.size)))
    go_ret
    exact ⟨rfl, hb⟩
  | true =>
    cases h2 : inB 0 l 7 with
    | false =>
      rw [rule_no2 h2]
      unfold Ru.val
      dsimp only
      go_enter Tryz.func51, Tryz.ntmps51
      go_wp2_with (first | (go_at_call 99; refine (l16In_any _ _ _ _).mono ?_; rintro e w2 ⟨rfl, rfl⟩) | (go_at_call 101; refine (paired_spec _ _).mono ?_; rintro e w2 ⟨rfl, rfl⟩) | (go_at_call 100; refine (value_spec ⟨k, l, o, v, p⟩ _).mono ?_; rintro e w3 ⟨rfl, hb3⟩; obtain ⟨c0, c1, c2, c3, c4⟩ := box5 (zb.on hb3); have hbq := hb.trans (hb3.mono hb.size)))
      go_ret
      exact ⟨rfl, hb⟩
    | true =>
      cases h3 : valueB k v with
      | false =>
        rw [rule_no3 h3]
        unfold Ru.val
        dsimp only
        go_enter Tryz.func51, Tryz.ntmps51
        go_wp2_with (first | (go_at_call 99; refine (l16In_any _ _ _ _).mono ?_; rintro e w2 ⟨rfl, rfl⟩) | (go_at_call 101; refine (paired_spec _ _).mono ?_; rintro e w2 ⟨rfl, rfl⟩) | (go_at_call 100; refine (value_spec ⟨k, l, o, v, p⟩ _).mono ?_; rintro e w3 ⟨rfl, hb3⟩; obtain ⟨c0, c1, c2, c3, c4⟩ := box5 (zb.on hb3); have hbq := hb.trans (hb3.mono hb.size)))
        go_ret
        exact ⟨rfl, hbq⟩
      | true =>
        cases hp : pairB k with
        | true =>
          cases ho : inB 0 o 7 with
          | false =>
            rw [rule_no4 (show otherB k l o = false by unfold otherB; rw [if_pos hp, ho]; rfl)]
            unfold Ru.val
            dsimp only
            go_enter Tryz.func51, Tryz.ntmps51
            go_wp2_with (first | (go_at_call 99; refine (l16In_any _ _ _ _).mono ?_; rintro e w2 ⟨rfl, rfl⟩) | (go_at_call 101; refine (paired_spec _ _).mono ?_; rintro e w2 ⟨rfl, rfl⟩) | (go_at_call 100; refine (value_spec ⟨k, l, o, v, p⟩ _).mono ?_; rintro e w3 ⟨rfl, hb3⟩; obtain ⟨c0, c1, c2, c3, c4⟩ := box5 (zb.on hb3); have hbq := hb.trans (hb3.mono hb.size)))
            go_ret
            exact ⟨rfl, hbq⟩
          | true =>
            by_cases hol : o = l
            · rw [rule_no4 (show otherB k l o = false by unfold otherB; rw [if_pos hp, ho, hol]; simp)]
              unfold Ru.val
              dsimp only
              have hol' : (o == l) = true := by simpa using hol
              clear hol
              go_enter Tryz.func51, Tryz.ntmps51
              go_wp2_with (first | (go_at_call 99; refine (l16In_any _ _ _ _).mono ?_; rintro e w2 ⟨rfl, rfl⟩) | (go_at_call 101; refine (paired_spec _ _).mono ?_; rintro e w2 ⟨rfl, rfl⟩) | (go_at_call 100; refine (value_spec ⟨k, l, o, v, p⟩ _).mono ?_; rintro e w3 ⟨rfl, hb3⟩; obtain ⟨c0, c1, c2, c3, c4⟩ := box5 (zb.on hb3); have hbq := hb.trans (hb3.mono hb.size)))
              go_ret
              exact ⟨rfl, hbq⟩
            · have h4 : otherB k l o = true := by unfold otherB; rw [if_pos hp, ho]; simpa using hol
              have hol' : (o == l) = false := by simpa using hol
              clear hol
              rw [rule_rest h1 h2 h3 h4]
              clear h4
              unfold Ru.val
              dsimp only
              by_cases h5 : k = 5
              · rw [if_pos h5]
                have h5' : (k == 5) = true := by simpa using h5
                clear h5
                go_enter Tryz.func51, Tryz.ntmps51
                go_wp2_with (first | (go_at_call 99; refine (l16In_any _ _ _ _).mono ?_; rintro e w2 ⟨rfl, rfl⟩) | (go_at_call 101; refine (paired_spec _ _).mono ?_; rintro e w2 ⟨rfl, rfl⟩) | (go_at_call 100; refine (value_spec ⟨k, l, o, v, p⟩ _).mono ?_; rintro e w3 ⟨rfl, hb3⟩; obtain ⟨c0, c1, c2, c3, c4⟩ := box5 (zb.on hb3); have hbq := hb.trans (hb3.mono hb.size)))
                go_ret
                exact ⟨rfl, hbq⟩
              · rw [if_neg h5]
                have h5' : (k == 5) = false := by simpa using h5
                clear h5
                go_enter Tryz.func51, Tryz.ntmps51
                go_wp2_with (first | (go_at_call 99; refine (l16In_any _ _ _ _).mono ?_; rintro e w2 ⟨rfl, rfl⟩) | (go_at_call 101; refine (paired_spec _ _).mono ?_; rintro e w2 ⟨rfl, rfl⟩) | (go_at_call 100; refine (value_spec ⟨k, l, o, v, p⟩ _).mono ?_; rintro e w3 ⟨rfl, hb3⟩; obtain ⟨c0, c1, c2, c3, c4⟩ := box5 (zb.on hb3); have hbq := hb.trans (hb3.mono hb.size)))
                go_ret
                exact ⟨ret_bool (by rw [Bool.eq_iff_iff]; simp), hbq⟩
        | false =>
          by_cases ho : o = 0
          · have h4 : otherB k l o = true := by unfold otherB; rw [if_neg (by rw [hp]; simp)]; simpa using ho
            have ho' : (o != 0) = false := by simpa using ho
            clear ho
            rw [rule_rest h1 h2 h3 h4]
            clear h4
            unfold Ru.val
            dsimp only
            by_cases h5 : k = 5
            · rw [if_pos h5]
              have h5' : (k == 5) = true := by simpa using h5
              clear h5
              go_enter Tryz.func51, Tryz.ntmps51
              go_wp2_with (first | (go_at_call 99; refine (l16In_any _ _ _ _).mono ?_; rintro e w2 ⟨rfl, rfl⟩) | (go_at_call 101; refine (paired_spec _ _).mono ?_; rintro e w2 ⟨rfl, rfl⟩) | (go_at_call 100; refine (value_spec ⟨k, l, o, v, p⟩ _).mono ?_; rintro e w3 ⟨rfl, hb3⟩; obtain ⟨c0, c1, c2, c3, c4⟩ := box5 (zb.on hb3); have hbq := hb.trans (hb3.mono hb.size)))
              go_ret
              exact ⟨rfl, hbq⟩
            · rw [if_neg h5]
              have h5' : (k == 5) = false := by simpa using h5
              clear h5
              go_enter Tryz.func51, Tryz.ntmps51
              go_wp2_with (first | (go_at_call 99; refine (l16In_any _ _ _ _).mono ?_; rintro e w2 ⟨rfl, rfl⟩) | (go_at_call 101; refine (paired_spec _ _).mono ?_; rintro e w2 ⟨rfl, rfl⟩) | (go_at_call 100; refine (value_spec ⟨k, l, o, v, p⟩ _).mono ?_; rintro e w3 ⟨rfl, hb3⟩; obtain ⟨c0, c1, c2, c3, c4⟩ := box5 (zb.on hb3); have hbq := hb.trans (hb3.mono hb.size)))
              go_ret
              exact ⟨ret_bool (by rw [Bool.eq_iff_iff]; simp), hbq⟩
          · rw [rule_no4 (show otherB k l o = false by unfold otherB; rw [if_neg (by rw [hp]; simp)]; simpa using ho)]
            unfold Ru.val
            dsimp only
            have ho' : (o != 0) = true := by simpa using ho
            clear ho
            go_enter Tryz.func51, Tryz.ntmps51
            go_wp2_with (first | (go_at_call 99; refine (l16In_any _ _ _ _).mono ?_; rintro e w2 ⟨rfl, rfl⟩) | (go_at_call 101; refine (paired_spec _ _).mono ?_; rintro e w2 ⟨rfl, rfl⟩) | (go_at_call 100; refine (value_spec ⟨k, l, o, v, p⟩ _).mono ?_; rintro e w3 ⟨rfl, hb3⟩; obtain ⟨c0, c1, c2, c3, c4⟩ := box5 (zb.on hb3); have hbq := hb.trans (hb3.mono hb.size)))
            go_ret
            exact ⟨rfl, hbq⟩
set_option maxHeartbeats 3200000 in
set_option maxRecDepth 100000 in
theorem rule_impl (r : Ru) (w : World) : Calls Tryz.prog 60 #[r.val] w fun e w' => e = .returned (.bool (ruleB r)) ∧ Below w.heap.size w w' := by
  obtain ⟨k, l, o, v, p⟩ := r
  have hb := (Below.refl w.heap.size w).alloc (Nat.le_refl _) (.cells #[.int .i64 k, .int .i64 l, .int .i64 o, .int .i64 v, .int .i64 p] 30)
  have zb := Bk.new w 30 #[.int .i64 k, .int .i64 l, .int .i64 o, .int .i64 v, .int .i64 p]
  cases h1 : inB 0 k 5 with
  | false =>
    rw [rule_no1 h1]
    unfold Ru.val
    dsimp only
    go_enter Tryz.func60, Tryz.ntmps60
    go_wp2_with (first | (go_at_call 119; refine (within_any _ _ _ _).mono ?_; rintro e w2 ⟨rfl, rfl⟩) | (go_at_call 120; refine (hasOther_any _ _).mono ?_; rintro e w2 ⟨rfl, rfl⟩))
    go_ret
    exact ⟨rfl, hb⟩
  | true =>
    cases h2 : inB 0 l 7 with
    | false =>
      rw [rule_no2 h2]
      unfold Ru.val
      dsimp only
      go_enter Tryz.func60, Tryz.ntmps60
      go_wp2_with (first | (go_at_call 119; refine (within_any _ _ _ _).mono ?_; rintro e w2 ⟨rfl, rfl⟩) | (go_at_call 120; refine (hasOther_any _ _).mono ?_; rintro e w2 ⟨rfl, rfl⟩))
      go_ret
      exact ⟨rfl, hb⟩
    | true =>
      cases hp : pairB k with
      | true =>
        cases ho : inB 0 o 7 with
        | false =>
          rw [rule_no4 (show otherB k l o = false by unfold otherB; rw [if_pos hp, ho]; rfl)]
          unfold Ru.val
          dsimp only
          go_enter Tryz.func60, Tryz.ntmps60
          go_wp2_with (first | (go_at_call 119; refine (within_any _ _ _ _).mono ?_; rintro e w2 ⟨rfl, rfl⟩) | (go_at_call 120; refine (hasOther_any _ _).mono ?_; rintro e w2 ⟨rfl, rfl⟩))
          go_ret
          exact ⟨rfl, hb⟩
        | true =>
          by_cases hol : o = l
          · rw [rule_no4 (show otherB k l o = false by unfold otherB; rw [if_pos hp, ho, hol]; simp)]
            unfold Ru.val
            dsimp only
            have hol' : (o == l) = true := by simpa using hol
            clear hol
            go_enter Tryz.func60, Tryz.ntmps60
            go_wp2_with (first | (go_at_call 119; refine (within_any _ _ _ _).mono ?_; rintro e w2 ⟨rfl, rfl⟩) | (go_at_call 120; refine (hasOther_any _ _).mono ?_; rintro e w2 ⟨rfl, rfl⟩))
            go_ret
            exact ⟨rfl, hb⟩
          · have h4 : otherB k l o = true := by unfold otherB; rw [if_pos hp, ho]; simpa using hol
            have hol' : (o == l) = false := by simpa using hol
            clear hol
            by_cases h5 : k = 5
            · subst h5
              cases h3 : inB 4 v 40 with
              | false =>
                rw [rule_no3 (show valueB 5 v = false from h3)]
                unfold Ru.val
                dsimp only
                go_enter Tryz.func60, Tryz.ntmps60
                go_wp2_with (first | (go_at_call 119; refine (within_any _ _ _ _).mono ?_; rintro e w2 ⟨rfl, rfl⟩) | (go_at_call 120; refine (hasOther_any _ _).mono ?_; rintro e w2 ⟨rfl, rfl⟩))
                go_ret
                exact ⟨rfl, hb⟩
              | true =>
                rw [rule_rest h1 h2 (show valueB 5 v = true from h3) h4]
                clear h4
                unfold Ru.val
                dsimp only
                rw [if_pos rfl]
                go_enter Tryz.func60, Tryz.ntmps60
                go_wp2_with (first | (go_at_call 119; refine (within_any _ _ _ _).mono ?_; rintro e w2 ⟨rfl, rfl⟩) | (go_at_call 120; refine (hasOther_any _ _).mono ?_; rintro e w2 ⟨rfl, rfl⟩))
                go_ret
                exact ⟨rfl, hb⟩
            · have h5' : (k == 5) = false := by simpa using h5
              by_cases h44 : k = 4
              · subst h44
                cases h3 : inB 1 v 6400 with
                | false =>
                  rw [rule_no3 (show valueB 4 v = false from h3)]
                  unfold Ru.val
                  dsimp only
                  go_enter Tryz.func60, Tryz.ntmps60
                  go_wp2_with (first | (go_at_call 119; refine (within_any _ _ _ _).mono ?_; rintro e w2 ⟨rfl, rfl⟩) | (go_at_call 120; refine (hasOther_any _ _).mono ?_; rintro e w2 ⟨rfl, rfl⟩))
                  go_ret
                  exact ⟨rfl, hb⟩
                | true =>
                  rw [rule_rest h1 h2 (show valueB 4 v = true from h3) h4]
                  clear h4
                  unfold Ru.val
                  dsimp only
                  rw [if_neg (by decide)]
                  go_enter Tryz.func60, Tryz.ntmps60
                  go_wp2_with (first | (go_at_call 119; refine (within_any _ _ _ _).mono ?_; rintro e w2 ⟨rfl, rfl⟩) | (go_at_call 120; refine (hasOther_any _ _).mono ?_; rintro e w2 ⟨rfl, rfl⟩))
                  go_ret
                  exact ⟨ret_bool (by rw [Bool.eq_iff_iff]; simp), hb⟩
              · have h44' : (k == 4) = false := by simpa using h44
                have hvn := valueB_n v h44 h5
                cases h3 : inB 1 v 8 with
                | false =>
                  rw [rule_no3 (hvn.trans h3)]
                  unfold Ru.val
                  dsimp only
                  clear hvn h4 h5 h44
                  go_enter Tryz.func60, Tryz.ntmps60
                  go_wp2_with (first | (go_at_call 119; refine (within_any _ _ _ _).mono ?_; rintro e w2 ⟨rfl, rfl⟩) | (go_at_call 120; refine (hasOther_any _ _).mono ?_; rintro e w2 ⟨rfl, rfl⟩))
                  go_ret
                  exact ⟨rfl, hb⟩
                | true =>
                  rw [rule_rest h1 h2 (hvn.trans h3) h4, if_neg h5]
                  clear h4 hvn h5 h44
                  unfold Ru.val
                  dsimp only
                  go_enter Tryz.func60, Tryz.ntmps60
                  go_wp2_with (first | (go_at_call 119; refine (within_any _ _ _ _).mono ?_; rintro e w2 ⟨rfl, rfl⟩) | (go_at_call 120; refine (hasOther_any _ _).mono ?_; rintro e w2 ⟨rfl, rfl⟩))
                  go_ret
                  exact ⟨ret_bool (by rw [Bool.eq_iff_iff]; simp), hb⟩
      | false =>
        by_cases ho : o = 0
        · have h4 : otherB k l o = true := by unfold otherB; rw [if_neg (by rw [hp]; simp)]; simpa using ho
          have ho' : (o != 0) = false := by simpa using ho
          clear ho
          by_cases h5 : k = 5
          · subst h5
            cases h3 : inB 4 v 40 with
            | false =>
              rw [rule_no3 (show valueB 5 v = false from h3)]
              unfold Ru.val
              dsimp only
              go_enter Tryz.func60, Tryz.ntmps60
              go_wp2_with (first | (go_at_call 119; refine (within_any _ _ _ _).mono ?_; rintro e w2 ⟨rfl, rfl⟩) | (go_at_call 120; refine (hasOther_any _ _).mono ?_; rintro e w2 ⟨rfl, rfl⟩))
              go_ret
              exact ⟨rfl, hb⟩
            | true =>
              rw [rule_rest h1 h2 (show valueB 5 v = true from h3) h4]
              clear h4
              unfold Ru.val
              dsimp only
              rw [if_pos rfl]
              go_enter Tryz.func60, Tryz.ntmps60
              go_wp2_with (first | (go_at_call 119; refine (within_any _ _ _ _).mono ?_; rintro e w2 ⟨rfl, rfl⟩) | (go_at_call 120; refine (hasOther_any _ _).mono ?_; rintro e w2 ⟨rfl, rfl⟩))
              go_ret
              exact ⟨rfl, hb⟩
          · have h5' : (k == 5) = false := by simpa using h5
            by_cases h44 : k = 4
            · subst h44
              cases h3 : inB 1 v 6400 with
              | false =>
                rw [rule_no3 (show valueB 4 v = false from h3)]
                unfold Ru.val
                dsimp only
                go_enter Tryz.func60, Tryz.ntmps60
                go_wp2_with (first | (go_at_call 119; refine (within_any _ _ _ _).mono ?_; rintro e w2 ⟨rfl, rfl⟩) | (go_at_call 120; refine (hasOther_any _ _).mono ?_; rintro e w2 ⟨rfl, rfl⟩))
                go_ret
                exact ⟨rfl, hb⟩
              | true =>
                rw [rule_rest h1 h2 (show valueB 4 v = true from h3) h4]
                clear h4
                unfold Ru.val
                dsimp only
                rw [if_neg (by decide)]
                go_enter Tryz.func60, Tryz.ntmps60
                go_wp2_with (first | (go_at_call 119; refine (within_any _ _ _ _).mono ?_; rintro e w2 ⟨rfl, rfl⟩) | (go_at_call 120; refine (hasOther_any _ _).mono ?_; rintro e w2 ⟨rfl, rfl⟩))
                go_ret
                exact ⟨ret_bool (by rw [Bool.eq_iff_iff]; simp), hb⟩
            · have h44' : (k == 4) = false := by simpa using h44
              have hvn := valueB_n v h44 h5
              cases h3 : inB 1 v 8 with
              | false =>
                rw [rule_no3 (hvn.trans h3)]
                unfold Ru.val
                dsimp only
                clear hvn h4 h5 h44
                go_enter Tryz.func60, Tryz.ntmps60
                go_wp2_with (first | (go_at_call 119; refine (within_any _ _ _ _).mono ?_; rintro e w2 ⟨rfl, rfl⟩) | (go_at_call 120; refine (hasOther_any _ _).mono ?_; rintro e w2 ⟨rfl, rfl⟩))
                go_ret
                exact ⟨rfl, hb⟩
              | true =>
                rw [rule_rest h1 h2 (hvn.trans h3) h4, if_neg h5]
                clear h4 hvn h5 h44
                unfold Ru.val
                dsimp only
                go_enter Tryz.func60, Tryz.ntmps60
                go_wp2_with (first | (go_at_call 119; refine (within_any _ _ _ _).mono ?_; rintro e w2 ⟨rfl, rfl⟩) | (go_at_call 120; refine (hasOther_any _ _).mono ?_; rintro e w2 ⟨rfl, rfl⟩))
                go_ret
                exact ⟨ret_bool (by rw [Bool.eq_iff_iff]; simp), hb⟩
        · rw [rule_no4 (show otherB k l o = false by unfold otherB; rw [if_neg (by rw [hp]; simp)]; simpa using ho)]
          unfold Ru.val
          dsimp only
          have ho' : (o != 0) = true := by simpa using ho
          clear ho
          go_enter Tryz.func60, Tryz.ntmps60
          go_wp2_with (first | (go_at_call 119; refine (within_any _ _ _ _).mono ?_; rintro e w2 ⟨rfl, rfl⟩) | (go_at_call 120; refine (hasOther_any _ _).mono ?_; rintro e w2 ⟨rfl, rfl⟩))
          go_ret
          exact ⟨rfl, hb⟩

end Go.Proofs.YtbljapihmkmolaaGreat
