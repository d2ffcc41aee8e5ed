/- Contracts: the rules that the laws draw (l16DrawRule). Condition: a well-formed source. -/
import Derived.Test.YtbljapihmkmolaaGreatDrawQ
namespace Go.Proofs.YtbljapihmkmolaaGreat
open Go.RowKit

/-- A rule under way: the result's cell, the rule's box, the source. -/
structure RuSt (w w' : World) (g bx : Nat) (k l o v p : Int) : Prop where
  res : Bk w' w.heap.size 30 #[.int .i64 0, .int .i64 0, .int .i64 0, .int .i64 0, .int .i64 0]
  box : Bk w' bx 30 #[.int .i64 k, .int .i64 l, .int .i64 o, .int .i64 v, .int .i64 p]
  dice : Dice w' g
  only : w.grownBy w' (some g)
  hg : g < w.heap.size
  hb : w.heap.size < bx
section
variable {w w' w2 : World} {g bx : Nat} {k l o v p : Int}
theorem RuSt.next (h : RuSt w w' g bx k l o v p) (hD : Dice w2 g) (hG : w'.grownBy w2 (some g)) : RuSt w w2 g bx k l o v p :=
  ⟨h.res.grown hG (by have := h.hg; simp; omega), h.box.grown hG (by have := h.hg; have := h.hb; simp; omega), hD, only_trans h.only hG, h.hg, h.hb⟩
theorem RuSt.on (h : RuSt w w' g bx k l o v p) (hb : Below w'.heap.size w' w2) : RuSt w w2 g bx k l o v p :=
  ⟨h.res.on hb, h.box.on hb, h.dice.on hb, only_below h.only hb, h.hg, h.hb⟩
theorem RuSt.drew (h : RuSt w w' g bx k l o v p) : RuSt w w'.drew g bx k l o v p := h.on (Below.refl _ _).drew
theorem RuSt.alloc (h : RuSt w w' g bx k l o v p) (ob : Obj) : RuSt w (w'.alloc ob) g bx k l o v p := h.on ((Below.refl _ _).alloc (Nat.le_refl _) ob)
theorem RuSt.putK (h : RuSt w w' g bx k l o v p) (x : Int) : RuSt w (w'.setCell ⟨bx, 0, none⟩ (.int .i64 x)) g bx x l o v p :=
  ⟨h.res.other (p := ⟨bx, 0, none⟩) (Nat.ne_of_lt h.hb) _, h.box.store 0 _, h.dice.other (p := ⟨bx, 0, none⟩) (Nat.lt_trans h.hg h.hb) _, only_above h.only ((Below.refl w.heap.size w').setCell (p := ⟨bx, 0, none⟩) (Nat.le_of_lt h.hb) _), h.hg, h.hb⟩
theorem RuSt.putL (h : RuSt w w' g bx k l o v p) (x : Int) : RuSt w (w'.setCell ⟨bx, 1, none⟩ (.int .i64 x)) g bx k x o v p :=
  ⟨h.res.other (p := ⟨bx, 1, none⟩) (Nat.ne_of_lt h.hb) _, h.box.store 1 _, h.dice.other (p := ⟨bx, 1, none⟩) (Nat.lt_trans h.hg h.hb) _, only_above h.only ((Below.refl w.heap.size w').setCell (p := ⟨bx, 1, none⟩) (Nat.le_of_lt h.hb) _), h.hg, h.hb⟩
theorem RuSt.putO (h : RuSt w w' g bx k l o v p) (x : Int) : RuSt w (w'.setCell ⟨bx, 2, none⟩ (.int .i64 x)) g bx k l x v p :=
  ⟨h.res.other (p := ⟨bx, 2, none⟩) (Nat.ne_of_lt h.hb) _, h.box.store 2 _, h.dice.other (p := ⟨bx, 2, none⟩) (Nat.lt_trans h.hg h.hb) _, only_above h.only ((Below.refl w.heap.size w').setCell (p := ⟨bx, 2, none⟩) (Nat.le_of_lt h.hb) _), h.hg, h.hb⟩
theorem RuSt.putV (h : RuSt w w' g bx k l o v p) (x : Int) : RuSt w (w'.setCell ⟨bx, 3, none⟩ (.int .i64 x)) g bx k l o x p :=
  ⟨h.res.other (p := ⟨bx, 3, none⟩) (Nat.ne_of_lt h.hb) _, h.box.store 3 _, h.dice.other (p := ⟨bx, 3, none⟩) (Nat.lt_trans h.hg h.hb) _, only_above h.only ((Below.refl w.heap.size w').setCell (p := ⟨bx, 3, none⟩) (Nat.le_of_lt h.hb) _), h.hg, h.hb⟩
theorem RuSt.putP (h : RuSt w w' g bx k l o v p) (x : Int) : RuSt w (w'.setCell ⟨bx, 4, none⟩ (.int .i64 x)) g bx k l o v x :=
  ⟨h.res.other (p := ⟨bx, 4, none⟩) (Nat.ne_of_lt h.hb) _, h.box.store 4 _, h.dice.other (p := ⟨bx, 4, none⟩) (Nat.lt_trans h.hg h.hb) _, only_above h.only ((Below.refl w.heap.size w').setCell (p := ⟨bx, 4, none⟩) (Nat.le_of_lt h.hb) _), h.hg, h.hb⟩
end
abbrev valsA : Array Value := #[.int .i64 0, .int .i64 9, .int .i64 40, .int .i64 41, .int .i64 6400, .int .i64 6401, .int .i64 3]
abbrev pctsA : Array Value := #[.int .i64 0, .int .i64 1, .int .i64 100, .int .i64 101, .int .i64 (-1)]
theorem vals_get (k : Nat) (h : k < 7) : ∃ x : Int, valsA[k]? = some (.int .i64 x) := by
  have hk : k = 0 ∨ k = 1 ∨ k = 2 ∨ k = 3 ∨ k = 4 ∨ k = 5 ∨ k = 6 := by omega
  rcases hk with rfl | rfl | rfl | rfl | rfl | rfl | rfl <;> exact ⟨_, rfl⟩
theorem pcts_get (k : Nat) (h : k < 5) : ∃ x : Int, pctsA[k]? = some (.int .i64 x) := by
  have hk : k = 0 ∨ k = 1 ∨ k = 2 ∨ k = 3 ∨ k = 4 := by omega
  rcases hk with rfl | rfl | rfl | rfl | rfl <;> exact ⟨_, rfl⟩

set_option maxHeartbeats 3200000 in
set_option maxRecDepth 100000 in
/-- l16DrawRule. -/
theorem drawRule_any (g : Nat) (w : World) (hD : Dice w g) : Calls Tryz.prog 83 #[.pointer (some ⟨g, 0, none⟩)] w fun e w' => ∃ r : Ru, e = .returned r.val ∧ Dice w' g ∧ w.grownBy w' (some g) := by
  have hg := hD.lt
  have z0 := Bk.new w 30 #[.int .i64 0, .int .i64 0, .int .i64 0, .int .i64 0, .int .i64 0]
  have hD0 := hD.alloc (.cells #[.int .i64 0, .int .i64 0, .int .i64 0, .int .i64 0, .int .i64 0] 30)
  have hA0 := only_alloc (only_refl w (some g)) (.cells #[.int .i64 0, .int .i64 0, .int .i64 0, .int .i64 0, .int .i64 0] 30)
  clear hD
  unfold Ru.val
  go_enter Tryz.func83, Tryz.ntmps83
  go_wp2_with fail
  refine (next_any g 6 _ hD0 (by omega)).mono ?_
  rintro e w1 ⟨k1, rfl, hk1, hD1, hG1⟩
  go_wp2_with fail
  refine (next_any g 8 _ hD1 (by omega)).mono ?_
  rintro e w2 ⟨l1, rfl, hl1, hD2, hG2⟩
  have hA2 := only_trans hA0 (only_trans hG1 hG2)
  have z2 := (z0.grown hG1 (show some w.heap.size ≠ some g by simp; omega)).grown hG2 (show some w.heap.size ≠ some g by simp; omega)
  have S3 : RuSt w (w2.alloc (.cells #[.int .i64 k1, .int .i64 l1, .int .i64 0, .int .i64 0, .int .i64 0] 30)) g w2.heap.size k1 l1 0 0 0 := ⟨z2.alloc _, Bk.new _ _ _, hD2.alloc _, only_alloc hA2 _, hg, z2.lt⟩
  clear z0 z2 hD0 hA0 hD1 hG1 hD2 hG2 hA2
  go_wp2_with fail
  refine (next_any g 8 _ S3.dice (by omega)).mono ?_
  rintro e w4 ⟨v1, rfl, hv1, hD4, hG4⟩
  have S4 := S3.next hD4 hG4
  have ev := Go.IntWalk.i64_in (1 + v1) (by omega)
  have S5 := S4.putV (1 + v1)
  have f3 := S4.box.frozen 3
  have c3 := (box5 S4.box).2.2.2.1
  have c0 := (box5 S5.box).1
  clear S3 S4 hD4 hG4
  go_wp2_with fail
  refine (paired_spec k1 _).mono ?_
  rintro e w5 ⟨rfl, rfl⟩
  generalize pairB k1 = pb
  clear f3 c3 c0
  go_upto_if 15 with fail
  go_cut [] from 4 to 78 (fun wx => ∃ x : Int, RuSt w wx g w2.heap.size k1 l1 x (1 + v1) 0)
  case first =>
    cases pb with
    | false =>
      go_wp2_with fail
      go_meet
      exact ⟨_, S5⟩
    | true =>
      have ea := Go.IntWalk.i64_in (l1 + 1) (by omega)
      have S6 := S5.drew
      have c1 := (box5 S6.box).2.1
      go_wp2_with fail
      go_region_held3 (fun w' => w'.cell? ⟨w2.heap.size, 1, none⟩ = some (.int .i64 l1)) (first | with_reducible exact c1 | with_reducible exact (box5 S7.box).2.1 | exact (box5 (S7.putO _).box).2.1)
        (first | (go_at_call 133; refine (next_any g 7 _ S6.dice (by omega)).mono ?_; rintro e w7 ⟨x, rfl, hx, hD7, hG7⟩; have S7 := S6.next hD7 hG7; have f2 := S7.box.frozen 2; have d2 := (box5 S7.box).2.2.1; have ex := Go.IntWalk.i64_in (l1 + 1 + x) (by omega)))
      all_goals
        go_wp2_with fail
        go_meet
        exact ⟨_, S7.putO _⟩
  obtain ⟨o1, S6⟩ := hcut
  obtain ⟨w6, rfl⟩ : ∃ W : World, W = wc := ⟨_, rfl⟩
  clear S5
  have c0 := (box5 S6.box).1
  go_upto_block 0 with fail
  go_cut [] from 4 to 78 (fun wx => ∃ x y : Int, RuSt w wx g w2.heap.size k1 l1 o1 x y)
  case first =>
    clear c0
    by_cases h4 : k1 = 4
    · subst h4
      go_wp2_with fail
      refine (next_any g 60 _ S6.dice (by omega)).mono ?_
      rintro e w7 ⟨x, rfl, hx, hD7, hG7⟩
      have ex := Go.IntWalk.i64_in (1 + x) (by omega)
      have S7 := S6.next hD7 hG7
      have f3 := S7.box.frozen 3
      have d3 := (box5 S7.box).2.2.2.1
      clear S6 hD7 hG7
      go_wp2_with fail
      go_meet
      exact ⟨_, _, S7.putV _⟩
    · have b4 : (k1 == 4) = false := by simpa using h4
      by_cases h5 : k1 = 5
      · subst h5
        go_wp2_with fail
        refine (next_any g 37 _ S6.dice (by omega)).mono ?_
        rintro e w7 ⟨x, rfl, hx, hD7, hG7⟩
        have ex := Go.IntWalk.i64_in (4 + x) (by omega)
        have S7 := S6.next hD7 hG7
        have f3 := S7.box.frozen 3
        have d3 := (box5 S7.box).2.2.2.1
        have S8 := S7.putV (4 + x)
        clear S6 S7 hD7 hG7
        go_wp2_with fail
        refine (next_any g 100 _ S8.dice (by omega)).mono ?_
        rintro e w9 ⟨y, rfl, hy, hD9, hG9⟩
        have ey := Go.IntWalk.i64_in (1 + y) (by omega)
        have S9 := S8.next hD9 hG9
        have f4 := S9.box.frozen 4
        have d4 := (box5 S9.box).2.2.2.2
        clear S8 hD9 hG9 f3 d3
        go_wp2_with fail
        go_meet
        exact ⟨_, _, S9.putP _⟩
      · have b5 : (k1 == 5) = false := by simpa using h5
        go_wp2_with fail
        go_meet
        exact ⟨_, _, S6⟩
  obtain ⟨v7, p7, S7⟩ := hcut
  obtain ⟨w7, rfl⟩ : ∃ W : World, W = wc := ⟨_, rfl⟩
  clear S6 c0
  go_wp2_with fail
  refine (next_any g 30 _ S7.dice (by omega)).mono ?_
  rintro e w8 ⟨q, rfl, hq, hD8, hG8⟩
  have S8 := S7.next hD8 hG8
  clear S7 hD8 hG8
  go_upto_block 1 with fail
  go_cut [] from 4 to 78 (fun wx => ∃ a b c d e : Int, RuSt w wx g w2.heap.size a b c d e)
  case first =>
    by_cases h0 : q = 0
    · subst h0
      go_wp2_with fail
      refine (next_any g 9 _ S8.dice (by omega)).mono ?_
      rintro e w9 ⟨x, rfl, hx, hD9, hG9⟩
      have ex := Go.IntWalk.i64_in (x - 1) (by omega)
      have S9 := S8.next hD9 hG9
      have f3 := S9.box.frozen 0
      have d3 := (box5 S9.box).1
      clear S8 hD9 hG9
      go_wp2_with fail
      go_meet
      exact ⟨_, _, _, _, _, S9.putK _⟩
    · have b0 : (q == 0) = false := by simpa using h0
      by_cases h1 : q = 1
      · subst h1
        go_wp2_with fail
        refine (next_any g 11 _ S8.dice (by omega)).mono ?_
        rintro e w9 ⟨x, rfl, hx, hD9, hG9⟩
        have ex := Go.IntWalk.i64_in (x - 1) (by omega)
        have S9 := S8.next hD9 hG9
        have f3 := S9.box.frozen 1
        have d3 := (box5 S9.box).2.1
        clear S8 hD9 hG9
        go_wp2_with fail
        go_meet
        exact ⟨_, _, _, _, _, S9.putL _⟩
      · have b1 : (q == 1) = false := by simpa using h1
        by_cases h2 : q = 2
        · subst h2
          go_wp2_with fail
          refine (next_any g 11 _ S8.dice (by omega)).mono ?_
          rintro e w9 ⟨x, rfl, hx, hD9, hG9⟩
          have ex := Go.IntWalk.i64_in (x - 1) (by omega)
          have S9 := S8.next hD9 hG9
          have f3 := S9.box.frozen 2
          have d3 := (box5 S9.box).2.2.1
          clear S8 hD9 hG9
          go_wp2_with fail
          go_meet
          exact ⟨_, _, _, _, _, S9.putO _⟩
        · have b2 : (q == 2) = false := by simpa using h2
          by_cases h3 : q = 3
          · subst h3
            have S9 := S8.alloc (.cells valsA 2)
            have zA := Bk.new w8 2 valsA
            have ha := S9.dice.lt
            have hlt8 := S8.dice.lt
            clear S8
            go_wp2_with fail
            refine (next_any g 7 _ S9.dice (by omega)).mono ?_
            rintro e wA ⟨x, rfl, hx, hDA, hGA⟩
            obtain ⟨m, rfl⟩ : ∃ m : Nat, x = m := ⟨x.toNat, by omega⟩
            obtain ⟨y, hy⟩ := vals_get m (by omega)
            have cA := ((zA.grown hGA (show some w8.heap.size ≠ some g by simp; omega)).cell m).trans hy
            have hi0 : (0 : Int) ≤ (m : Int) ∧ (m : Int) < 7 := by omega
            have SA := S9.next hDA hGA
            have f3 := SA.box.frozen 3
            have d3 := (box5 SA.box).2.2.2.1
            clear S9 zA hDA hGA hy hx
            go_wp2_with fail
            go_meet
            exact ⟨_, _, _, _, _, SA.putV _⟩
          · have b3 : (q == 3) = false := by simpa using h3
            by_cases h4 : q = 4
            · subst h4
              have S9 := S8.alloc (.cells pctsA 2)
              have zA := Bk.new w8 2 pctsA
              have ha := S9.dice.lt
              have hlt8 := S8.dice.lt
              clear S8
              go_wp2_with fail
              refine (next_any g 5 _ S9.dice (by omega)).mono ?_
              rintro e wA ⟨x, rfl, hx, hDA, hGA⟩
              obtain ⟨m, rfl⟩ : ∃ m : Nat, x = m := ⟨x.toNat, by omega⟩
              obtain ⟨y, hy⟩ := pcts_get m (by omega)
              have cA := ((zA.grown hGA (show some w8.heap.size ≠ some g by simp; omega)).cell m).trans hy
              have hi0 : (0 : Int) ≤ (m : Int) ∧ (m : Int) < 5 := by omega
              have SA := S9.next hDA hGA
              have f3 := SA.box.frozen 4
              have d3 := (box5 SA.box).2.2.2.2
              clear S9 zA hDA hGA hy hx
              go_wp2_with fail
              go_meet
              exact ⟨_, _, _, _, _, SA.putP _⟩
            · have b4 : (q == 4) = false := by simpa using h4
              go_wp2_with fail
              go_meet
              exact ⟨_, _, _, _, _, S8⟩
  obtain ⟨a, b, c, d, e, SZ⟩ := hcut
  obtain ⟨wz, rfl⟩ : ∃ W : World, W = wc := ⟨_, rfl⟩
  clear S8
  obtain ⟨c0, c1, c2, c3, c4⟩ := box5 SZ.box
  obtain ⟨d0, d1, d2, d3, d4⟩ := box5 SZ.res
  have f0 := SZ.res.frozen 0
  have f1 := SZ.res.frozen 1
  have f2 := SZ.res.frozen 2
  have f3 := SZ.res.frozen 3
  have f4 := SZ.res.frozen 4
  go_wp2
  refine bodyPost_ret (v := .agg #[.int .i64 a, .int .i64 b, .int .i64 c, .int .i64 d, .int .i64 e]) (by simp [results, Tryz.results83, go_sem, *]) rfl ?_
  refine ⟨⟨a, b, c, d, e⟩, rfl, ?_, ?_⟩
  · exact ((((SZ.dice.other (p := ⟨w.heap.size, 0, none⟩) hg _).other (p := ⟨w.heap.size, 1, none⟩) hg _).other (p := ⟨w.heap.size, 2, none⟩) hg _).other (p := ⟨w.heap.size, 3, none⟩) hg _).other (p := ⟨w.heap.size, 4, none⟩) hg _
  · exact only_above SZ.only ((((((Below.refl w.heap.size _).setCell (p := ⟨w.heap.size, 0, none⟩) (Nat.le_refl _) _).setCell (p := ⟨w.heap.size, 1, none⟩) (Nat.le_refl _) _).setCell (p := ⟨w.heap.size, 2, none⟩) (Nat.le_refl _) _).setCell (p := ⟨w.heap.size, 3, none⟩) (Nat.le_refl _) _).setCell (p := ⟨w.heap.size, 4, none⟩) (Nat.le_refl _) _)

end Go.Proofs.YtbljapihmkmolaaGreat
