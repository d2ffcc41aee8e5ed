/- Contracts: the decks that the laws draw, spoilt or not; DrawCheckLayout. Condition: a well-formed source. -/
import Derived.Test.YtbljapihmkmolaaGreatDrawL
import Derived.Deep.CutBlock
namespace Go.Proofs.YtbljapihmkmolaaGreat
open Go.RowKit

theorem QL.keptG {w w' : World} {g B : Nat} {v : Value} {qs : List Ru} (h : QL w B v qs) (hg : w.grownBy w' (some g)) (hB : g < B) : QL w' B v qs := by
  refine World.ownsRow.kept h hg ?_
  cases hv : v.ownBlock with
  | none => exact .inl rfl
  | some q =>
    right
    intro he
    rw [Option.some.injEq] at he
    have := (own_lt h q hv).1
    omega
/-- A deck under way: the result's cell, the deck's box, its rules. -/
structure DeckSt (w : World) (b : Nat) (rv : Value) (qs : List Ru) : Prop where
  res : Bk w b 44 #[.slice none 0 0]
  box : Bk w (b + 1) 44 #[rv]
  rules : QL w (b + 2) rv qs
section
variable {w w' : World} {b g : Nat} {rv : Value} {qs : List Ru}
theorem DeckSt.keptG (h : DeckSt w b rv qs) (hg : w.grownBy w' (some g)) (hb : g < b) : DeckSt w' b rv qs :=
  ⟨h.res.grown hg (by simp; omega), h.box.grown hg (by simp; omega), h.rules.keptG hg (by omega)⟩
theorem DeckSt.on (h : DeckSt w b rv qs) (hb : Below w.heap.size w w') : DeckSt w' b rv qs := ⟨h.res.on hb, h.box.on hb, h.rules.on hb⟩
theorem DeckSt.other (h : DeckSt w b rv qs) {p : Addr} (hb : b + 1 < p.block) (hr : rv.ownBlock ≠ some p.block) (x : Value) : DeckSt (w.setCell p x) b rv qs :=
  ⟨h.res.other (show b ≠ p.block by omega) x, h.box.other (show b + 1 ≠ p.block by omega) x, own_other h.rules hr x⟩
theorem DeckSt.put (h : DeckSt w b rv qs) (hb : Below (b + 2) w w') {u : Value} {ps : List Ru} (hq : QL w' (b + 2) u ps) : DeckSt (w'.setCell ⟨b + 1, 0, none⟩ u) b u ps :=
  ⟨(h.res.below hb (by omega)).other (p := ⟨b + 1, 0, none⟩) (show b ≠ b + 1 by omega) u, (h.box.below hb (by omega)).store 0 u, own_other hq (fun e => absurd (QL.lt hq (b + 1) e).1 (by omega)) u⟩
theorem DeckSt.alloc (h : DeckSt w b rv qs) (o : Obj) : DeckSt (w.alloc o) b rv qs := h.on ((Below.refl _ _).alloc (Nat.le_refl _) o)
end

set_option maxHeartbeats 400000 in
/-- l20Paired. -/
theorem paired20_any (r : Ru) (w : World) : Calls Tryz.prog 135 #[r.val] w fun e w' => e = .returned (.bool (pairB r.k)) ∧ Below w.heap.size w w' := by
  obtain ⟨k, l, o, v, p⟩ := r
  have z := Bk.new w 30 #[.int .i64 k, .int .i64 l, .int .i64 o, .int .i64 v, .int .i64 p]
  have hb := (Below.refl w.heap.size w).alloc (Nat.le_refl _) (.cells #[.int .i64 k, .int .i64 l, .int .i64 o, .int .i64 v, .int .i64 p] 30)
  have c := (box5 z).1
  clear z
  unfold Ru.val pairB
  dsimp only
  by_cases h2 : k = 2
  · subst h2
    go_enter Tryz.func135, Tryz.ntmps135
    go_wp2
    go_ret
    exact ⟨rfl, hb⟩
  · have b2 : (k == 2) = false := by simpa using h2
    by_cases h3 : k = 3
    · subst h3
      go_enter Tryz.func135, Tryz.ntmps135
      go_wp2
      go_ret
      exact ⟨rfl, hb⟩
    · have b3 : (k == 3) = false := by simpa using h3
      rw [decide_eq_false (by omega)]
      go_enter Tryz.func135, Tryz.ntmps135
      go_wp2
      go_ret
      exact ⟨rfl, hb⟩

set_option maxHeartbeats 3200000 in
set_option maxRecDepth 100000 in
/-- l20DrawDeck. -/
theorem drawDeck_any (g bL : Nat) (us : List Value) (rss : List (List Rc)) (w : World) (hD : Dice w g) (hX : LW w (g + 1) (.slice (some ⟨bL, 0, none⟩) 8 8) us rss) (h8 : rss.length = 8) (hl : ∀ rs ∈ rss, rs.length ≤ 7000 ∧ okAll rs = true) :
    Calls Tryz.prog 76 #[.pointer (some ⟨g, 0, none⟩), .slice (some ⟨bL, 0, none⟩) 8 8] w fun e w' => ∃ (u : Value) (qs : List Ru), e = .returned (.agg #[u]) ∧ QL w' w.heap.size u qs ∧ (1 ≤ qs.length ∧ qs.length ≤ 5) ∧ Dice w' g ∧ w.grownBy w' (some g) := by
  have hg := hD.lt
  have hL := Lib.hid hl
  have z0 := Bk.new w 44 #[.slice none 0 0]
  have z1 := Bk.new (w.alloc (.cells #[.slice none 0 0] 44)) 44 #[.slice none 0 0]
  have es : (w.alloc (.cells #[.slice none 0 0] 44)).heap.size = w.heap.size + 1 := by simp
  rw [es] at z1
  have t0 : DeckSt ((w.alloc (.cells #[.slice none 0 0] 44)).alloc (.cells #[.slice none 0 0] 44)) w.heap.size (.slice none 0 0) [] := ⟨z0.alloc _, z1, QL.nil _ _⟩
  have hD0 := (hD.alloc (.cells #[.slice none 0 0] 44)).alloc (.cells #[.slice none 0 0] 44)
  have hA0 := only_alloc (only_alloc (only_refl w (some g)) (.cells #[.slice none 0 0] 44)) (.cells #[.slice none 0 0] 44)
  clear z0 z1 es hl hD
  go_enter Tryz.func76, Tryz.ntmps76
  go_wp2_with fail
  refine (next_any g 4 _ hD0 (by omega)).mono ?_
  rintro e w1 ⟨k, rfl, hk, hD1, hG1⟩
  have ek := Go.IntWalk.i64_in (k + 1) (by omega)
  have t1 := t0.keptG hG1 hg
  have hA1 := only_trans hA0 hG1
  clear hD0 t0 hA0 hG1
  go_wp2
  go_loopw [6] (fun nv wr => ∃ (k : Int) (rv : Value) (qs : List Ru), 0 ≤ k ∧ (qs.length : Int) + k ≤ 4 ∧ (k = 0 → 1 ≤ qs.length) ∧ nv = .int .i64 k ∧ DeckSt wr w.heap.size rv qs ∧ Dice wr g ∧ w.grownBy wr (some g)) (fun nv _ => (intOf nv).toNat)
  case atStart => exact ⟨k + 1, _, [], by omega, by simp; omega, by omega, rfl, t1, hD1, hA1⟩
  case round =>
    obtain ⟨k, rv, qs, h0, h4, hk1, rfl, hT, hDr, hGr⟩ := hrel
    clear hD1 hA1 t1 hk ek
    by_cases hk : k > 0
    · have ek := Go.IntWalk.i64_in (k - 1) (by omega)
      go_wp2_with fail
      refine (next_any g 8 _ hDr (by omega)).mono ?_
      rintro e w3 ⟨j, rfl, hj, hD3, hG3⟩
      have hT3 := hT.keptG hG3 hg
      have hA3 := only_trans hGr hG3
      clear hT hDr hGr hG3
      obtain ⟨m0, rfl⟩ : ∃ m : Nat, j = m := ⟨j.toNat, by omega⟩
      go_upto_block 2 with fail
      go_cut [7, 8] from 14 to 78 (fun lv kv wx => ∃ a : Int, lv = .int .i64 a ∧ (0 ≤ a ∧ a < 8) ∧ DeckSt wx w.heap.size rv qs ∧ Dice wx g ∧ w.grownBy wx (some g))
      case first =>
        go_wp2_with fail
        go_loopw [7, 8] (fun lv kv wi => ∃ m b : Nat, m < 8 ∧ b ≤ 8 ∧ lv = .int .i64 m ∧ kv = .int .i64 b ∧ DeckSt wi w.heap.size rv qs ∧ Dice wi g ∧ w.grownBy wi (some g)) (fun _ kv _ => 8 - (intOf kv).toNat)
        case atStart => exact ⟨m0, 0, by omega, by omega, rfl, rfl, hT3, hD3, hA3⟩
        case round =>
          obtain ⟨m, b, hm, hb8, rfl, rfl, hTi, hDi, hAi⟩ := hrel
          clear hT3 hD3 hA3 hj
          by_cases hlt : b < 8
          · have hltz : (b : Int) < 8 := by omega
            have hXi := hX.keptG (only_trans (only_refl w (some g)) hAi) (Nat.lt_succ_self g)
            have hm8 : m < rss.length := by omega
            obtain ⟨g0, y, hA0, hy, -, d1, d0, hR⟩ := LW.elem hXi (List.getElem?_eq_getElem hm8)
            cases hA0
            obtain ⟨Ay, cy, rfl, -, -, -⟩ := hR.form
            have hi8 : (0 : Int) ≤ (m : Int) ∧ (m : Int) < 8 := by omega
            have hn7 := (hL.out _ (List.getElem_mem hm8)).1
            generalize rss[m].length = n at *
            clear hR hy hXi
            by_cases hn0 : n = 0
            · subst hn0
              go_wp2_with fail
              refine (next_any g 6 _ hDi (by omega)).mono ?_
              rintro e w4 ⟨q, rfl, hq, hD4, hG4⟩
              have hT4 := hTi.keptG hG4 hg
              have hA4 := only_trans hAi hG4
              clear hTi hDi hAi hG4
              by_cases hq0 : q = 0
              · subst hq0
                go_wp2
                go_meet
                exact ⟨_, rfl, by omega, hT4, hD4, hA4⟩
              · have hqb : (q != 0) = true := by simpa using hq0
                have e1 := Go.IntWalk.i64_in ((m : Int) + 1) (by omega)
                have hr : ((m : Int) + 1) % 8 = (((m + 1) % 8 : Nat) : Int) := by omega
                have hm2 : (m + 1) % 8 < 8 := Nat.mod_lt _ (by omega)
                go_wp2
                exact ⟨⟨(m + 1) % 8, b + 1, hm2, by omega, by first | rfl | go_num | (rw [← hr]; go_num), by go_num, hT4, hD4, hA4⟩, by simp [intOf]; omega⟩
            · have hnb : ((n : Int) == 0) = false := by simpa using hn0
              go_wp2
              go_meet
              exact ⟨_, rfl, by omega, hTi, hDi, hAi⟩
          · go_wp2
            go_meet
            exact ⟨_, rfl, by omega, hTi, hDi, hAi⟩
      obtain ⟨a, rfl, ha, hT4, hD4, hA4⟩ := hcut
      obtain ⟨w4, rfl⟩ : ∃ W : World, W = wc := ⟨_, rfl⟩
      clear hT3 hD3 hA3
      go_wp2_with fail
      refine (next_any g 5 _ hD4 (by omega)).mono ?_
      rintro e w5 ⟨k5, rfl, hk5, hD5, hG5⟩
      have hT5 := hT4.keptG hG5 hg
      have hA5 := only_trans hA4 hG5
      clear hT4 hD4 hA4 hG5
      go_wp2_with fail
      refine (next_any g 4 _ hD5 (by omega)).mono ?_
      rintro e w6 ⟨k6, rfl, hk6, hD6, hG6⟩
      have hT6 := hT5.keptG hG6 hg
      have hA6 := only_trans hA5 hG6
      clear hT5 hD5 hA5 hG6
      have e6 := Go.IntWalk.i64_in (k6 + 1) (by omega)
      have zr := Bk.new w6 30 #[.int .i64 k5, .int .i64 a, .int .i64 0, .int .i64 (k6 + 1), .int .i64 0]
      have hT7 := hT6.alloc (.cells #[.int .i64 k5, .int .i64 a, .int .i64 0, .int .i64 (k6 + 1), .int .i64 0] 30)
      have hD7 := hD6.alloc (.cells #[.int .i64 k5, .int .i64 a, .int .i64 0, .int .i64 (k6 + 1), .int .i64 0] 30)
      have hA7 := only_alloc hA6 (.cells #[.int .i64 k5, .int .i64 a, .int .i64 0, .int .i64 (k6 + 1), .int .i64 0] 30)
      have hs6 := hA6.size
      have hl6 := hT6.box.lt
      have Hne : Hid (rv.ownBlock ≠ some w6.heap.size) := Lib.hid (fun e => by have := (hT6.rules.lt _ e).2; omega)
      clear hT6 hD6 hA6
      obtain ⟨c0, c1, c2, c3, c4⟩ := box5 zr
      go_wp2_with fail
      refine (paired20_any ⟨k5, a, 0, k6 + 1, 0⟩ _).mono ?_
      rintro e w7 ⟨rfl, hb7⟩
      replace zr := zr.on hb7
      replace hT7 := hT7.on hb7
      replace hD7 := hD7.on hb7
      replace hA7 := only_below hA7 hb7
      clear c0 c1 c2 c3 c4 hb7
      dsimp only
      generalize pairB k5 = pb
      go_upto_if 53 with fail
      go_cut [] from 14 to 78 (fun wx => ∃ x : Int, Bk wx w6.heap.size 30 #[.int .i64 k5, .int .i64 a, .int .i64 x, .int .i64 (k6 + 1), .int .i64 0] ∧ DeckSt wx w.heap.size rv qs ∧ Dice wx g ∧ w.grownBy wx (some g))
      case first =>
        cases pb with
        | false =>
          go_wp2_with fail
          go_meet
          exact ⟨_, zr, hT7, hD7, hA7⟩
        | true =>
          have ea := Go.IntWalk.i64_in (a + 1) (by omega)
          go_wp2_with fail
          refine (next_any g 7 _ hD7 (by omega)).mono ?_
          rintro e w8 ⟨x, rfl, hx, hD8, hG8⟩
          have ex := Go.IntWalk.i64_in (a + 1 + x) (by omega)
          have zr8 := zr.grown hG8 (show some w6.heap.size ≠ some g by simp; omega)
          have f2 := zr8.frozen 2
          obtain ⟨c0, c1, c2, c3, c4⟩ := box5 zr8
          have hT8 := hT7.keptG hG8 hg
          have hA8 := only_trans hA7 hG8
          clear zr hT7 hD7 hA7 hG8
          have hlg : w.heap.size + 1 < w6.heap.size := by omega
          go_wp2_with fail
          go_meet
          exact ⟨_, zr8.store 2 _, hT8.other (p := ⟨w6.heap.size, 2, none⟩) hlg Hne.out _, hD8.other (p := ⟨w6.heap.size, 2, none⟩) (by show g < w6.heap.size; omega) _, only_above hA8 ((Below.refl w.heap.size w8).setCell (p := ⟨w6.heap.size, 2, none⟩) hs6 _)⟩
      obtain ⟨x, zr8, hT8, hD8, hA8⟩ := hcut
      obtain ⟨w8, rfl⟩ : ∃ W : World, W = wc := ⟨_, rfl⟩
      clear zr hT7 hD7 hA7
      obtain ⟨c0, c1, c2, c3, c4⟩ := box5 zr8
      go_upto_if 63 with fail
      go_cut [] from 14 to 78 (fun wx => ∃ y : Int, Bk wx w6.heap.size 30 #[.int .i64 k5, .int .i64 a, .int .i64 x, .int .i64 y, .int .i64 0] ∧ DeckSt wx w.heap.size rv qs ∧ Dice wx g ∧ w.grownBy wx (some g))
      case first =>
        clear c0 c1 c2 c3 c4
        by_cases h4 : k5 = 4
        · subst h4
          go_wp2_with fail
          refine (next_any g 30 _ hD8 (by omega)).mono ?_
          rintro e w9 ⟨y, rfl, hy, hD9, hG9⟩
          have ey := Go.IntWalk.i64_in (y + 1) (by omega)
          have zr9 := zr8.grown hG9 (show some w6.heap.size ≠ some g by simp; omega)
          have f3 := zr9.frozen 3
          obtain ⟨c0, c1, c2, c3, c4⟩ := box5 zr9
          have hT9 := hT8.keptG hG9 hg
          have hA9 := only_trans hA8 hG9
          clear zr8 hT8 hD8 hA8 hG9
          have hlg : w.heap.size + 1 < w6.heap.size := by omega
          go_wp2_with fail
          go_meet
          exact ⟨_, zr9.store 3 _, hT9.other (p := ⟨w6.heap.size, 3, none⟩) hlg Hne.out _, hD9.other (p := ⟨w6.heap.size, 3, none⟩) (by show g < w6.heap.size; omega) _, only_above hA9 ((Below.refl w.heap.size w9).setCell (p := ⟨w6.heap.size, 3, none⟩) hs6 _)⟩
        · have b4 : (k5 == 4) = false := by simpa using h4
          go_wp2_with fail
          go_meet
          exact ⟨_, zr8, hT8, hD8, hA8⟩
      obtain ⟨y, zr9, hT9, hD9, hA9⟩ := hcut
      obtain ⟨w9, rfl⟩ : ∃ W : World, W = wc := ⟨_, rfl⟩
      clear c0 c1 c2 c3 c4 zr8 hT8 hD8 hA8
      obtain ⟨c0, c1, c2, c3, c4⟩ := box5 zr9
      have d1 := box1 hT9.box
      have hR9 := hT9.rules
      obtain ⟨Ar, cr, rfl, hcr, hmr⟩ := hR9.form
      have hq9 : qs.length ≤ 1000000000 := by omega
      go_wp2_with fail
      refine (l16Has_any Ar _ cr qs ⟨k5, a, x, y, 0⟩ _ hR9.arg hq9).mono ?_
      rintro e wA ⟨rfl, hbA⟩
      replace zr9 := zr9.on hbA
      replace hT9 := hT9.on hbA
      replace hD9 := hD9.on hbA
      replace hA9 := only_below hA9 hbA
      clear c0 c1 c2 c3 c4 d1 hR9 hbA
      have Hne1 : Hid (hasQ qs ⟨k5, a, x, y, 0⟩ = true → 1 ≤ qs.length) := Lib.hid (fun h => by
        cases qs with
        | nil => simp [hasQ] at h
        | cons a b => simp)
      cases hhas : hasQ qs ⟨k5, a, x, y, 0⟩ with
      | true =>
        have Hn := Lib.hid (Hne1.out hhas)
        clear hhas
        go_wp2
        exact ⟨⟨k - 1, _, _, by omega, by omega, fun _ => Hn.out, rfl, hT9, hD9, hA9⟩, by simp [intOf]; omega⟩
      | false =>
        clear hhas
        obtain ⟨c0, c1, c2, c3, c4⟩ := box5 zr9
        have d1 := box1 hT9.box
        have hR9 := hT9.rules
        have hlen : qs.length ≤ 1000000 := by omega
        have hsA : w.heap.size + 2 ≤ wA.heap.size := by have := hT9.box.lt; omega
        go_wp2_with (at_builtin; refine wpList_append_Q rfl (.tmp 74) (.tmp 76) rfl (w.heap.size + 2) _ qs rfl hR9 _ _ _ _ _ rfl hlen hsA ?_; intro v' wB p1 p2 p3; obtain ⟨Av, cv, hv', -, -⟩ := p1.form; rw [List.length_append, List.length_singleton] at hv'; subst hv'; have f1 := (hT9.box.below p3 (by omega)).frozen 0; have d2 := box1 (hT9.box.below p3 (by omega)); have hT := hT9.put p3 p1; have hDB := hD9.below p3 (by omega))
        exact ⟨⟨k - 1, _, _, by omega, by simp; omega, fun _ => by simp, rfl, hT, hDB.other (p := ⟨w.heap.size + 1, 0, none⟩) (by show g < w.heap.size + 1; omega) _, only_above (only_above hA9 (p3.mono (by omega))) ((Below.refl w.heap.size wB).setCell (p := ⟨w.heap.size + 1, 0, none⟩) (by show w.heap.size ≤ w.heap.size + 1; omega) _)⟩, by simp [intOf]; omega⟩
    · go_wp2_with fail
      refine (next_any g 10 _ hDr (by omega)).mono ?_
      rintro e w3 ⟨j, rfl, hj, hD3, hG3⟩
      have hT3 := hT.keptG hG3 hg
      have hA3 := only_trans hGr hG3
      obtain ⟨Ar, cr, rfl, hcr, hmr⟩ := hT3.rules.form
      clear hT hDr hGr hG3
      have hk0 : k = 0 := by omega
      have hq1 := hk1 hk0
      clear hk1 hk0
      by_cases hj0 : j = 0
      · subst hj0
        have d1 := box1 hT3.box
        have hR3 := hT3.rules
        have hlen : qs.length ≤ 1000000 := by omega
        have hs3 : w.heap.size + 2 ≤ w3.heap.size := by have := hT3.box.lt; omega
        go_wp2_with (at_builtin; (refine wpList_append_Q rfl (.tmp 83) (.tmp 85) rfl (w.heap.size + 2) _ qs rfl hR3 _ _ _ _ _ rfl hlen hs3 ?_; intro v' wB p1 p2 p3; obtain ⟨Av, cv, hv', -, -⟩ := p1.form; rw [List.length_append, List.length_singleton] at hv'; subst hv'; have f1 := (hT3.box.below p3 (by omega)).frozen 0; have d2 := box1 (hT3.box.below p3 (by omega)); have hT := hT3.put p3 p1; have hDB := (hD3.below p3 (by omega)).other (p := ⟨w.heap.size + 1, 0, none⟩) (show g < w.heap.size + 1 by omega) (.slice Av (qs.length + 1) cv); have hAB := only_above (only_above hA3 (p3.mono (Nat.le_add_right w.heap.size 2))) ((Below.refl w.heap.size wB).setCell (p := ⟨w.heap.size + 1, 0, none⟩) (show w.heap.size ≤ w.heap.size + 1 by omega) (.slice Av (qs.length + 1) cv)); have q0 := hT.res.frozen 0; have q1 := box1 hT.res; have q2 := box1 hT.box))
        refine bodyPost_ret (v := .agg #[.slice Av (qs.length + 1) cv]) (by simp [results, Tryz.results76, go_sem, *]) rfl ?_
        exact ⟨_, _, rfl, own_other (hT.rules.less (by omega)) (fun e => absurd (QL.lt hT.rules _ e).1 (by show ¬ (w.heap.size + 2 ≤ w.heap.size); omega)) _, by simp; omega, hDB.other (p := ⟨w.heap.size, 0, none⟩) hg _, only_above hAB ((Below.refl w.heap.size _).setCell (p := ⟨w.heap.size, 0, none⟩) (Nat.le_refl _) _)⟩
      · have b0 : (j == 0) = false := by simpa using hj0
        have q0 := hT3.res.frozen 0
        have q1 := box1 hT3.res
        have q2 := box1 hT3.box
        go_wp2
        refine bodyPost_ret (v := .agg #[.slice Ar qs.length cr]) (by simp [results, Tryz.results76, go_sem, *]) rfl ?_
        exact ⟨_, _, rfl, own_other (hT3.rules.less (by omega)) (fun e => absurd (QL.lt hT3.rules _ e).1 (by show ¬ (w.heap.size + 2 ≤ w.heap.size); omega)) _, ⟨hq1, by omega⟩, hD3.other (p := ⟨w.heap.size, 0, none⟩) hg _, only_above hA3 ((Below.refl w.heap.size w3).setCell (p := ⟨w.heap.size, 0, none⟩) (Nat.le_refl _) _)⟩

end Go.Proofs.YtbljapihmkmolaaGreat
