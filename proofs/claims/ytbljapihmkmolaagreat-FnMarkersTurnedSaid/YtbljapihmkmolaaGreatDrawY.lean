/- Contracts: l19DrawLayout, DrawRuleMarkers. Condition: a well-formed source. -/
import Derived.Test.YtbljapihmkmolaaGreatDrawT
import Derived.Test.YtbljapihmkmolaaGreatDrawF
namespace Go.Proofs.YtbljapihmkmolaaGreat
open Go.RowKit

theorem own_take {w : World} {B g n cap m size : Nat} {e : TypeId} {xs : List Value} (h : w.ownsRow B e size (.slice (some ⟨g, 0, none⟩) n cap) n xs) (hm : m ≤ n) : w.ownsRow B e size (.slice (some ⟨g, 0, none⟩) m cap) m (xs.take (m * size)) := by
  obtain ⟨h1, h2⟩ := h
  have hle : m * size ≤ n * size := Nat.mul_le_mul_right _ hm
  refine ⟨by rw [List.length_take]; omega, ?_⟩
  rcases h2 with ⟨h2, _⟩ | ⟨g', cap', cur, hv, hg, hh, hnc, hcm, hs, ht⟩
  · cases h2
  · simp only [Value.slice.injEq, Option.some.injEq, Addr.mk.injEq, and_true, true_and] at hv
    obtain ⟨rfl, rfl⟩ := hv
    exact .inr ⟨g, cap, cur, rfl, hg, hh, by omega, hcm, hs, by rw [← ht, List.take_take, Nat.min_eq_left hle]⟩
theorem LW.take {w : World} {B g n c m : Nat} {us : List Value} {rss : List (List Rc)} (h : LW w B (.slice (some ⟨g, 0, none⟩) n c) us rss) (hm : m ≤ rss.length) : LW w B (.slice (some ⟨g, 0, none⟩) m c) (us.take m) (rss.take m) := by
  obtain ⟨A, c', e, _, _⟩ := h.form
  simp only [Value.slice.injEq] at e
  obtain ⟨_, rfl, _⟩ := e
  refine ⟨by rw [List.length_take, List.length_take, h.len], ?_, fun k u q hu hq => ?_⟩
  · have := own_take h.own hm
    rw [Nat.mul_one] at this
    rw [List.length_take, Nat.min_eq_left hm]
    exact this
  · rw [List.getElem?_take] at hu hq
    split at hu
    · rename_i hk
      rw [if_pos hk] at hq
      exact h.each k u q hu hq
    · cases hu
theorem LW.other {w : World} {B : Nat} {v : Value} {us : List Value} {rss : List (List Rc)} (h : LW w B v us rss) {p : Addr} (hp : p.block < B) (x : Value) : LW (w.setCell p x) B v us rss := by
  have key : ∀ {z : Value}, (∀ q, z.ownBlock = some q → B ≤ q ∧ q < w.heap.size) → z.ownBlock ≠ some p.block := fun h e => by have := (h _ e).1; omega
  exact ⟨h.len, own_other h.own (key h.inside.1) x, fun k z r hz hr => own_other (h.each k z r hz hr) (key (h.inside.2 k z hz)) x⟩
theorem LW.five {w : World} {B b : Nat} {v : Value} {us : List Value} {rss : List (List Rc)} (h : LW w B v us rss) (hp : b < B) (x0 x1 x2 x3 x4 : Value) : RLL (((((w.setCell ⟨b, 0, none⟩ x0).setCell ⟨b, 1, none⟩ x1).setCell ⟨b, 2, none⟩ x2).setCell ⟨b, 3, none⟩ x3).setCell ⟨b, 4, none⟩ x4).drew b v rss :=
  (((((((h.other (p := ⟨b, 0, none⟩) hp x0).other (p := ⟨b, 1, none⟩) hp x1).other (p := ⟨b, 2, none⟩) hp x2).other (p := ⟨b, 3, none⟩) hp x3).other (p := ⟨b, 4, none⟩) hp x4).drew).less (Nat.le_of_lt hp)).rll
theorem below_five {w w' : World} {B b : Nat} (h : Below B w w') (hp : B ≤ b) (x0 x1 x2 x3 x4 : Value) : Below B w (((((w'.setCell ⟨b, 0, none⟩ x0).setCell ⟨b, 1, none⟩ x1).setCell ⟨b, 2, none⟩ x2).setCell ⟨b, 3, none⟩ x3).setCell ⟨b, 4, none⟩ x4).drew :=
  (((((h.setCell (p := ⟨b, 0, none⟩) hp x0).setCell (p := ⟨b, 1, none⟩) hp x1).setCell (p := ⟨b, 2, none⟩) hp x2).setCell (p := ⟨b, 3, none⟩) hp x3).setCell (p := ⟨b, 4, none⟩) hp x4).drew
theorem RLL.lw {w : World} {B : Nat} {v : Value} {rss : List (List Rc)} (h : RLL w B v rss) : ∃ us, LW w B v us rss := by
  obtain ⟨us, h1, h2, h3⟩ := h
  refine ⟨us, h2, ?_, h3⟩
  unfold VL at h1
  rw [← h2]
  exact h1
theorem RLL.keptG {w w' : World} {g B : Nat} {v : Value} {rss : List (List Rc)} (h : RLL w B v rss) (hg : w.grownBy w' (some g)) (hB : g < B) : RLL w' B v rss := by
  obtain ⟨us, hX⟩ := h.lw
  exact (hX.keptG hg hB).rll

set_option maxHeartbeats 1600000 in
set_option maxRecDepth 100000 in
/-- l19DrawLayout. -/
theorem drawLay19_any (g : Nat) (w : World) (hD : Dice w g) : Calls Tryz.prog 84 #[.pointer (some ⟨g, 0, none⟩)] w fun e w' => ∃ (v : Value) (us : List Value) (rss : List (List Rc)), e = .returned v ∧ LW w' w.heap.size v us rss ∧ rss.length ≤ 8 ∧ (∀ rs ∈ rss, rs.length ≤ 7000) ∧ Dice w' g ∧ w.grownBy w' (some g) := by
  have hg := hD.lt
  have r0 := RLL.lit0 w (B := w.heap.size) (Nat.le_refl _)
  have hD0 := hD.alloc (.cells #[] 26)
  have hA0 := only_alloc (only_refl w (some g)) (.cells #[] 26)
  clear hD
  go_enter Tryz.func84, Tryz.ntmps84
  go_wp2
  go_loopw [3, 4] (fun ov iv wr => ∃ (k : Nat) (rss : List (List Rc)), k ≤ 8 ∧ rss.length = k ∧ iv = .int .i64 k ∧ RLL wr w.heap.size ov rss ∧ Hid (∀ rs ∈ rss, rs.length ≤ 7000) ∧ Dice wr g ∧ w.grownBy wr (some g)) (fun _ iv _ => 8 - (intOf iv).toNat)
  case atStart => exact ⟨0, [], by omega, rfl, rfl, r0, Lib.hid (fun rs h => by cases h), hD0, hA0⟩
  case round =>
    obtain ⟨k, rss, hk, hlk, rfl, hO, Hsm, hDr, hGr⟩ := hrel
    clear r0 hD0 hA0
    by_cases hlt : k < 8
    · have hz : (k : Int) < 8 := by omega
      have hD1 := hDr.alloc (.cells #[] 80)
      have hA1 := only_alloc hGr (.cells #[] 80)
      have hO1 := hO.on ((Below.refl wr.heap.size wr).alloc (Nat.le_refl _) (.cells #[] 80))
      have r1 : RL (wr.alloc (.cells #[] 80)) w.heap.size (.slice (some ⟨wr.heap.size, 0, none⟩) 0 0) [] := row_empty wr w.heap.size _ rfl hGr.size
      have hs1 := hA1.size
      clear hO hDr hGr
      go_wp2_with fail
      refine (next_any g 3 _ hD1 (by omega)).mono ?_
      rintro e w2 ⟨q, rfl, hq, hD2, hG2⟩
      have hA2 := only_trans hA1 hG2
      have hO2 : RLL w2 w.heap.size _ rss := RLL.keptG hO1 hG2 hg
      have r2 := r1.keptG hG2 hg
      clear hD1 hA1 hO1 r1 hG2
      have hlen : rss.length ≤ 1000000 := by omega
      have LEN := Lib.hid hlen
      have HLK := Lib.hid hlk
      by_cases hq0 : q = 0
      · subst hq0
        go_wp2_with fail
        refine (drawSmall_any g _ hD2).mono ?_
        rintro e w3 ⟨u, rs, rfl, hR, hl, hD3, hG3⟩
        have hA3 := only_trans hA2 hG3
        have hO3 := RLL.keptG hO2 hG3 hg
        have hR3 := hR.less hA2.size
        have hs3 := hA3.size
        obtain ⟨Au, cu, rfl, -, -, -⟩ := hR3.form
        have Hsm3 : Hid (∀ x ∈ rss ++ [rs], x.length ≤ 7000) := Lib.hid (fun x hx => by
          rcases List.mem_append.1 hx with h | h
          · exact Hsm.out x h
          · rw [List.mem_singleton.1 h]; exact hl)
        clear hA2 hO2 r2 hD2 hG3 hR
        go_wp2_with (at_builtin; refine wpList_append_RLL rfl (.tmp 18) (.tmp 20) rfl w.heap.size _ rss rfl hO3 _ rs hR3 rfl LEN.out hs3 ?_; intro v' w' k1 k2 k3)
        exact ⟨⟨k + 1, _, by omega, by rw [List.length_append, HLK.out]; rfl, by go_num, k1, Hsm3, hD3.below k3 hg, only_above hA3 k3⟩, by simp [intOf]; omega⟩
      · have b0 : (q == 0) = false := by simpa using hq0
        have hs3 := hA2.size
        have Hsm3 : Hid (∀ x ∈ rss ++ [([] : List Rc)], x.length ≤ 7000) := Lib.hid (fun x hx => by
          rcases List.mem_append.1 hx with h | h
          · exact Hsm.out x h
          · rw [List.mem_singleton.1 h]; simp)
        go_wp2_with (at_builtin; refine wpList_append_RLL rfl (.tmp 18) (.tmp 20) rfl w.heap.size _ rss rfl hO2 _ [] r2 rfl LEN.out hs3 ?_; intro v' w' k1 k2 k3)
        exact ⟨⟨k + 1, _, by omega, by rw [List.length_append, HLK.out]; rfl, by go_num, k1, Hsm3, hD2.below k3 hg, only_above hA2 k3⟩, by simp [intOf]; omega⟩
    · obtain rfl : k = 8 := by omega
      obtain ⟨us, hX⟩ := hO.lw
      obtain ⟨A, c, hv, hc, hm⟩ := hX.form
      rw [hlk] at hv hc
      subst hv
      have hm0 : 0 < rss.length := by omega
      obtain ⟨g0, y, rfl, hy, hgg, -, -, -⟩ := LW.elem hX (List.getElem?_eq_getElem hm0)
      clear hO hy
      go_wp2_with fail
      refine (next_any g 40 _ hDr (by omega)).mono ?_
      rintro e w2 ⟨q, rfl, hq, hD2, hG2⟩
      have hX2 := hX.keptG hG2 hg
      have hA2 := only_trans hGr hG2
      clear hX hDr hGr hG2
      by_cases hq0 : q = 0
      · subst hq0
        have hX3 := hX2.take (m := 7) (by omega)
        go_wp2
        go_ret
        exact ⟨_, _, _, rfl, hX3, by rw [List.length_take]; omega, fun rs h => Hsm.out rs (List.mem_of_mem_take h), hD2, hA2⟩
      · have b0 : (q == 0) = false := by simpa using hq0
        by_cases hq1 : q = 1
        · subst hq1
          go_wp2_with fail
          refine (next_any g 8 _ hD2 (by omega)).mono ?_
          rintro e w3 ⟨j, rfl, hj, hD3, hG3⟩
          have hX3 := hX2.keptG hG3 hg
          have hA3 := only_trans hA2 hG3
          clear hX2 hD2 hA2 hG3
          obtain ⟨m, rfl⟩ : ∃ m : Nat, j = m := ⟨j.toNat, by omega⟩
          have hm8 : m < rss.length := by omega
          have hX4 := hX3.alloc (.cells #[.int .i64 3, .int .i64 1, .int .i64 3, .int .i64 2] 80)
          have r4 := RL.lit w3 hA3.size 3 1 3 2
          have hD4 := hD3.alloc (.cells #[.int .i64 3, .int .i64 1, .int .i64 3, .int .i64 2] 80)
          have hA4 := only_alloc hA3 (.cells #[.int .i64 3, .int .i64 1, .int .i64 3, .int .i64 2] 80)
          have z0 := hX4.frozen m
          have HX5 := Lib.hid (hX4.set1 hm8 _ _ r4)
          obtain ⟨g1, y1, hA1, hy1, -, d1, d0, -⟩ := LW.elem hX4 (List.getElem?_eq_getElem hm8)
          cases hA1
          have hi8 : (0 : Int) ≤ (m : Int) ∧ (m : Int) < 8 := by omega
          have Hsm2 : Hid (∀ x ∈ rss.set m [(⟨3, 1, 3, 2⟩ : Rc)], x.length ≤ 7000) := Lib.hid (fun x hx => by
            rcases List.mem_or_eq_of_mem_set hx with h | h
            · exact Hsm.out x h
            · rw [h]; simp)
          clear hX3 hX4 hD3 hA3 r4 hy1
          go_wp2
          go_ret
          exact ⟨_, _, _, rfl, HX5.out, by rw [List.length_set]; omega, Hsm2.out, hD4.other (p := ⟨g0, m, none⟩) (by show g < g0; omega) _, only_above hA4 ((Below.refl w.heap.size _).setCell (p := ⟨g0, m, none⟩) hgg _)⟩
        · have b1 : (q == 1) = false := by simpa using hq1
          go_wp2
          go_ret
          exact ⟨_, _, _, rfl, hX2, by omega, Hsm.out, hD2, hA2⟩

set_option maxHeartbeats 1600000 in
set_option maxRecDepth 100000 in
/-- DrawRuleMarkers. -/
theorem drawRm_any (A : Option Addr) (n c : Nat) (w : World) (hA : ArgB w A n) (hn : n ≤ 4096) : Calls Tryz.prog 37 #[.slice A n c] w fun e w' => ∃ (v : Value) (r : Ru) (rss : List (List Rc)), e = .returned (.tuple #[v, r.val]) ∧ RLL w' w.heap.size v rss ∧ rss.length ≤ 8 ∧ (∀ rs ∈ rss, rs.length ≤ 7000) ∧ Below w.heap.size w w' := by
  have z0 := Bk.new w 30 #[.int .i64 0, .int .i64 0, .int .i64 0, .int .i64 0, .int .i64 0]
  have hb0 := (Below.refl w.heap.size w).alloc (Nat.le_refl _) (.cells #[.int .i64 0, .int .i64 0, .int .i64 0, .int .i64 0, .int .i64 0] 30)
  have hA0 := hA.on hb0
  have es : (w.alloc (.cells #[.int .i64 0, .int .i64 0, .int .i64 0, .int .i64 0, .int .i64 0] 30)).heap.size = w.heap.size + 1 := by simp
  unfold Ru.val
  go_enter Tryz.func37, Tryz.ntmps37
  go_wp2_with fail
  refine (from_any A n c _ hA0 hn).mono ?_
  rintro e w1 ⟨g, rfl, hg, hD1, hb1⟩
  rw [es] at hg
  have z1 := z0.on hb1
  have b1 := hb0.trans (hb1.mono hb0.size)
  clear z0 hA0 hb0 hb1 es hA
  go_wp2_with fail
  refine (drawRule_any g _ hD1).mono ?_
  rintro e w2 ⟨⟨q0, q1, q2, q3, q4⟩, rfl, hD2, hG2⟩
  unfold Ru.val
  have hn1 : some w.heap.size ≠ some g := by simp; omega
  have hn6 : ∀ q, some g = some q → w.heap.size ≤ q := fun q hq => by simp at hq; omega
  have z2 := z1.grown hG2 hn1
  have b2 := b1.trans (grown_below hG2 hn6 b1.size)
  have hgl := hD2.lt
  have y2 := Bk.new w2 30 #[.int .i64 q0, .int .i64 q1, .int .i64 q2, .int .i64 q3, .int .i64 q4]
  have z3 := z2.alloc (.cells #[.int .i64 q0, .int .i64 q1, .int .i64 q2, .int .i64 q3, .int .i64 q4] 30)
  have hD3 := hD2.alloc (.cells #[.int .i64 q0, .int .i64 q1, .int .i64 q2, .int .i64 q3, .int .i64 q4] 30)
  have b3 := b2.alloc b2.size (.cells #[.int .i64 q0, .int .i64 q1, .int .i64 q2, .int .i64 q3, .int .i64 q4] 30)
  have hs3 : w2.heap.size < (w2.alloc (.cells #[.int .i64 q0, .int .i64 q1, .int .i64 q2, .int .i64 q3, .int .i64 q4] 30)).heap.size := by simp
  have hn2 : some w2.heap.size ≠ some g := by simp; omega
  clear z1 z2 b1 b2 hD1 hD2 hG2
  go_wp2_with fail
  refine (drawLay19_any g _ hD3).mono ?_
  rintro e w4 ⟨v, us, rss, rfl, hX4, h8, hl, hD4, hG4⟩
  have z4 := z3.grown hG4 hn1
  have y4 := y2.grown hG4 hn2
  have b4 := b3.trans (grown_below hG4 hn6 b3.size)
  have hX := hX4.less (show w2.heap.size + 1 ≤ _ from hs3)
  have hL := Lib.hid hl
  clear z3 y2 b3 hD3 hX4 hG4 hs3 hl
  obtain ⟨Av, cv, rfl, hcv, hmv⟩ := hX.form
  obtain ⟨c0, c1, c2, c3, c4⟩ := box5 y4
  go_wp2_with fail
  refine (rule_spec ⟨q0, q1, q2, q3, q4⟩ _).mono ?_
  rintro e w5 ⟨rfl, hb5⟩
  replace hX := hX.on hb5
  replace hD4 := hD4.on hb5
  replace z4 := z4.on hb5
  replace y4 := y4.on hb5
  replace b4 := b4.trans (hb5.mono b4.size)
  clear c0 c1 c2 c3 c4 hb5
  obtain ⟨n8, hn8⟩ : ∃ n8, n8 = rss.length := ⟨_, rfl⟩
  rw [← hn8] at hX h8 ⊢
  have HRL := hn8.symm
  clear hn8
  have Hr := Lib.hid (fun h => rule_facts (r := ⟨q0, q1, q2, q3, q4⟩) h)
  generalize ruleB ⟨q0, q1, q2, q3, q4⟩ = rb at *
  have hgb : g < w2.heap.size + 1 := by omega
  cases rb with
  | false =>
    obtain ⟨c0, c1, c2, c3, c4⟩ := box5 y4
    have f0 := z4.frozen 0
    have f1 := z4.frozen 1
    have f2 := z4.frozen 2
    have f3 := z4.frozen 3
    have f4 := z4.frozen 4
    obtain ⟨d0, d1, d2, d3, d4⟩ := box5 z4
    have hfin := Lib.hid hX
    clear hX y4
    go_upto_region 7 with fail
    go_region
    go_wp2
    refine bodyPost_ret (v := .tuple #[.slice Av n8 cv, .agg #[.int .i64 q0, .int .i64 q1, .int .i64 q2, .int .i64 q3, .int .i64 q4]]) (by simp [results, Tryz.results37, go_sem, *]) rfl ?_
    exact ⟨_, ⟨q0, q1, q2, q3, q4⟩, _, rfl, hfin.out.five (by omega) _ _ _ _ _, by omega, hL.out, below_five b4 (Nat.le_refl _) _ _ _ _ _⟩
  | true =>
    by_cases hn : n8 = 8
    · subst hn
      obtain ⟨f1, f2, f3⟩ := Hr.out rfl
      dsimp only at f2 f3
      obtain ⟨m, rfl⟩ : ∃ m : Nat, q1 = m := ⟨q1.toNat, by omega⟩
      obtain ⟨m', rfl⟩ : ∃ m : Nat, q2 = m := ⟨q2.toNat, by omega⟩
      have hm0 : 0 < rss.length := by omega
      obtain ⟨gL, yL, rfl, hyL, hgL, -, -, -⟩ := LW.elem hX (List.getElem?_eq_getElem hm0)
      have hi1 : (0 : Int) ≤ (m : Int) ∧ (m : Int) < 8 := by omega
      have hi2 : (0 : Int) ≤ (m' : Int) ∧ (m' : Int) < 8 := by omega
      have ny : w2.heap.size ≠ gL := fun e => y4.apart' hX.own (by decide) (by rw [e]; rfl)
      have nz : w.heap.size ≠ gL := fun e => z4.apart' hX.own (by decide) (by rw [e]; rfl)
      have ng : g < gL := by omega
      have nw : w.heap.size ≤ gL := by omega
      clear hyL Hr f1 f2 f3 hm0
      go_upto_region 5 with fail
      go_cut [] from 7 to 33 (fun wx => ∃ (us : List Value) (rss : List (List Rc)), LW wx (w2.heap.size + 1) (.slice (some ⟨gL, 0, none⟩) 8 cv) us rss ∧ rss.length = 8 ∧ Hid (∀ rs ∈ rss, rs.length ≤ 7000) ∧ Bk wx w.heap.size 30 #[.int .i64 0, .int .i64 0, .int .i64 0, .int .i64 0, .int .i64 0] ∧ Bk wx w2.heap.size 30 #[.int .i64 q0, .int .i64 m, .int .i64 m', .int .i64 q3, .int .i64 q4] ∧ Dice wx g ∧ Below w.heap.size w wx)
      case first =>
        have hX5 := Lib.hid hX.drew
        have hD5 := hD4.drew
        have z5 := z4.drew
        have y5 := y4.drew
        have b5 := b4.drew
        have y4lt := y4.lt
        have hm8 : m < rss.length := by omega
        clear hX hD4 z4 y4 b4
        go_region_held3 (fun w' => w'.cell? ⟨w2.heap.size, 1, none⟩ = some (.int .i64 m)) (first | with_reducible exact (box5 y5).2.1 | exact (box5 (y5.other (p := ⟨gL, m, none⟩) ny _)).2.1)
          (first | (go_at_call 85; refine (drawSmall_any g _ hD5).mono ?_; rintro e w6 ⟨u, rs, rfl, hR, hlr, hD6, hG6⟩; have hX6 := hX5.out.keptG hG6 hgb; have y5 := y5.grown hG6 hn2; have z5 := z5.grown hG6 hn1; have b5 := b5.trans (grown_below hG6 hn6 b5.size); have hR6 := hR.less (show w2.heap.size + 1 ≤ _ from y4lt); have HX7 := Lib.hid (hX6.set1 hm8 rs u hR6); have zf := hX6.frozen m; obtain ⟨Au, cu, rfl, -, -, -⟩ := hR6.form; obtain ⟨g1, y1, hA1, hy1, -, d1, d0, -⟩ := LW.elem hX6 (List.getElem?_eq_getElem hm8); obtain rfl : gL = g1 := by simpa using hA1))
        all_goals
          go_wp2_with fail
          go_meet
          exact ⟨_, _, HX7.out, by rw [List.length_set]; exact HRL, Lib.hid (fun x hx => by
            rcases List.mem_or_eq_of_mem_set hx with h | h
            · exact hL.out x h
            · rw [h]; exact hlr), z5.other (p := ⟨gL, m, none⟩) nz _, y5.other (p := ⟨gL, m, none⟩) ny _, hD6.other (p := ⟨gL, m, none⟩) ng _, b5.setCell (p := ⟨gL, m, none⟩) nw _⟩
      clear hX HRL hL z4 y4 hD4 b4
      obtain ⟨us5, rss5, hX, HRL, hL, z4, y4, hD4, b4⟩ := hcut
      obtain ⟨w5x, rfl⟩ : ∃ W : World, W = wc := ⟨_, rfl⟩
      go_upto_region 6 with fail
      go_cut [] from 7 to 33 (fun wx => ∃ (us : List Value) (rss : List (List Rc)), LW wx (w2.heap.size + 1) (.slice (some ⟨gL, 0, none⟩) 8 cv) us rss ∧ rss.length = 8 ∧ Hid (∀ rs ∈ rss, rs.length ≤ 7000) ∧ Bk wx w.heap.size 30 #[.int .i64 0, .int .i64 0, .int .i64 0, .int .i64 0, .int .i64 0] ∧ Bk wx w2.heap.size 30 #[.int .i64 q0, .int .i64 m, .int .i64 m', .int .i64 q3, .int .i64 q4] ∧ Dice wx g ∧ Below w.heap.size w wx)
      case first =>
        have hX5 := Lib.hid hX.drew
        have hD5 := hD4.drew
        have z5 := z4.drew
        have y5 := y4.drew
        have b5 := b4.drew
        have y4lt := y4.lt
        have hm8 : m' < rss5.length := by omega
        clear hX hD4 z4 y4 b4
        go_region_held3 (fun w' => w'.cell? ⟨w2.heap.size, 2, none⟩ = some (.int .i64 m')) (first | with_reducible exact (box5 y5).2.2.1 | exact (box5 (y5.other (p := ⟨gL, m', none⟩) ny _)).2.2.1)
          (first | (go_at_call 85; refine (drawSmall_any g _ hD5).mono ?_; rintro e w6 ⟨u, rs, rfl, hR, hlr, hD6, hG6⟩; have hX6 := hX5.out.keptG hG6 hgb; have y5 := y5.grown hG6 hn2; have z5 := z5.grown hG6 hn1; have b5 := b5.trans (grown_below hG6 hn6 b5.size); have hR6 := hR.less (show w2.heap.size + 1 ≤ _ from y4lt); have HX7 := Lib.hid (hX6.set1 hm8 rs u hR6); have zf := hX6.frozen m'; obtain ⟨Au, cu, rfl, -, -, -⟩ := hR6.form; obtain ⟨g1, y1, hA1, hy1, -, d1, d0, -⟩ := LW.elem hX6 (List.getElem?_eq_getElem hm8); obtain rfl : gL = g1 := by simpa using hA1))
        all_goals
          go_wp2_with fail
          go_meet
          exact ⟨_, _, HX7.out, by rw [List.length_set]; exact HRL, Lib.hid (fun x hx => by
            rcases List.mem_or_eq_of_mem_set hx with h | h
            · exact hL.out x h
            · rw [h]; exact hlr), z5.other (p := ⟨gL, m', none⟩) nz _, y5.other (p := ⟨gL, m', none⟩) ny _, hD6.other (p := ⟨gL, m', none⟩) ng _, b5.setCell (p := ⟨gL, m', none⟩) nw _⟩
      clear hX HRL hL z4 y4 hD4 b4
      obtain ⟨us6, rss6, hX, HRL, hL, z4, y4, hD4, b4⟩ := hcut
      obtain ⟨w6x, rfl⟩ : ∃ W : World, W = wc := ⟨_, rfl⟩
      obtain ⟨c0, c1, c2, c3, c4⟩ := box5 y4
      have f0 := z4.frozen 0
      have f1 := z4.frozen 1
      have f2 := z4.frozen 2
      have f3 := z4.frozen 3
      have f4 := z4.frozen 4
      obtain ⟨d0, d1, d2, d3, d4⟩ := box5 z4
      have hfin := Lib.hid hX
      clear hX y4
      go_upto_region 7 with fail
      go_region
      go_wp2
      refine bodyPost_ret (v := .tuple #[.slice (some ⟨gL, 0, none⟩) 8 cv, .agg #[.int .i64 q0, .int .i64 m, .int .i64 m', .int .i64 q3, .int .i64 q4]]) (by simp [results, Tryz.results37, go_sem, *]) rfl ?_
      exact ⟨_, ⟨q0, m, m', q3, q4⟩, _, rfl, hfin.out.five (by omega) _ _ _ _ _, by omega, hL.out, below_five b4 (Nat.le_refl _) _ _ _ _ _⟩
    · have hnb : ((n8 : Int) == 8) = false := by simp; omega
      obtain ⟨c0, c1, c2, c3, c4⟩ := box5 y4
      have f0 := z4.frozen 0
      have f1 := z4.frozen 1
      have f2 := z4.frozen 2
      have f3 := z4.frozen 3
      have f4 := z4.frozen 4
      obtain ⟨d0, d1, d2, d3, d4⟩ := box5 z4
      have hfin := Lib.hid hX
      clear hX y4
      go_upto_region 7 with fail
      go_region
      go_wp2
      refine bodyPost_ret (v := .tuple #[.slice Av n8 cv, .agg #[.int .i64 q0, .int .i64 q1, .int .i64 q2, .int .i64 q3, .int .i64 q4]]) (by simp [results, Tryz.results37, go_sem, *]) rfl ?_
      exact ⟨_, ⟨q0, q1, q2, q3, q4⟩, _, rfl, hfin.out.five (by omega) _ _ _ _ _, by omega, hL.out, below_five b4 (Nat.le_refl _) _ _ _ _ _⟩

end Go.Proofs.YtbljapihmkmolaaGreat
