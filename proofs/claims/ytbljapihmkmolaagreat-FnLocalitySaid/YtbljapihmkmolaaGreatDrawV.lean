/- Contracts: l22DrawEdit, l22DrawRule, DrawRecheckArea. Condition: a well-formed source. -/
import Derived.Test.YtbljapihmkmolaaGreatOpX
import Derived.Test.YtbljapihmkmolaaGreatDrawT
import Derived.Deep.RegionLaw
namespace Go.Proofs.YtbljapihmkmolaaGreat
open Go.RowKit

abbrev opsA : Array Value := #[.int .i64 14, .int .i64 4, .int .i64 6]
theorem ops_get (k : Nat) (h : k < 3) : ∃ x : Int, opsA[k]? = some (.int .i64 x) ∧ (x = 14 ∨ x = 4 ∨ x = 6) := by
  have hk : k = 0 ∨ k = 1 ∨ k = 2 := by omega
  rcases hk with rfl | rfl | rfl <;> exact ⟨_, rfl, by omega⟩

set_option maxHeartbeats 3200000 in
set_option maxRecDepth 100000 in
/-- l22DrawEdit: a layout, and another one. -/
theorem drawEdit_any (g : Nat) (w : World) (hD : Dice w g) : Calls Tryz.prog 89 #[.pointer (some ⟨g, 0, none⟩)] w fun e w' => ∃ (b : Nat) (us : List Value) (rss : List (List Rc)) (z : Value), e = .returned (.tuple #[.slice (some ⟨b, 0, none⟩) 8 8, z]) ∧ LW w' w.heap.size (.slice (some ⟨b, 0, none⟩) 8 8) us rss ∧ rss.length = 8 ∧ (∀ rs ∈ rss, rs.length ≤ 7000 ∧ okAll rs = true) ∧ Dice w' g ∧ w.grownBy w' (some g) := by
  have hg := hD.lt
  obtain ⟨i0, hi0, hz0, hsz0, hby0⟩ := info_parts info_rects
  go_enter Tryz.func89, Tryz.ntmps89
  go_wp2_with fail
  refine (drawLayers_any g _ hD).mono ?_
  rintro e w1 ⟨bL, us, rss, rfl, hX1, h8, hl, hD1, hG1⟩
  have hL := Lib.hid hl
  have hg1 : g < w1.heap.size := hD1.lt
  have hXL := Lib.hid hX1
  clear hD hl hX1
  go_wp2_with (at_make; refine wpList_make_full _ rfl _ _ 28 rfl w1.heap.size 26 i0 _ 1 Tryz.underlying28 hi0 hz0 hsz0 _ _ _ _ 8 rfl rfl rfl rfl (by rw [hby0]; omega) (by simp only [maxLen]; omega) (Nat.le_refl _) ?_)
  intro w2 ho2 hg2
  have hD2 := hD1.grown hg2 (fun q hq => by cases hq)
  have hb2 : Below w1.heap.size w1 w2 := (Below.refl _ _).grown hg2 (Nat.le_refl _) (fun k hk => by cases hk)
  have hA2 := only_above (only_refl w1 (some g)) hb2
  have hX2 := LW.made ho2
  clear ho2 hg2 hi0 hz0 hsz0 hby0 hb2
  go_wp2
  go_loopw [6] (fun iv wr => ∃ (k : Nat) (vs : List Value) (qss : List (List Rc)), k ≤ 8 ∧ iv = .int .i64 k ∧ LW wr w1.heap.size (.slice (some ⟨w1.heap.size, 0, none⟩) 8 8) vs qss ∧ qss.length = 8 ∧ Hid (∀ rs ∈ qss, rs.length ≤ 7000 ∧ okAll rs = true) ∧ Dice wr g ∧ w1.grownBy wr (some g)) (fun iv _ => 8 - (intOf iv).toNat)
  case atStart => exact ⟨0, _, _, by omega, rfl, hX2, by simp, Lib.hid (fun rs h => by rw [List.eq_of_mem_replicate h]; exact ⟨by simp, rfl⟩), hD2, hA2⟩
  case round =>
    obtain ⟨k, vs, qss, hk, rfl, hX, hq8, Hsm, hDr, hGr⟩ := hrel
    clear hX2 hD2 hA2
    by_cases hlt : k < 8
    · have hz : (k : Int) < 8 := by omega
      have hkr : k < rss.length := by omega
      have hkq : k < qss.length := by omega
      have hB := hXL.out.keptG hGr (Nat.lt_of_lt_of_le hg (Nat.le_refl _))
      obtain ⟨g0, u, hA0, hu, -, d1, d0, hR⟩ := LW.elem hB (List.getElem?_eq_getElem hkr)
      cases hA0
      obtain ⟨Au, cu, rfl, -, -, -⟩ := hR.form
      have hrl := hL.out _ (List.getElem_mem hkr)
      have HRL := Lib.hid hrl
      generalize rss[k] = rs at *
      have r1 : RL (wr.alloc (.cells #[] 80)) wr.heap.size (.slice (some ⟨wr.heap.size, 0, none⟩) 0 0) [] := row_empty wr wr.heap.size _ rfl (Nat.le_refl _)
      have hR2 := RL.alloc hR (.cells #[] 80)
      have d2 := ((Below.refl wr.heap.size wr).alloc (Nat.le_refl _) (.cells #[] 80)).cell (p := ⟨bL, k, none⟩) d1 |>.trans d0
      have b1 := (Below.refl wr.heap.size wr).alloc (Nat.le_refl _) (.cells #[] 80)
      have hs1 := b1.size
      have hlen : ([] : List Rc).length + rs.length ≤ 1000000 := by rw [List.length_nil]; omega
      have LEN := Lib.hid hlen
      clear hlen hrl hu hB
      go_wp2_with (at_builtin; refine wpList_append_RR rfl (.tmp 19) (.tmp 23) rfl wr.heap.size w.heap.size _ _ _ _ rfl r1 rfl hR2 LEN.out hs1 ?_; intro v' w3 hR3 hb3; rw [List.nil_append] at hR3; have bb := b1.trans hb3; have hX3 := hX.on bb; have zf := hX3.frozen k; obtain ⟨Av, cv, rfl, -, -, -⟩ := hR3.form; have HX4 := Lib.hid (hX3.set1 hkq rs _ (hR3.less hGr.size)); obtain ⟨g1, y1, hA1, hy1, -, e1, e0, -⟩ := LW.elem hX3 (List.getElem?_eq_getElem hkq); obtain rfl : w1.heap.size = g1 := (by simpa using hA1); have hD3 := hDr.on bb; have hG3 := only_below hGr bb)
      have Hsm2 : Hid (∀ x ∈ qss.set k rs, x.length ≤ 7000 ∧ okAll x = true) := Lib.hid (fun x hx => by
        rcases List.mem_or_eq_of_mem_set hx with h | h
        · exact Hsm.out x h
        · rw [h]; exact HRL.out)
      exact ⟨⟨k + 1, _, _, by omega, by go_num, HX4.out, by rw [List.length_set]; exact hq8, Hsm2, hD3.other (p := ⟨w1.heap.size, k, none⟩) hg1 _, only_above hG3 ((Below.refl w1.heap.size w3).setCell (p := ⟨w1.heap.size, k, none⟩) (Nat.le_refl _) _)⟩, by simp [intOf]; omega⟩
    · go_wp2_with fail
      refine (next_any g 3 _ hDr (by omega)).mono ?_
      rintro e w3 ⟨n, rfl, hn, hD3, hG3⟩
      have hX3 := hX.keptG hG3 hg1
      have hA3 := only_trans hGr hG3
      clear hX hDr hGr hG3 hlt hk
      go_wp2
      go_loopw [7] (fun nv wr => ∃ (n : Int) (vs : List Value) (qss : List (List Rc)), 0 ≤ n ∧ n ≤ 3 ∧ nv = .int .i64 n ∧ LW wr w1.heap.size (.slice (some ⟨w1.heap.size, 0, none⟩) 8 8) vs qss ∧ qss.length = 8 ∧ Hid (∀ rs ∈ qss, rs.length ≤ 7000 ∧ okAll rs = true) ∧ Dice wr g ∧ w1.grownBy wr (some g)) (fun nv _ => (intOf nv).toNat)
      case atStart => exact ⟨n, _, _, by omega, by omega, rfl, hX3, hq8, Hsm, hD3, hA3⟩
      case round =>
        obtain ⟨n, vs, qss, h0, h3, rfl, hX, hq8, Hsm, hDr, hGr⟩ := hrel
        clear hX3 hD3 hA3 hn
        by_cases hn0 : n > 0
        · have en := Go.IntWalk.i64_in (n - 1) (by omega)
          go_wp2_with fail
          refine (next_any g 8 _ hDr (by omega)).mono ?_
          rintro e w4 ⟨j, rfl, hj, hD4, hG4⟩
          have hX4 := hX.keptG hG4 hg1
          have hA4 := only_trans hGr hG4
          obtain ⟨m, rfl⟩ : ∃ m : Nat, j = m := ⟨j.toNat, by omega⟩
          have zo := Bk.new w4 2 opsA
          have hX5 := hX4.alloc (.cells opsA 2)
          have hD5 := hD4.alloc (.cells opsA 2)
          have hA5 := only_alloc hA4 (.cells opsA 2)
          have hs4 : w1.heap.size ≤ w4.heap.size := hA4.size
          clear hX hDr hGr hG4 hX4 hD4 hA4
          go_wp2_with fail
          refine (next_any g 3 _ hD5 (by omega)).mono ?_
          rintro e w5 ⟨q, rfl, hq, hD6, hG6⟩
          obtain ⟨q', rfl⟩ : ∃ q' : Nat, q = q' := ⟨q.toNat, by omega⟩
          obtain ⟨x, hx, hx3⟩ := ops_get q' (by omega)
          have cx := ((zo.grown hG6 (show some w4.heap.size ≠ some g by simp; omega)).cell q').trans hx
          have hq0 : (0 : Int) ≤ (q' : Int) ∧ (q' : Int) < 3 := by omega
          have hX6 := hX5.keptG hG6 hg1
          have hA6 := only_trans hA5 hG6
          clear zo hX5 hD5 hA5 hG6 hx
          go_upto_region 12 with fail
          clear cx hq0 hq
          have hm8 : m < qss.length := by omega
          obtain ⟨g0, u, hA0, hu, -, d1, d0, hR⟩ := LW.elem hX6 (List.getElem?_eq_getElem hm8)
          obtain rfl : w1.heap.size = g0 := (by simpa using hA0)
          obtain ⟨Au, cu, rfl, -, -, -⟩ := hR.form
          have hrl := (Hsm.out _ (List.getElem_mem hm8))
          have HRL := Lib.hid hrl
          generalize qss[m] = rs at *
          have hXD := Lib.hid hX6.drew
          have hDD := hD6.drew
          have hAD := only_drew hA6
          have hi8 : (0 : Int) ≤ (m : Int) ∧ (m : Int) < 8 := by omega
          clear hX6 hD6 hA6 hrl hu
          have hng : some w1.heap.size ≠ some g := by simp; omega
          have d0D : w5.drew.cell? ⟨w1.heap.size, m, none⟩ = some (.slice Au rs.length cu) := d0
          have hRD : RL w5.drew (g + 1) (.slice Au rs.length cu) rs := hR.less hg1
          clear hR
          go_region_law (first
            | (go_simp; go_at_call 148; refine (drawRect_any g _ hDD).mono ?_; rintro e w6 ⟨⟨a0, a1, a2, a3⟩, rfl, hok, hD7, hG7⟩; unfold Rc.val; have e6 := hG7.cell d0D hng; have e7 := (((Below.refl w6.heap.size w6).alloc (Nat.le_refl _) (.cells #[.int .i64 a0, .int .i64 a1, .int .i64 a2, .int .i64 a3] 80)).cell (p := ⟨w1.heap.size, m, none⟩) (Nat.lt_of_lt_of_le d1 hG7.size)).trans e6; have hR7 := (hRD.keptG hG7 (Nat.lt_succ_self g)).less (Nat.zero_le _); have hR8 := RL.alloc hR7 (.cells #[.int .i64 a0, .int .i64 a1, .int .i64 a2, .int .i64 a3] 80); have hu8 := RL.lit w6 (Nat.zero_le _) a0 a1 a2 a3; have hok8 : okAll [(⟨a0, a1, a2, a3⟩ : Rc)] = true := (by simp [okAll, hok]); have HOK := Lib.hid hok8; clear hok8 hok; have hX8 := (hXD.out.keptG hG7 hg1).alloc (.cells #[.int .i64 a0, .int .i64 a1, .int .i64 a2, .int .i64 a3] 80); have hD8 := hD7.alloc (.cells #[.int .i64 a0, .int .i64 a1, .int .i64 a2, .int .i64 a3] 80); have hA8 := only_alloc (only_trans hAD hG7) (.cells #[.int .i64 a0, .int .i64 a1, .int .i64 a2, .int .i64 a3] 80))
            | (go_simp; go_at_call 147; refine (opX_any _ _ rs _ x hx3 _ hR8 hu8 HRL.out.2 HOK.out).mono ?_; rintro e w7 ⟨z, qs, rfl, hZ, hzl, hzok, hb7⟩; have hX9 := hX8.on hb7; have hZ9 := hZ.less (show w1.heap.size ≤ _ from hA8.size); have HX := Lib.hid (hX9.set1 hm8 qs z hZ9); have zf := hX9.frozen m; have c9 := (hb7.cell (p := ⟨w1.heap.size, m, none⟩) (show w1.heap.size < _ by (have := hX8.inside.1 w1.heap.size rfl; omega))).trans e7; have HZ := Lib.hid (show qs.length ≤ 7000 ∧ okAll qs = true from ⟨hzl, hzok⟩); have hD9 := hD8.on hb7; have hA9 := only_below hA8 hb7; obtain ⟨Az, cz, rfl, -, -, -⟩ := hZ.form; clear hzok))
          all_goals
            have Hsm2 : Hid (∀ y ∈ qss.set m qs, y.length ≤ 7000 ∧ okAll y = true) := Lib.hid (fun y hy => by
              rcases List.mem_or_eq_of_mem_set hy with h | h
              · exact Hsm.out y h
              · rw [h]; exact HZ.out)
            go_wp2
            exact ⟨⟨n - 1, _, _, by omega, by omega, rfl, HX.out, by rw [List.length_set]; exact hq8, Hsm2, hD9.other (p := ⟨w1.heap.size, m, none⟩) hg1 _, only_above hA9 ((Below.refl w1.heap.size w7).setCell (p := ⟨w1.heap.size, m, none⟩) (Nat.le_refl _) _)⟩, by simp [intOf]; omega⟩
        · have hB := hXL.out.keptG hGr (Nat.lt_of_lt_of_le hg (Nat.le_refl _))
          go_wp2
          refine bodyPost_ret (v := .tuple #[.slice (some ⟨bL, 0, none⟩) 8 8, .slice (some ⟨w1.heap.size, 0, none⟩) 8 8]) (by simp [results, Tryz.results89, go_sem]) rfl ?_
          exact ⟨_, ⟨_, rfl⟩, _, _, hB, h8, hL.out, hDr, only_trans hG1 hGr⟩


set_option maxHeartbeats 3200000 in
set_option maxRecDepth 100000 in
/-- l22DrawRule. -/
theorem drawRule22_any (g bL : Nat) (us : List Value) (rss : List (List Rc)) (w : World) (hD : Dice w g) (hX : LW w (g + 1) (.slice (some ⟨bL, 0, none⟩) 8 8) us rss) (h8 : rss.length = 8) (hl : ∀ rs ∈ rss, rs.length ≤ 7000 ∧ okAll rs = true) :
    Calls Tryz.prog 90 #[.pointer (some ⟨g, 0, none⟩), .slice (some ⟨bL, 0, none⟩) 8 8] w fun e w' => ∃ r : Ru, e = .returned r.val ∧ Dice w' g ∧ w.grownBy w' (some g) := by
  have hg := hD.lt
  have z0 := Bk.new w 30 #[.int .i64 0, .int .i64 0, .int .i64 0, .int .i64 0, .int .i64 0]
  have hD0 := hD.alloc (.cells #[.int .i64 0, .int .i64 0, .int .i64 0, .int .i64 0, .int .i64 0] 30)
  have hX0 := hX.alloc (.cells #[.int .i64 0, .int .i64 0, .int .i64 0, .int .i64 0, .int .i64 0] 30)
  have hA0 := only_alloc (only_refl w (some g)) (.cells #[.int .i64 0, .int .i64 0, .int .i64 0, .int .i64 0, .int .i64 0] 30)
  have hs0 : (w.alloc (.cells #[.int .i64 0, .int .i64 0, .int .i64 0, .int .i64 0, .int .i64 0] 30)).heap.size = w.heap.size + 1 := by simp
  clear hD hX
  unfold Ru.val
  go_enter Tryz.func90, Tryz.ntmps90
  go_wp2_with fail
  refine (drawDeck_any g bL us rss _ hD0 hX0 h8 hl).mono ?_
  rintro e w1 ⟨u, qs, rfl, hQ, h5, hD1, hG1⟩
  obtain ⟨Aq, cq, rfl, hcq, hmq⟩ := hQ.form
  have hn1 : some w.heap.size ≠ some g := by simp; omega
  have z1 := z0.grown hG1 hn1
  have hA1 := only_trans hA0 hG1
  have hQ1 := hQ.less (show g + 1 ≤ _ by rw [hs0]; omega)
  have y1 := Bk.new w1 44 #[.slice Aq qs.length cq]
  have hQ2 := hQ1.alloc (.cells #[.slice Aq qs.length cq] 44)
  have hD2 := hD1.alloc (.cells #[.slice Aq qs.length cq] 44)
  have z2 := z1.alloc (.cells #[.slice Aq qs.length cq] 44)
  have hA2 := only_alloc hA1 (.cells #[.slice Aq qs.length cq] 44)
  have hz1 := z1.lt
  have hn2 : some w1.heap.size ≠ some g := by simp; omega
  obtain ⟨gq, rfl, hgqB, -, -⟩ := hQ2.elem (List.getElem?_eq_getElem (show 0 < qs.length by omega))
  have ngq : gq ≠ g := by omega
  clear z0 hD0 hX0 hA0 hs0 hG1 hQ z1 hA1 hQ1 hD1
  have hlen1 : (1 : Int) ≤ qs.length ∧ (qs.length : Int) ≤ 1000000 := by omega
  go_upto_region 2 with fail
  go_cut [6] from 10 to 23 (fun sv wx => ∃ (bx : Nat) (a b c d e : Int), sv = .pointer (some ⟨bx, 0, none⟩) ∧ RuSt w wx g bx a b c d e)
  case first =>
    have yd := y1.drew
    have Qd := Lib.hid hQ2.drew
    have Dd := hD2.drew
    have zd := z2.drew
    have Ad := only_drew hA2
    have hsz : (w1.alloc (.cells #[.slice (some ⟨gq, 0, none⟩) qs.length cq] 44)).heap.size = w1.heap.size + 1 := by simp
    have zb := Bk.new (w1.alloc (.cells #[.slice (some ⟨gq, 0, none⟩) qs.length cq] 44)) 30 #[.int .i64 0, .int .i64 0, .int .i64 0, .int .i64 0, .int .i64 0]
    rw [hsz] at zb
    have ya := (y1.alloc (.cells #[.int .i64 0, .int .i64 0, .int .i64 0, .int .i64 0, .int .i64 0] 30)).drew
    have Qa := Lib.hid ((hQ2.alloc (.cells #[.int .i64 0, .int .i64 0, .int .i64 0, .int .i64 0, .int .i64 0] 30)).drew)
    have Da := (hD2.alloc (.cells #[.int .i64 0, .int .i64 0, .int .i64 0, .int .i64 0, .int .i64 0] 30)).drew
    have za := (z2.alloc (.cells #[.int .i64 0, .int .i64 0, .int .i64 0, .int .i64 0, .int .i64 0] 30)).drew
    have Aa := only_drew (only_alloc hA2 (.cells #[.int .i64 0, .int .i64 0, .int .i64 0, .int .i64 0, .int .i64 0] 30))
    have da := box1 ya
    have db := box1 yd
    have Sa : RuSt w ((w1.alloc (.cells #[.slice (some ⟨gq, 0, none⟩) qs.length cq] 44)).alloc (.cells #[.int .i64 0, .int .i64 0, .int .i64 0, .int .i64 0, .int .i64 0] 30)).drew g (w1.heap.size + 1) 0 0 0 0 0 := ⟨za, zb.drew, Da, Aa, hg, by omega⟩
    clear y1 hQ2 hD2 z2 hA2 hsz zb
    go_region_law (first
      | (go_simp; go_at_call 133; (first
          | (with_reducible refine (next_ge1 g (qs.length : Int) _ Dd hlen1).mono ?_; rintro e w5 ⟨j, rfl, hj, hD5, hG5⟩; obtain ⟨m, rfl⟩ : ∃ m : Nat, j = m := ⟨j.toNat, (by omega)⟩; obtain ⟨⟨q0, q1, q2, q3, q4⟩, hq⟩ : ∃ q, qs[m]? = some q := ⟨_, List.getElem?_eq_getElem (by omega)⟩; have Q5 := Qd.out.keptG hG5 (Nat.lt_succ_self g); obtain ⟨gq', hAq, -, hgl, c0, c1, c2, c3, c4⟩ := Q5.elem hq; obtain rfl : gq = gq' := (by simpa using hAq); have d5 := box1 (yd.grown hG5 hn2); have bA := (Below.refl w5.heap.size w5).alloc (Nat.le_refl _) (.cells #[.int .i64 0, .int .i64 0, .int .i64 0, .int .i64 0, .int .i64 0] 30); have e5 := box1 ((yd.grown hG5 hn2).on bA); have a0 := (bA.cell (p := ⟨gq, _, none⟩) hgl).trans c0; have a1 := (bA.cell (p := ⟨gq, _, none⟩) hgl).trans c1; have a2 := (bA.cell (p := ⟨gq, _, none⟩) hgl).trans c2; have a3 := (bA.cell (p := ⟨gq, _, none⟩) hgl).trans c3; have a4 := (bA.cell (p := ⟨gq, _, none⟩) hgl).trans c4; have SZ : RuSt w (w5.alloc (.cells #[.int .i64 q0, .int .i64 q1, .int .i64 q2, .int .i64 q3, .int .i64 q4] 30)) g w5.heap.size q0 q1 q2 q3 q4 := ⟨(zd.grown hG5 hn1).alloc _, Bk.new _ _ _, hD5.alloc _, only_alloc (only_trans Ad hG5) _, hg, (zd.grown hG5 hn1).lt⟩; clear hq Q5)
          | (with_reducible refine (next_ge1 g (qs.length : Int) _ Da hlen1).mono ?_; rintro e w5 ⟨j, rfl, hj, hD5, hG5⟩; obtain ⟨m, rfl⟩ : ∃ m : Nat, j = m := ⟨j.toNat, (by omega)⟩; obtain ⟨⟨q0, q1, q2, q3, q4⟩, hq⟩ : ∃ q, qs[m]? = some q := ⟨_, List.getElem?_eq_getElem (by omega)⟩; have Q5 := Qa.out.keptG hG5 (Nat.lt_succ_self g); obtain ⟨gq', hAq, -, hgl, c0, c1, c2, c3, c4⟩ := Q5.elem hq; obtain rfl : gq = gq' := (by simpa using hAq); have d5 := box1 (ya.grown hG5 hn2); have S5 := Sa.next hD5 hG5; have f0 := S5.box.frozen 0; have f1 := S5.box.frozen 1; have f2 := S5.box.frozen 2; have f3 := S5.box.frozen 3; have f4 := S5.box.frozen 4; obtain ⟨b0, b1, b2, b3, b4⟩ := box5 S5.box; have SZ := ((((S5.putK q0).putL q1).putO q2).putV q3).putP q4; clear hq Q5))))
    all_goals
      go_wp2_with fail
      go_meet
      exact ⟨_, _, _, _, _, _, rfl, SZ⟩
  obtain ⟨bx, a, b, c, d, e, rfl, S6⟩ := hcut
  obtain ⟨w6, rfl⟩ : ∃ W : World, W = wc := ⟨_, rfl⟩
  clear y1 hQ2 hD2 z2 hA2
  go_wp2_with fail
  refine (next_any g 20 _ S6.dice (by omega)).mono ?_
  rintro e' w7 ⟨j, rfl, hj, hD7, hG7⟩
  have S7 := S6.next hD7 hG7
  clear S6 hD7 hG7
  by_cases hj0 : j = 0
  · subst hj0
    have S8 := S7.putL 8
    have f1 := S7.box.frozen 1
    have k1 := (box5 S7.box).2.1
    obtain ⟨c0, c1, c2, c3, c4⟩ := box5 S8.box
    obtain ⟨d0, d1, d2, d3, d4⟩ := box5 S8.res
    have g0 := S8.res.frozen 0
    have g1 := S8.res.frozen 1
    have g2 := S8.res.frozen 2
    have g3 := S8.res.frozen 3
    have g4 := S8.res.frozen 4
    go_wp2
    refine bodyPost_ret (v := .agg #[.int .i64 a, .int .i64 8, .int .i64 c, .int .i64 d, .int .i64 e]) (by simp [results, Tryz.results90, go_sem, *]) rfl ?_
    refine ⟨⟨a, 8, c, d, e⟩, rfl, ?_, ?_⟩
    · exact ((((S8.dice.other (p := ⟨w.heap.size, 0, none⟩) hg _).other (p := ⟨w.heap.size, 1, none⟩) hg _).other (p := ⟨w.heap.size, 2, none⟩) hg _).other (p := ⟨w.heap.size, 3, none⟩) hg _).other (p := ⟨w.heap.size, 4, none⟩) hg _
    · exact only_above S8.only ((((((Below.refl w.heap.size _).setCell (p := ⟨w.heap.size, 0, none⟩) (Nat.le_refl _) _).setCell (p := ⟨w.heap.size, 1, none⟩) (Nat.le_refl _) _).setCell (p := ⟨w.heap.size, 2, none⟩) (Nat.le_refl _) _).setCell (p := ⟨w.heap.size, 3, none⟩) (Nat.le_refl _) _).setCell (p := ⟨w.heap.size, 4, none⟩) (Nat.le_refl _) _)
  · have b0 : (j == 0) = false := by simpa using hj0
    obtain ⟨c0, c1, c2, c3, c4⟩ := box5 S7.box
    obtain ⟨d0, d1, d2, d3, d4⟩ := box5 S7.res
    have g0 := S7.res.frozen 0
    have g1 := S7.res.frozen 1
    have g2 := S7.res.frozen 2
    have g3 := S7.res.frozen 3
    have g4 := S7.res.frozen 4
    go_wp2
    refine bodyPost_ret (v := .agg #[.int .i64 a, .int .i64 b, .int .i64 c, .int .i64 d, .int .i64 e]) (by simp [results, Tryz.results90, go_sem, *]) rfl ?_
    refine ⟨⟨a, b, c, d, e⟩, rfl, ?_, ?_⟩
    · exact ((((S7.dice.other (p := ⟨w.heap.size, 0, none⟩) hg _).other (p := ⟨w.heap.size, 1, none⟩) hg _).other (p := ⟨w.heap.size, 2, none⟩) hg _).other (p := ⟨w.heap.size, 3, none⟩) hg _).other (p := ⟨w.heap.size, 4, none⟩) hg _
    · exact only_above S7.only ((((((Below.refl w.heap.size _).setCell (p := ⟨w.heap.size, 0, none⟩) (Nat.le_refl _) _).setCell (p := ⟨w.heap.size, 1, none⟩) (Nat.le_refl _) _).setCell (p := ⟨w.heap.size, 2, none⟩) (Nat.le_refl _) _).setCell (p := ⟨w.heap.size, 3, none⟩) (Nat.le_refl _) _).setCell (p := ⟨w.heap.size, 4, none⟩) (Nat.le_refl _) _)

end Go.Proofs.YtbljapihmkmolaaGreat
