/- Contracts: the program's IsValidTransform and MoveRegion. No conditions. -/
import Derived.Test.YtooglkdloaaomaaMoveI
namespace Go.Proofs.Ytooglkdloaaomaa
open Go.RowKit

set_option maxHeartbeats 400000 in
set_option maxRecDepth 100000 in
/-- IsValidTransform, in the program. -/
theorem validT_impl (t : Tf) (w : World) : Calls Try.prog 116 #[t.val] w fun e w' => e = .returned (.bool (validT t)) ∧ Below w.heap.size w w' := by
  obtain ⟨o, x, y⟩ := t
  unfold Tf.val
  dsimp only
  have z0 := Bk.new w 61 #[.int .i64 o, .int .i64 x, .int .i64 y]
  have tw := (Below.refl w.heap.size w).alloc (Nat.le_refl _) (.cells #[.int .i64 o, .int .i64 x, .int .i64 y] 61)
  obtain ⟨c0, c1, c2⟩ := box3 z0
  have e : validT ⟨o, x, y⟩ = (inB 0 o 7 && (inB (-80) x 80 && inB (-80) y 80)) := by
    unfold validT inB
    rw [← Bool.decide_and, ← Bool.decide_and]
  rw [e]
  clear e z0
  by_cases h1 : inB 0 o 7 = true
  · by_cases h2 : inB (-80) x 80 = true
    · rw [h1, h2, Bool.true_and, Bool.true_and]
      have H1 := Lib.hid h1
      have H2 := Lib.hid h2
      clear h1 h2
      go_enter Try.func116, Try.ntmps116
      go_wp2_with fail
      refine (within_any o 0 7 _).mono ?_
      rintro e w1 ⟨rfl, rfl⟩
      rw [H1.out]
      go_wp2_with fail
      refine (within_any x (-80) 80 _).mono ?_
      rintro e w1 ⟨rfl, rfl⟩
      rw [H2.out]
      go_wp2_with fail
      refine (within_any y (-80) 80 _).mono ?_
      rintro e w1 ⟨rfl, rfl⟩
      go_wp2
      go_ret
      exact ⟨rfl, tw⟩
    · have h2' : inB (-80) x 80 = false := by simpa using h2
      rw [h1, h2', Bool.false_and, Bool.and_false]
      have H1 := Lib.hid h1
      have H2 := Lib.hid h2'
      clear h1 h2 h2'
      go_enter Try.func116, Try.ntmps116
      go_wp2_with fail
      refine (within_any o 0 7 _).mono ?_
      rintro e w1 ⟨rfl, rfl⟩
      rw [H1.out]
      go_wp2_with fail
      refine (within_any x (-80) 80 _).mono ?_
      rintro e w1 ⟨rfl, rfl⟩
      rw [H2.out]
      go_wp2
      go_ret
      exact ⟨rfl, tw⟩
  · have h1' : inB 0 o 7 = false := by simpa using h1
    rw [h1', Bool.false_and]
    have H1 := Lib.hid h1'
    clear h1 h1'
    go_enter Try.func116, Try.ntmps116
    go_wp2_with fail
    refine (within_any o 0 7 _).mono ?_
    rintro e w1 ⟨rfl, rfl⟩
    rw [H1.out]
    go_wp2
    go_ret
    exact ⟨rfl, tw⟩

theorem moved_cells {mt : Rc → Rc} {rs : List Rc} {k : Nat} {r : Rc} (hr : rs[k]? = some r) : cellsG ((rs.take (k + 1)).map mt) = orR (cellsG ((rs.take k).map mt)) (mt r) := by
  rw [List.take_add_one, hr, Option.toList, List.map_append, List.map_cons, List.map_nil, cellsG_snoc]
theorem moved_all {mt : Rc → Rc} {rs : List Rc} {k : Nat} {r : Rc} (h : okAll ((rs.take k).map mt) = true) (hr : rs[k]? = some r) (hok : okRc (mt r) = true) : okAll ((rs.take (k + 1)).map mt) = true := by
  rw [List.take_add_one, hr, Option.toList, List.map_append, List.map_cons, List.map_nil]
  exact okAll_append h (by simp [okAll, hok])
theorem moveV_no3 {t : Tf} {rs : List Rc} (h3 : okAll (rs.map (moveR t)) = false) : moveV t rs = none := if_neg (fun h => by have := h.2.2; rw [h3] at this; cases this)
theorem moved_bad {mt : Rc → Rc} {rs : List Rc} {k : Nat} {r : Rc} (hr : rs[k]? = some r) (hok : okRc (mt r) = false) : okAll (rs.map mt) = false := by
  rw [Bool.eq_false_iff]
  intro h
  have := okAll_in h (List.mem_map.2 ⟨r, List.mem_of_getElem? hr, rfl⟩)
  rw [this] at hok
  cases hok

set_option maxHeartbeats 3200000 in
set_option maxRecDepth 100000 in
theorem moveReg_impl (t : Tf) (v : Value) (rs : List Rc) (w : World) (hv : RL w 0 v rs) : Calls Try.prog 59 #[t.val, v] w fun e w' => ∃ u, e = .returned (.tuple #[u, .bool (moveV t rs).isSome]) ∧ RL w' w.heap.size u ((moveV t rs).getD []) ∧ Below w.heap.size w w' := by
  have zt := Bk.new w 61 #[.int .i64 t.o, .int .i64 t.x, .int .i64 t.y]
  have hv0 := RL.alloc hv (.cells #[.int .i64 t.o, .int .i64 t.x, .int .i64 t.y] 61)
  have tw := (Below.refl w.heap.size w).alloc (Nat.le_refl _) (.cells #[.int .i64 t.o, .int .i64 t.x, .int .i64 t.y] 61)
  have hvt := validT_impl t
  obtain ⟨c0, c1, c2⟩ := box3 zt
  by_cases h1 : validT t = true
  · by_cases h2 : isReg rs = true
    · have hmv := fun (r : Rc) (hr : okRc r = true) (w0 : World) => moveRect_any t r (validT_small h1) hr w0
      have Hyes := Lib.hid (fun (h3 : okAll (rs.map (moveR t)) = true) => moveV_yes h1 h2 h3)
      have Hno := Lib.hid (fun (h3 : okAll (rs.map (moveR t)) = false) => moveV_no3 h3)
      have Hok := Lib.hid (okAll_of_reg h2)
      have hl := ((isReg_iff rs).1 h2).1
      rw [h1] at hvt
      have H2 := Lib.hid h2
      clear h1 h2
      generalize moveV t rs = MV at *
      generalize moveR t = mt at *
      obtain ⟨o, x, y⟩ := t
      unfold Tf.val at *
      dsimp only at *
      obtain ⟨A, c, rfl, hc, hm, -⟩ := hv.form
      unfold maxLen at hm
      go_enter Try.func59, Try.ntmps59
      go_wp2_with fail
      refine (hvt _).mono ?_
      rintro e w1 ⟨rfl, hb1⟩
      have z1 := zt.on hb1
      have hv1 := hv0.on hb1
      replace hb1 := tw.trans (hb1.mono tw.size)
      clear zt hv0 tw c0 c1 c2 hvt
      go_wp2_with fail
      refine (isRegion_any _ rs _ hv1).mono ?_
      rintro e w2 ⟨rfl, hb2⟩
      rw [H2.out]
      have z2 := z1.on hb2
      replace hb2 := hb1.trans (hb2.mono hb1.size)
      clear z1 hv1 hb1
      have g0 := GB.zero w2 77
      have z3 := z2.alloc (.cells Try.zeroCells77 77)
      have hb3 := hb2.alloc hb2.size (.cells Try.zeroCells77 77)
      have hw2 := z2.lt
      have hs2 := hb2.size
      clear z2 hb2
      go_wp2
      go_loopw [22] (fun iv wr => ∃ k : Nat, k ≤ rs.length ∧ iv = .int .i64 k ∧ okAll ((rs.take k).map mt) = true ∧ GB wr w2.heap.size 77 (cellsG ((rs.take k).map mt)) ∧ Bk wr w.heap.size 61 #[.int .i64 o, .int .i64 x, .int .i64 y] ∧ Below w.heap.size w wr) (fun iv _ => rs.length - (intOf iv).toNat)
      case atStart => exact ⟨0, Nat.zero_le _, rfl, rfl, g0, z3, hb3⟩
      case round =>
        obtain ⟨k, hk, rfl, hokk, hG, hz, hb⟩ := hrel
        have Hokk := Lib.hid hokk
        have hV := hv.on hb
        clear g0 z3 hb3 hokk
        by_cases hlt : k < rs.length
        · obtain ⟨ga, x0, y0, x1, y1, rfl, hr, hga, f0, f1, f2, f3⟩ := hV.elem hlt
          have hrok := okAll_get Hok.out hr
          have hc1 := hmv _ hrok
          have Hr := Lib.hid hr
          have hvalid := fun (w0 : World) => valid_impl (mt ⟨x0, y0, x1, y1⟩) w0
          have hput := fun (G : Gr) (w0 : World) (h : GB w0 w2.heap.size 77 G) => put_any w2.heap.size G (mt ⟨x0, y0, x1, y1⟩) w0 h
          clear hr hrok
          generalize hgm : mt ⟨x0, y0, x1, y1⟩ = m at *
          have Hgm := Lib.hid hgm
          obtain ⟨a0, b0, a1, b1⟩ := m
          unfold Rc.val at hc1 hvalid hput
          dsimp only at hc1 hvalid hput
          clear hgm
          have zr := Bk.new wr 32 #[.int .i64 x0, .int .i64 y0, .int .i64 x1, .int .i64 y1]
          have hz1 := hz.alloc (.cells #[.int .i64 x0, .int .i64 y0, .int .i64 x1, .int .i64 y1] 32)
          have hG1 := hG.alloc (.cells #[.int .i64 x0, .int .i64 y0, .int .i64 x1, .int .i64 y1] 32)
          have hb1' := hb.alloc hb.size (.cells #[.int .i64 x0, .int .i64 y0, .int .i64 x1, .int .i64 y1] 32)
          obtain ⟨c0, c1, c2⟩ := box3 hz1
          obtain ⟨d0, d1, d2, d3⟩ := box4 zr
          clear hz hG hb hV
          go_wp2_with fail
          refine (hc1 _).mono ?_
          rintro e w5 ⟨rfl, hb5⟩
          have hz5 := (hz1.on hb5).alloc (.cells #[.int .i64 a0, .int .i64 b0, .int .i64 a1, .int .i64 b1] 32)
          have hG5 := (hG1.on hb5).alloc (.cells #[.int .i64 a0, .int .i64 b0, .int .i64 a1, .int .i64 b1] 32)
          have hb6 := hb1'.trans (hb5.mono hb1'.size)
          have hb7 := hb6.alloc hb6.size (.cells #[.int .i64 a0, .int .i64 b0, .int .i64 a1, .int .i64 b1] 32)
          have zm := Bk.new w5 32 #[.int .i64 a0, .int .i64 b0, .int .i64 a1, .int .i64 b1]
          clear hz1 hG1 hb1' zr c0 c1 c2 d0 d1 d2 d3 f0 f1 f2 f3 hb5 hb6 hc1
          obtain ⟨d0, d1, d2, d3⟩ := box4 zm
          by_cases hok8 : okRc ⟨a0, b0, a1, b1⟩ = true
          · rw [hok8] at hvalid
            have N1 := Lib.hid (moved_all Hokk.out Hr.out (by rw [Hgm.out]; exact hok8))
            have N2 := Lib.hid (moved_cells (mt := mt) Hr.out)
            clear hok8
            go_wp2_with fail
            refine (hvalid _).mono ?_
            rintro e w8 ⟨rfl, hb8⟩
            have hz8 := hz5.on hb8
            have hG8 := hG5.on hb8
            have zm8 := zm.on hb8
            have hb9 := hb7.trans (hb8.mono hb7.size)
            clear hz5 hG5 zm hb7 hb8 d0 d1 d2 d3 hvalid
            obtain ⟨d0, d1, d2, d3⟩ := box4 zm8
            go_wp2_with fail
            refine (hput _ _ hG8).mono ?_
            rintro e w10 ⟨rfl, hG10, hO10⟩
            go_wp2
            exact ⟨⟨k + 1, by omega, by go_num, N1.out, by rw [N2.out, Hgm.out]; exact hG10, hz8.grown hO10 (by simp; omega), hb9.trans (grown_below hO10 (fun q hq => by simp at hq; omega) hb9.size)⟩, by simp [intOf]; omega⟩
          · have hok8' : okRc ⟨a0, b0, a1, b1⟩ = false := by simpa using hok8
            rw [hok8'] at hvalid
            have N := Lib.hid (Hno.out (moved_bad Hr.out (by rw [Hgm.out]; exact hok8')))
            clear hok8 hok8'
            go_wp2_with fail
            refine (hvalid _).mono ?_
            rintro e w8 ⟨rfl, hb8⟩
            have hb9 := hb7.trans (hb8.mono hb7.size)
            go_wp2
            refine bodyPost_ret (results_tmp2 rfl _ _ _) rfl ?_
            exact ⟨_, (by rw [N.out]; rfl), by rw [N.out]; exact RL.nil _ _, hb9⟩
        · have hke : k = rs.length := by omega
          subst hke
          rw [List.take_length] at hG
          have hall := Hokk.out
          rw [List.take_length] at hall
          have N := Lib.hid (Hyes.out hall)
          clear hall hV
          go_wp2_with fail
          refine (region_any _ _ _ hG).mono ?_
          rintro e w5 ⟨u5, rfl, hC, hb5⟩
          have hb6 := hb.trans (hb5.mono hb.size)
          replace hC := hC.less hb.size
          clear hG hz hb hb5
          go_wp2
          refine bodyPost_ret (results_tmp2 rfl _ _ _) rfl ?_
          exact ⟨_, (by rw [N.out]; rfl), by rw [N.out]; exact hC, hb6⟩
    · have h2' : isReg rs = false := by simpa using h2
      have e : moveV t rs = none := if_neg (fun h => h2 h.2.1)
      rw [e]
      rw [h1] at hvt
      have H2 := Lib.hid h2'
      clear h1 h2 h2' e
      obtain ⟨o, x, y⟩ := t
      unfold Tf.val at *
      dsimp only at *
      go_enter Try.func59, Try.ntmps59
      go_wp2_with fail
      refine (hvt _).mono ?_
      rintro e w1 ⟨rfl, hb1⟩
      have hv1 := hv0.on hb1
      replace hb1 := tw.trans (hb1.mono tw.size)
      clear zt hv0 tw c0 c1 c2
      go_wp2_with fail
      refine (isRegion_any v rs _ hv1).mono ?_
      rintro e w2 ⟨rfl, hb2⟩
      rw [H2.out]
      go_wp2
      refine bodyPost_ret (results_tmp2 rfl _ _ _) rfl ?_
      exact ⟨_, rfl, RL.nil _ _, hb1.trans (hb2.mono hb1.size)⟩
  · have h1' : validT t = false := by simpa using h1
    have e : moveV t rs = none := if_neg (fun h => h1 h.1)
    rw [e]
    rw [h1'] at hvt
    clear h1 h1' e
    obtain ⟨o, x, y⟩ := t
    unfold Tf.val at *
    dsimp only at *
    go_enter Try.func59, Try.ntmps59
    go_wp2_with fail
    refine (hvt _).mono ?_
    rintro e w1 ⟨rfl, hb1⟩
    go_wp2
    refine bodyPost_ret (results_tmp2 rfl _ _ _) rfl ?_
    exact ⟨_, rfl, RL.nil _ _, tw.trans (hb1.mono tw.size)⟩

end Go.Proofs.Ytooglkdloaaomaa
