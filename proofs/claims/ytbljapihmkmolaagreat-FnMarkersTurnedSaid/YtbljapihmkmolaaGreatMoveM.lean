/- Contracts: the reference's l03Moved and MoveRegion. No conditions of MoveRegion. -/
import Derived.Test.YtbljapihmkmolaaGreatMoveS
import Derived.Deep.CutRange
namespace Go.Proofs.YtbljapihmkmolaaGreat
open Go.RowKit

theorem set4b {w : World} {b : Nat} {t : TypeId} {a0 a1 a2 a3 : Value} (h : Bk w b t #[a0, a1, a2, a3]) (x0 x1 x2 x3 : Value) : Bk ((((w.setCell ⟨b, 0, none⟩ x0).setCell ⟨b, 1, none⟩ x1).setCell ⟨b, 2, none⟩ x2).setCell ⟨b, 3, none⟩ x3) b t #[x0, x1, x2, x3] := (((h.store 0 x0).store 1 x1).store 2 x2).store 3 x3
/-- The images so far are all on the chip. -/
theorem moved_yes {t : Tf} {rs : List Rc} {k : Nat} {r : Rc} (h : okAll ((rs.take k).map (moveR t)) = true) (hr : rs[k]? = some r) (hok : okRc (moveR t r) = true) : okAll ((rs.take (k + 1)).map (moveR t)) = true ∧ (rs.take (k + 1)).map (moveR t) = (rs.take k).map (moveR t) ++ [moveR t r] := by
  have e : (rs.take (k + 1)).map (moveR t) = (rs.take k).map (moveR t) ++ [moveR t r] := by
    rw [List.take_add_one, hr, Option.toList, List.map_append, List.map_cons, List.map_nil]
  refine ⟨?_, e⟩
  rw [e]
  exact okAll_append h (by simp [okAll, hok])
theorem moved_no {t : Tf} {rs : List Rc} {k : Nat} {r : Rc} (hr : rs[k]? = some r) (hok : okRc (moveR t r) = false) : okAll (rs.map (moveR t)) = false := by
  rw [Bool.eq_false_iff]
  intro h
  have := okAll_in h (List.mem_map.2 ⟨r, List.mem_of_getElem? hr, rfl⟩)
  rw [this] at hok
  cases hok
def movedV (mt : Rc → Rc) (rs : List Rc) : List Rc := if okAll (rs.map mt) = true then canon (cellsG (rs.map mt)) else []
theorem movedV_yes {mt : Rc → Rc} {rs : List Rc} (h : okAll (rs.map mt) = true) : movedV mt rs = canon (cellsG (rs.map mt)) := if_pos h
theorem movedV_no {mt : Rc → Rc} {rs : List Rc} (h : okAll (rs.map mt) = false) : movedV mt rs = [] := if_neg (by rw [h]; simp)

set_option maxHeartbeats 3200000 in
set_option maxRecDepth 100000 in
theorem l03Moved_any (t : Tf) (v : Value) (rs : List Rc) (w : World) (ht : t.small) (hv : RL w 0 v rs) (hreg : isReg rs = true) : Calls Tryz.prog 88 #[t.val, v] w fun e w' => ∃ u, e = .returned (.tuple #[u, .bool (okAll (rs.map (moveR t)))]) ∧ RL w' w.heap.size u (movedV (moveR t) rs) ∧ Below w.heap.size w w' := by
  obtain ⟨A, c, rfl, hc, hm, -⟩ := hv.form
  unfold maxLen at hm
  have hl := ((isReg_iff rs).1 hreg).1
  have Hok := Lib.hid (okAll_of_reg hreg)
  have hmv := fun (r : Rc) (hr : okRc r = true) (w0 : World) => l02Move_any t r ht hr w0
  clear hreg
  generalize hmt : moveR t = mt at *
  have Hy := Lib.hid (fun (k : Nat) (r : Rc) (h : okAll ((rs.take k).map mt) = true) (hr : rs[k]? = some r) (hok : okRc (mt r) = true) => hmt ▸ moved_yes (t := t) (hmt.symm ▸ h) hr (hmt.symm ▸ hok))
  have Hn := Lib.hid (fun (k : Nat) (r : Rc) (hr : rs[k]? = some r) (hok : okRc (mt r) = false) => hmt ▸ moved_no (t := t) hr (hmt.symm ▸ hok))
  obtain ⟨o, tx, ty⟩ := t
  unfold Tf.val at hmv ⊢
  dsimp only at hmv ⊢
  clear hmt ht
  have z0 := (Bk.new w 67 #[.int .i64 o, .int .i64 tx, .int .i64 ty]).alloc (.cells #[] 80)
  have e1 : (w.alloc (.cells #[.int .i64 o, .int .i64 tx, .int .i64 ty] 67)).heap.size = w.heap.size + 1 := by simp
  have r0 : RL ((w.alloc (.cells #[.int .i64 o, .int .i64 tx, .int .i64 ty] 67)).alloc (.cells #[] 80)) (w.heap.size + 1) (.slice (some ⟨w.heap.size + 1, 0, none⟩) 0 0) [] := row_empty _ _ _ e1 (by omega)
  have tw := ((Below.refl w.heap.size w).alloc (Nat.le_refl _) (.cells #[.int .i64 o, .int .i64 tx, .int .i64 ty] 67)).alloc (by simp) (.cells #[] 80)
  clear e1
  go_enter Tryz.func88, Tryz.ntmps88
  go_wp2
  go_loopw [6, 7] (fun lv iv wr => ∃ k : Nat, k ≤ rs.length ∧ iv = .int .i64 k ∧ okAll ((rs.take k).map mt) = true ∧ RL wr (w.heap.size + 1) lv ((rs.take k).map mt) ∧ Bk wr w.heap.size 67 #[.int .i64 o, .int .i64 tx, .int .i64 ty] ∧ Below w.heap.size w wr) (fun _ iv _ => rs.length - (intOf iv).toNat)
  case atStart => exact ⟨0, Nat.zero_le _, rfl, rfl, r0, z0, tw⟩
  case round =>
    obtain ⟨k, hk, rfl, hokk, hR, hz, hb⟩ := hrel
    have hV := hv.on hb
    have Hokk := Lib.hid hokk
    clear r0 z0 tw hokk
    by_cases hlt : k < rs.length
    · obtain ⟨ga, x0, y0, x1, y1, rfl, hr, hga, f0, f1, f2, f3⟩ := hV.elem hlt
      have hrok := okAll_get Hok.out hr
      have hc1 := hmv _ hrok
      have Hr := Lib.hid hr
      have Hkl : ((rs.take k).map mt).length ≤ 1000000 := by rw [List.length_map]; exact Nat.le_trans (List.length_take_le' _ _) (by omega)
      obtain ⟨c0, c1, c2⟩ := box3 hz
      have ha1 := hz.lt
      clear hr hrok
      generalize hgm : mt ⟨x0, y0, x1, y1⟩ = m at *
      have Hgm := Lib.hid hgm
      obtain ⟨a0, b0, a1, b1⟩ := m
      unfold Rc.val at hc1
      dsimp only at hc1
      clear hgm
      go_upto_region 5 with fail
      go_cut [8] from 10 to 28 (fun s8 wx => ∃ b : Nat, s8 = .pointer (some ⟨b, 0, none⟩) ∧ Bk wx b 80 #[.int .i64 a0, .int .i64 b0, .int .i64 a1, .int .i64 b1] ∧ wr.heap.size ≤ b ∧ Below wr.heap.size wr wx)
      case first =>
        have hB1 := (Below.refl wr.heap.size wr).drew
        have hB2 := ((Below.refl wr.heap.size wr).alloc (Nat.le_refl _) (.cells #[.int .i64 0, .int .i64 0, .int .i64 0, .int .i64 0] 80)).drew
        have zA := (Bk.new wr 80 #[.int .i64 0, .int .i64 0, .int .i64 0, .int .i64 0]).drew
        have t1 := fun (wz : World) (h : Below wr.heap.size wr wz) => And.intro ((h.cell (p := ⟨w.heap.size, 0, none⟩) ha1).trans c0) (And.intro ((h.cell (p := ⟨w.heap.size, 1, none⟩) ha1).trans c1) (And.intro ((h.cell (p := ⟨w.heap.size, 2, none⟩) ha1).trans c2) (And.intro ((h.cell (p := ⟨ga, k * 4, none⟩) hga).trans f0) (And.intro ((h.cell (p := ⟨ga, k * 4 + 1, none⟩) hga).trans f1) (And.intro ((h.cell (p := ⟨ga, k * 4 + 2, none⟩) hga).trans f2) ((h.cell (p := ⟨ga, k * 4 + 3, none⟩) hga).trans f3))))))
        have hca := hc1 wr.drew
        have hcb := hc1 (wr.alloc (.cells #[.int .i64 0, .int .i64 0, .int .i64 0, .int .i64 0] 80)).drew
        clear hc1
        have esz : (wr.alloc (.cells #[.int .i64 0, .int .i64 0, .int .i64 0, .int .i64 0] 80)).drew.heap.size = wr.heap.size + 1 := by simp [World.drew]
        go_region_held3 (fun w' => w'.cell? ⟨w.heap.size, 0, none⟩ = some (.int .i64 o) ∧ w'.cell? ⟨w.heap.size, 1, none⟩ = some (.int .i64 tx) ∧ w'.cell? ⟨w.heap.size, 2, none⟩ = some (.int .i64 ty) ∧ w'.cell? ⟨ga, k * 4, none⟩ = some (.int .i64 x0) ∧ w'.cell? ⟨ga, k * 4 + 1, none⟩ = some (.int .i64 y0) ∧ w'.cell? ⟨ga, k * 4 + 2, none⟩ = some (.int .i64 x1) ∧ w'.cell? ⟨ga, k * 4 + 3, none⟩ = some (.int .i64 y1))
          (first | with_reducible exact t1 _ hB1 | with_reducible exact t1 _ hB2 | with_reducible exact t1 _ hB3 | with_reducible exact t1 _ (hB3.alloc hB3.size _) | with_reducible exact t1 _ (below4 hB3 (Nat.le_refl _) _ _ _ _))
          (first
            | (go_at_call 145; with_reducible refine hcb.mono ?_; rintro e w3 ⟨rfl, hb3⟩; have zA := zA.on hb3; have hB3 := hB2.trans (hb3.mono hB2.size); have g0 := zA.frozen 0; have g1 := zA.frozen 1; have g2 := zA.frozen 2; have g3 := zA.frozen 3; obtain ⟨d0, d1, d2, d3⟩ := box4 zA)
            | (go_at_call 145; with_reducible refine hca.mono ?_; rintro e w3 ⟨rfl, hb3⟩; have hB3 := hB1.trans (hb3.mono hB1.size)))
        all_goals
          go_wp2_with fail
          go_meet
          first
            | exact ⟨_, rfl, Bk.new w3 _ _, hB3.size, hB3.alloc hB3.size _⟩
            | exact ⟨_, rfl, set4b zA _ _ _ _, Nat.le_refl _, below4 hB3 (Nat.le_refl _) _ _ _ _⟩
      case rest =>
        obtain ⟨b, rfl, hz8, hgb, hB⟩ := hcut
        have hR2 := hR.on hB
        have hz2 := hz.on hB
        have hV2 := hV.on hB
        have hb2 := hb.trans (hB.mono hb.size)
        clear hR hz hV hb f0 f1 f2 f3 c0 c1 c2 hB hc1
        obtain ⟨d0, d1, d2, d3⟩ := box4 hz8
        by_cases hok8 : okRc ⟨a0, b0, a1, b1⟩ = true
        · have hval := valid_spec ⟨a0, b0, a1, b1⟩
          rw [hok8] at hval
          obtain ⟨n1, n2⟩ := Hy.out _ _ Hokk.out Hr.out (by rw [Hgm.out]; exact hok8)
          rw [Hgm.out] at n2
          have N1 := Lib.hid n1
          have N2 := Lib.hid n2
          clear n1 n2 hok8
          unfold Rc.val at hval
          go_wp2_with fail
          refine (hval _).mono ?_
          rintro e w5 ⟨rfl, hb5⟩
          have hR5 := hR2.on hb5
          have hz5 := hz2.on hb5
          have hV5 := hV2.on hb5
          have hz9 := hz8.on hb5
          replace hb5 := hb2.trans (hb5.mono hb2.size)
          clear hR2 hz2 hV2 hb2 hz8 d0 d1 d2 d3 hval
          obtain ⟨d0, d1, d2, d3⟩ := box4 hz9
          have hsz : w.heap.size + 1 ≤ w5.heap.size := hz5.lt
          go_wp2_with (at_builtin; refine wpList_append_R rfl (.tmp 25) (.tmp 27) rfl (w.heap.size + 1) _ _ rfl hR5 _ _ _ _ rfl Hkl hsz ?_; intro v' w' p1 p2 p3)
          exact ⟨⟨k + 1, by omega, by go_num, N1.out, by rw [N2.out]; exact p1, hz5.below p3 (by omega), hb5.trans (p3.mono (by omega))⟩, by simp [intOf]; omega⟩
        · have hok8' : okRc ⟨a0, b0, a1, b1⟩ = false := by simpa using hok8
          have hval := valid_spec ⟨a0, b0, a1, b1⟩
          rw [hok8'] at hval
          have N := Lib.hid (Hn.out _ _ Hr.out (by rw [Hgm.out]; exact hok8'))
          clear hok8 hok8'
          unfold Rc.val at hval
          go_wp2_with fail
          refine (hval _).mono ?_
          rintro e w5 ⟨rfl, hb5⟩
          replace hb5 := hb2.trans (hb5.mono hb2.size)
          go_wp2
          refine bodyPost_ret (results_tmp2 rfl _ _ _) rfl ?_
          exact ⟨_, (by rw [N.out]; rfl), by rw [movedV_no N.out]; exact RL.nil _ _, hb5⟩
    · have hke : k = rs.length := by omega
      subst hke
      rw [List.take_length] at hR
      have hall := Hokk.out
      rw [List.take_length] at hall
      have Hall := Lib.hid hall
      clear hall
      go_wp2_with fail
      refine (l03Bits_any _ _ _ (hR.less (Nat.zero_le _)) Hall.out).mono ?_
      rintro e w3 ⟨u3, rfl, hS, hb3⟩
      go_wp2_with fail
      refine (l03Canon_any u3 _ _ (hS.less (Nat.zero_le _))).mono ?_
      rintro e w4 ⟨u4, rfl, hC, hb4⟩
      replace hb3 := hb.trans (hb3.mono hb.size)
      replace hb4 := hb3.trans (hb4.mono hb3.size)
      replace hC := hC.less hb3.size
      clear hR hz hV hb hS hb3
      go_wp2
      refine bodyPost_ret (results_tmp2 rfl _ _ _) rfl ?_
      exact ⟨_, (by rw [Hall.out]; rfl), by rw [movedV_yes Hall.out]; exact hC, hb4⟩

set_option maxHeartbeats 800000 in
set_option maxRecDepth 100000 in
theorem moveReg_spec (t : Tf) (v : Value) (rs : List Rc) (w : World) (hv : RL w 0 v rs) : Calls Tryz.prog 41 #[t.val, v] w fun e w' => ∃ u, e = .returned (.tuple #[u, .bool (moveV t rs).isSome]) ∧ RL w' w.heap.size u ((moveV t rs).getD []) ∧ Below w.heap.size w w' := by
  have zt := Bk.new w 67 #[.int .i64 t.o, .int .i64 t.x, .int .i64 t.y]
  have hv0 := RL.alloc hv (.cells #[.int .i64 t.o, .int .i64 t.x, .int .i64 t.y] 67)
  have tw := (Below.refl w.heap.size w).alloc (Nat.le_refl _) (.cells #[.int .i64 t.o, .int .i64 t.x, .int .i64 t.y] 67)
  have hvt := validT_spec t
  obtain ⟨c0, c1, c2⟩ := box3 zt
  by_cases h1 : validT t = true
  · by_cases h2 : isReg rs = true
    · have hmd := fun (w0 : World) (h : RL w0 0 v rs) => l03Moved_any t v rs w0 (validT_small h1) h h2
      have hcase : (okAll (rs.map (moveR t)) = (moveV t rs).isSome) ∧ movedV (moveR t) rs = (moveV t rs).getD [] := by
        by_cases h3 : okAll (rs.map (moveR t)) = true
        · rw [moveV_yes h1 h2 h3, movedV_yes h3, h3]; exact ⟨rfl, rfl⟩
        · have h3' : okAll (rs.map (moveR t)) = false := by simpa using h3
          have e : moveV t rs = none := if_neg (fun h => h3 h.2.2)
          rw [e, movedV_no h3', h3']; exact ⟨rfl, rfl⟩
      rw [hcase.1, hcase.2] at hmd
      clear hcase
      rw [h1] at hvt
      have H2 := Lib.hid h2
      clear h1 h2
      generalize (moveV t rs).isSome = B at *
      generalize (moveV t rs).getD [] = L at *
      obtain ⟨o, x, y⟩ := t
      unfold Tf.val at *
      dsimp only at *
      go_enter Tryz.func41, Tryz.ntmps41
      go_wp2_with fail
      refine (hvt _).mono ?_
      rintro e w1 ⟨rfl, hb1⟩
      have z1 := zt.on hb1
      have hv1 := hv0.on hb1
      replace hb1 := tw.trans (hb1.mono tw.size)
      clear zt hv0 tw c0 c1 c2
      obtain ⟨c0, c1, c2⟩ := box3 z1
      go_wp2_with fail
      refine (l03Ok_any v rs _ hv1).mono ?_
      rintro e w2 ⟨rfl, hb2⟩
      rw [H2.out]
      have z2 := z1.on hb2
      have hv2 := hv1.on hb2
      replace hb2 := hb1.trans (hb2.mono hb1.size)
      clear z1 hv1 hb1 c0 c1 c2
      obtain ⟨c0, c1, c2⟩ := box3 z2
      go_wp2_with fail
      refine (hmd _ hv2).mono ?_
      rintro e w3 ⟨u, rfl, hR, hb3⟩
      go_wp2
      refine bodyPost_ret (results_tmp2 rfl _ _ _) rfl ?_
      exact ⟨_, rfl, hR.less hb2.size, hb2.trans (hb3.mono hb2.size)⟩
    · have h2' : isReg rs = false := by simpa using h2
      have e : moveV t rs = none := if_neg (fun h => h2 h.2.1)
      rw [e]
      rw [h1] at hvt
      have H2 := Lib.hid h2'
      clear h1 h2 h2' e
      obtain ⟨o, x, y⟩ := t
      unfold Tf.val at *
      dsimp only at *
      go_enter Tryz.func41, Tryz.ntmps41
      go_wp2_with fail
      refine (hvt _).mono ?_
      rintro e w1 ⟨rfl, hb1⟩
      have hv1 := hv0.on hb1
      replace hb1 := tw.trans (hb1.mono tw.size)
      clear zt hv0 tw c0 c1 c2
      go_wp2_with fail
      refine (l03Ok_any v rs _ hv1).mono ?_
      rintro e w2 ⟨rfl, hb2⟩
      rw [H2.out]
      go_wp2
      refine bodyPost_ret (results_tmp2 rfl _ _ _) rfl ?_
      exact ⟨_, rfl, RL.nil _ _, hb1.trans (hb2.mono hb1.size)⟩
  · have h1' : validT t = false := by simpa using h1
    have e : moveV t rs = none := if_neg (fun h => h1 h.1)
    rw [e]
    rw [h1'] at hvt
    clear h1 h1' e
    obtain ⟨o, x, y⟩ := t
    unfold Tf.val at *
    dsimp only at *
    go_enter Tryz.func41, Tryz.ntmps41
    go_wp2_with fail
    refine (hvt _).mono ?_
    rintro e w1 ⟨rfl, hb1⟩
    go_wp2
    refine bodyPost_ret (results_tmp2 rfl _ _ _) rfl ?_
    exact ⟨_, rfl, RL.nil _ _, tw.trans (hb1.mono tw.size)⟩

end Go.Proofs.YtbljapihmkmolaaGreat
