/- Contract: the reference's l07Flood (over sides). Condition: a cell of the chip. -/
import Derived.Test.YtbljapihmkmolaaGreatPartsF
namespace Go.Proofs.YtbljapihmkmolaaGreat
open Go.RowKit

/-- The step leads to both sides, off the set, or to a cell of the list. -/
theorem vis_has {L : Gr} {qs : List Nat} {j : Nat} {a b X Y : Int} (h : Vis L qs j ((a + 1) * 3 + (b + 1))) (ha : -1 ≤ a ∧ a ≤ 1) (hb : -1 ≤ b ∧ b ≤ 1) (hX : X = ((j % 80 : Nat) : Int) - 40 + b) (hY : Y = ((j / 80 : Nat) : Int) - 40 + a)
    (ho : (b ≠ 0 ∧ a ≠ 0) ∨ hasG L X Y = false ∨ (ix X Y).toNat ∈ qs) : Vis L qs j ((a + 1) * 3 + (b + 1 + 1)) := by
  rw [← Int.add_assoc]
  refine vis_next h fun m hm hn hL hp => ?_
  obtain ⟨h1, h2, h3⟩ := vis_pos hn ha hb hp
  obtain ⟨h4, h5⟩ := ix_of (m := m) (x := X) (y := Y) hm (by omega) (by omega)
  rcases ho with ho | ho | ho
  · omega
  · rw [hasG_on h4, h5, hL] at ho
    cases ho
  · rw [h5] at ho
    exact ho
theorem grid_nbr {qs : List Nat} {j : Nat} {a b X Y : Int} (hj : j ∈ qs) (ha : -1 ≤ a ∧ a ≤ 1) (hb : -1 ≤ b ∧ b ≤ 1) (hz : b = 0 ∨ a = 0) (hX : X = ((j % 80 : Nat) : Int) - 40 + b) (hY : Y = ((j / 80 : Nat) : Int) - 40 + a)
    (hon : onC X Y = true) (hnew : setL qs (ix X Y).toNat = false) : nbr j (ix X Y).toNat ∧ (ix X Y).toNat < 6400 := by
  rw [onC_iff] at hon
  have e : ((ix X Y).toNat : Int) = (Y + 40) * 80 + (X + 40) := by unfold ix; omega
  exact ⟨on_nbr hj ha hb (by omega) (by omega) (by omega) hnew, by omega⟩

set_option maxHeartbeats 12800000 in
set_option maxRecDepth 100000 in
/-- l07Flood, over sides. -/
theorem flood7_any (gv cv : Nat) (L : Gr) (x y : Int) (w : World) (hG : GB w gv 4 L) (hon : onC x y = true) :
    Calls Tryz.prog 197 #[.slice (some ⟨gv, 0, none⟩) 6400 cv, .int .i64 x, .int .i64 y, .bool false] w fun e w' => ∃ z, e = .returned z ∧ GS w' w.heap.size z (compG L (ix x y).toNat) ∧ Below w.heap.size w w' := by
  have hxy := (onC_iff x y).1 hon
  have hs6 := (ix_nat hon).2
  rw [← (ix_nat hon).1] at hs6
  have hi : 0 ≤ ix x y ∧ ix x y < 6400 := by unfold ix; omega
  have hg := hG.lt
  have hmk := run_make_6400
  have g0 := GB.made w 4
  have hz0 := g0.frozen (ix x y).toNat
  have hc0 := g0.cell hs6
  have g1 := g0.store hs6 true
  have l1 := (hG.alloc (.cells noCells 4)).other (p := ⟨w.heap.size, (ix x y).toNat, none⟩) (show gv ≠ w.heap.size by omega) (.bool true)
  have b1 := ((Below.refl w.heap.size w).alloc (Nat.le_refl _) (.cells noCells 4)).setCell (p := ⟨w.heap.size, (ix x y).toNat, none⟩) (Nat.le_refl _) (.bool true)
  have E : (w.alloc (.cells noCells 4)).setCell ⟨w.heap.size, (ix x y).toNat, none⟩ (.bool true) = w.alloc (.cells (noCells.setIfInBounds (ix x y).toNat (.bool true)) 4) := by simp [go_sem]
  rw [E] at g1 l1 b1
  have c1 := PL.one (w.alloc (.cells (noCells.setIfInBounds (ix x y).toNat (.bool true)) 4)) 175 (B := w.heap.size) (by simp) x y
  rw [← pairI_ix hon] at c1
  have g2 := g1.alloc (.cells #[.int .i64 x, .int .i64 y] 175)
  have l2 := l1.alloc (.cells #[.int .i64 x, .int .i64 y] 175)
  have b2 := b1.alloc (by simp) (.cells #[.int .i64 x, .int .i64 y] 175)
  have ez : (w.alloc (.cells (noCells.setIfInBounds (ix x y).toNat (.bool true)) 4)).heap.size = w.heap.size + 1 := by simp
  rw [ez] at c1
  have es : setL [(ix x y).toNat] = updG emptyG (ix x y).toNat true := (setL_snoc [] (ix x y).toNat).trans (by congr)
  rw [← es] at g2
  obtain ⟨s, hs⟩ : ∃ s, s = (ix x y).toNat := ⟨_, rfl⟩
  have hss6 : s < 6400 := by omega
  clear g1 l1 b1 hG es hon
  have hzb := (g0.alloc (.cells #[.int .i64 x, .int .i64 y] 175)).frozen (ix x y).toNat
  have hcb := (g0.alloc (.cells #[.int .i64 x, .int .i64 y] 175)).cell hs6
  go_enter Tryz.func197, Tryz.ntmps197
  go_wp2_with (go_at_call 156; refine (l03At_any x y (by omega) _).mono ?_; rintro e w1 ⟨rfl, rfl⟩)
  clear hmk hz0 hc0 g0 E hzb hcb
  obtain ⟨W0, hW0⟩ : ∃ W0, W0 = (w.alloc (.cells (noCells.setIfInBounds (ix x y).toNat (.bool true)) 4)).alloc (.cells #[.int .i64 x, .int .i64 y] 175) := ⟨_, rfl⟩
  rw [← hW0] at c1 g2 l2 b2 ⊢
  clear hW0
  rw [← hs] at c1 g2
  have Hs := Lib.hid hs
  clear hs
  go_loopw [10, 11] (fun qv iv wr => ∃ (i : Nat) (qs : List Nat), i ≤ qs.length ∧ iv = .int .i64 i ∧ Srch L s qs ∧ Done L qs i ∧ PL wr 175 w.heap.size qv (qs.map pairI) ∧ GB wr w.heap.size 4 (setL qs) ∧ GB wr gv 4 L ∧ Below w.heap.size w wr) (fun _ iv _ => 6400 - (intOf iv).toNat)
  case atStart => exact ⟨0, [s], Nat.zero_le _, rfl, srch_start L hss6, done_zero L _, c1, g2, l2, b2⟩
  case round =>
    obtain ⟨i, qs0, hiq, rfl, hS, hD, hQ, hO, hL, hb⟩ := hrel
    clear c1 g2 l2 b2
    have hlen := srch_len hS
    obtain ⟨A, c, hva, hc, hm, -⟩ := hQ.form
    rw [List.length_map] at hva hc
    subst hva
    have hm' : qs0.length ≤ 9223372036854775807 := by omega
    by_cases hlt : i < qs0.length
    · obtain ⟨j, hj⟩ : ∃ j, qs0[i]? = some j := ⟨_, List.getElem?_eq_getElem hlt⟩
      have H0 := Lib.hid (show Srch L s qs0 ∧ Done L qs0 i ∧ qs0[i]? = some j ∧ Vis L qs0 j ((-1 + 1) * 3) from ⟨hS, hD, hj, vis_zero L qs0 j⟩)
      clear hS hD hj
      go_wp2
      go_loopw [10, 12] (fun qv av wr => ∃ (a : Int) (qs : List Nat), -1 ≤ a ∧ a ≤ 2 ∧ av = .int .i64 a ∧ Hid (Srch L s qs ∧ Done L qs i ∧ qs[i]? = some j ∧ Vis L qs j ((a + 1) * 3)) ∧ PL wr 175 w.heap.size qv (qs.map pairI) ∧ GB wr w.heap.size 4 (setL qs) ∧ GB wr gv 4 L ∧ Below w.heap.size w wr) (fun _ av _ => (2 - intOf av).toNat)
      case atStart => exact ⟨-1, qs0, by omega, by omega, rfl, H0, hQ, hO, hL, hb⟩
      case round =>
        obtain ⟨a, qs1, ha1, ha2, rfl, H1, hQ1, hO1, hL1, hb1⟩ := hrel
        clear H0 hQ hO hL hb
        by_cases hlta : a < 2
        · have hdA : decide (a ≤ 1) = true := decide_eq_true (by omega)
          go_wp2
          try rw [hdA]
          clear hdA
          go_loopw [10, 13] (fun qv bv wr => ∃ (b : Int) (qs : List Nat), -1 ≤ b ∧ b ≤ 2 ∧ bv = .int .i64 b ∧ Hid (Srch L s qs ∧ Done L qs i ∧ qs[i]? = some j ∧ Vis L qs j ((a + 1) * 3 + (b + 1))) ∧ PL wr 175 w.heap.size qv (qs.map pairI) ∧ GB wr w.heap.size 4 (setL qs) ∧ GB wr gv 4 L ∧ Below w.heap.size w wr) (fun _ bv _ => (2 - intOf bv).toNat)
          case atStart => exact ⟨-1, qs1, by omega, by omega, rfl, Lib.hid (by have h := H1.out; simpa using h), hQ1, hO1, hL1, hb1⟩
          case round =>
            obtain ⟨b, qs, hb1', hb2', rfl, H2, hQ2, hO2, hL2, hb2⟩ := hrel
            clear H1 hQ1 hO1 hL1 hb1
            by_cases hltb : b < 2
            · obtain ⟨A2, c2, hva2, hc2, hm2, -⟩ := hQ2.form
              rw [List.length_map] at hva2 hc2
              subst hva2
              have hj2 := H2.out.2.2.1
              have hi2 : i < qs.length := (List.getElem?_eq_some_iff.1 hj2).1
              have hjm : (qs.map pairI)[i]? = some (pairI j) := by rw [List.getElem?_map, hj2]; rfl
              obtain ⟨gq, rfl, hgq, f0, f1⟩ := hQ2.elem hjm
              have hj6 : j < 6400 := H2.out.1.on j (List.mem_of_getElem? hj2)
              unfold pairI at f0 f1
              dsimp only at f0 f1
              obtain ⟨xj, hxj⟩ : ∃ n : Int, n = ((j % 80 : Nat) : Int) - 40 := ⟨_, rfl⟩
              obtain ⟨yj, hyj⟩ : ∃ n : Int, n = ((j / 80 : Nat) : Int) - 40 := ⟨_, rfl⟩
              rw [← hxj] at f0
              rw [← hyj] at f1
              have hjr : -40 ≤ xj ∧ xj ≤ 39 ∧ -40 ≤ yj ∧ yj ≤ 39 := by omega
              have hlen2 := srch_len H2.out.1
              have hii : i < 9223372036854775807 := by omega
              have Hx := Lib.hid hxj
              have Hy := Lib.hid hyj
              clear hjm hj2 hxj hyj
              have hwx := Go.IntWalk.i64_in (xj + b) (by omega)
              have hwy := Go.IntWalk.i64_in (yj + a) (by omega)
              have hszr := hb2.size
              have hgs := hO2.lt
              go_upto_region 13 with fail
              go_cut [10, 11, 12, 13, 14] from 37 to 94 (fun sq si sa sb sp wx => sq = .slice (some ⟨gq, 0, none⟩) qs.length c2 ∧ si = .int .i64 i ∧ sa = .int .i64 a ∧ sb = .int .i64 b ∧ (∃ pb : Nat, sp = .pointer (some ⟨pb, 0, none⟩) ∧ w.heap.size < pb ∧ Bk wx pb 175 #[.int .i64 (xj + b), .int .i64 (yj + a)]) ∧ PL wx 175 w.heap.size (.slice (some ⟨gq, 0, none⟩) qs.length c2) (qs.map pairI) ∧ GB wx w.heap.size 4 (setL qs) ∧ GB wx gv 4 L ∧ Below w.heap.size w wx)
              case first =>
                have t1 := fun o => (Below.refl wr.heap.size wr).alloc (Nat.le_refl _) o
                have k1 := fun o => ((t1 o).cell (p := ⟨gq, i * 2, none⟩) hgq).trans f0
                have q1 := fun o => ((t1 o).cell (p := ⟨gq, i * 2 + 1, none⟩) hgq).trans f1
                have fQ : ∀ o, PL (wr.alloc o).drew 175 w.heap.size (.slice (some ⟨gq, 0, none⟩) qs.length c2) (qs.map pairI) := fun o => hQ2.alloc o
                have fO : ∀ o, GB (wr.alloc o).drew w.heap.size 4 (setL qs) := fun o => hO2.alloc o
                have fL : ∀ o, GB (wr.alloc o).drew gv 4 L := fun o => hL2.alloc o
                have fB : ∀ o, Below w.heap.size w (wr.alloc o).drew := fun o => (hb2.trans ((t1 o).mono hszr)).drew
                have p0 : Bk (wr.alloc (.cells #[.int .i64 (xj + b), .int .i64 (yj + a)] 175)).drew wr.heap.size 175 #[.int .i64 (xj + b), .int .i64 (yj + a)] := Bk.new wr 175 _
                have FQ := Lib.hid fQ
                have FO := Lib.hid fO
                have FL := Lib.hid fL
                have FB := Lib.hid fB
                have P0 := Lib.hid p0
                have hn0 : w.heap.size < wr.heap.size := hgs
                clear t1 fQ fO fL fB p0 hQ2 hO2 hL2 hb2 hgs
                go_region
                all_goals
                  go_wp2_with fail
                  go_meet
                  exact ⟨rfl, rfl, rfl, rfl, ⟨_, rfl, hn0, P0.out⟩, FQ.out _, FO.out _, FL.out _, FB.out _⟩
              case rest =>
                obtain ⟨rfl, rfl, rfl, rfl, ⟨pb, rfl, hpb, hP⟩, hQ3, hO3, hL3, hb3⟩ := hcut
                have hX0 : xj + b = ((j % 80 : Nat) : Int) - 40 + b := by rw [Hx.out]
                have hY0 : yj + a = ((j / 80 : Nat) : Int) - 40 + a := by rw [Hy.out]
                have hXb : -1000 ≤ xj + b ∧ xj + b ≤ 1000 ∧ -1000 ≤ yj + a ∧ yj + a ≤ 1000 := by omega
                generalize xj + b = X at *
                generalize yj + a = Y at *
                have HX := Lib.hid hX0
                have HY := Lib.hid hY0
                have hgs3 := hO3.lt
                obtain ⟨c0, c1⟩ := box2 hP
                clear hX0 hY0 hQ2 hO2 hL2 hb2 f0 f1 hwx hwy
                have HV := Lib.hid (fun ho => vis_has H2.out.2.2.2 ⟨ha1, by omega⟩ ⟨hb1', by omega⟩ HX.out HY.out ho)
                have hKeep := Lib.hid (show Srch L s qs ∧ Done L qs i ∧ qs[i]? = some j from ⟨H2.out.1, H2.out.2.1, H2.out.2.2.1⟩)
                by_cases hd : b ≠ 0 ∧ a ≠ 0
                · have H3 := Lib.hid (show Srch L s qs ∧ Done L qs i ∧ qs[i]? = some j ∧ Vis L qs j ((a + 1) * 3 + (b + 1 + 1)) from ⟨hKeep.out.1, hKeep.out.2.1, hKeep.out.2.2, HV.out (.inl hd)⟩)
                  obtain ⟨hd1, hd2⟩ := hd
                  clear H2 HV hKeep
                  go_wp2
                  exact ⟨⟨b + 1, qs, by omega, by omega, by go_num, H3, hQ3, hO3, hL3, hb3⟩, by simp [intOf]; omega⟩
                · have hz : b = 0 ∨ (b ≠ 0 ∧ a = 0) := by omega
                  have hz' : b = 0 ∨ a = 0 := by omega
                  have hl := Lib.hid (l03Has_any (.slice (some ⟨gv, 0, none⟩) 6400 cv) L X Y wc ⟨gv, cv, rfl, Nat.zero_le _, hL3⟩)
                  by_cases hin : hasG L X Y = true
                  · have hc4 := hasG_in hin
                    have hon4 : onC X Y = true := (onC_iff X Y).2 hc4
                    have hi4 : 0 ≤ ix X Y ∧ ix X Y < 6400 := by unfold ix; omega
                    have hLm : L (ix X Y).toNat = true := (hasG_on hon4).symm.trans hin
                    have cs := hO3.ix_ hon4
                    by_cases hse : setL qs (ix X Y).toNat = true
                    · rw [hse] at cs
                      have H4 := Lib.hid (show Srch L s qs ∧ Done L qs i ∧ qs[i]? = some j ∧ Vis L qs j ((a + 1) * 3 + (b + 1 + 1)) from ⟨hKeep.out.1, hKeep.out.2.1, hKeep.out.2.2, HV.out (.inr (.inr ((setL_iff qs _).1 hse)))⟩)
                      rw [hin] at hl
                      clear hin hon4 hLm hse H2 HV hKeep hz'
                      rcases hz with rfl | ⟨hz1, rfl⟩
                      all_goals
                        go_wp2_with fail
                        refine hl.out.mono ?_
                        rintro e w5 ⟨rfl, rfl⟩
                        go_wp2_with (go_at_call 156; refine (l03At_any X Y hXb _).mono ?_; rintro e w6 ⟨rfl, rfl⟩)
                        exact ⟨⟨_, qs, by omega, by omega, by go_num, H4, hQ3, hO3, hL3, hb3⟩, by simp [intOf]; try omega⟩
                    · have hse' : setL qs (ix X Y).toNat = false := by simpa using hse
                      rw [hse'] at cs
                      have hjq : j ∈ qs := List.mem_of_getElem? hKeep.out.2.2
                      obtain ⟨hn, hm6⟩ := grid_nbr hjq ⟨ha1, by omega⟩ ⟨hb1', by omega⟩ hz' HX.out HY.out hon4 hse'
                      have H4 := Lib.hid (show Srch L s (qs ++ [(ix X Y).toNat]) ∧ Done L (qs ++ [(ix X Y).toNat]) i ∧ (qs ++ [(ix X Y).toNat])[i]? = some j ∧ Vis L (qs ++ [(ix X Y).toNat]) j ((a + 1) * 3 + (b + 1 + 1)) from
                        ⟨srch_put hKeep.out.1 hjq hn hm6 hLm hse', done_put hKeep.out.2.1 (Nat.le_of_lt hi2) _, by rw [List.getElem?_append_left hi2]; exact hKeep.out.2.2,
                          vis_has (vis_put H2.out.2.2.2 _) ⟨ha1, by omega⟩ ⟨hb1', by omega⟩ HX.out HY.out (.inr (.inr (by simp)))⟩)
                      have hne : some w.heap.size ≠ (Value.slice (some ⟨gq, 0, none⟩) qs.length c2).ownBlock := by obtain ⟨cs, hk, _⟩ := hO3; exact hk.apart' hQ3 (by decide)
                      have hzO := hO3.frozen (ix X Y).toNat
                      have hst := hO3.store hm6 true
                      rw [← setL_snoc] at hst
                      have hQ4 := hQ3.other (p := ⟨w.heap.size, (ix X Y).toNat, none⟩) hne (.bool true)
                      have hL4 := hL3.other (p := ⟨w.heap.size, (ix X Y).toNat, none⟩) (show gv ≠ w.heap.size by omega) (.bool true)
                      have hb4 := hb3.setCell (p := ⟨w.heap.size, (ix X Y).toNat, none⟩) (Nat.le_refl _) (.bool true)
                      have hsz := hb4.size
                      have Hs3 := Lib.hid (show (wc.setCell ⟨w.heap.size, (ix X Y).toNat, none⟩ (.bool true)).heap.size = wc.heap.size by simp)
                      have Hm := Lib.hid (show (qs ++ [(ix X Y).toNat]).map pairI = qs.map pairI ++ [(X, Y)] by rw [List.map_append, List.map_cons, List.map_nil, pairI_ix hon4])
                      have hlq : (qs.map pairI).length ≤ 1000000 := by rw [List.length_map]; omega
                      obtain ⟨p0, p1⟩ := box2 (hP.other (p := ⟨w.heap.size, (ix X Y).toNat, none⟩) (show pb ≠ w.heap.size by omega) (.bool true))
                      rw [hin] at hl
                      clear hin hon4 hLm hse hse' H2 HV hKeep hn hjq hO3 hQ3 hL3 hb3 hP hz'
                      rcases hz with rfl | ⟨hz1, rfl⟩
                      all_goals
                        go_wp2_with fail
                        refine hl.out.mono ?_
                        rintro e w5 ⟨rfl, rfl⟩
                        go_wp2_with (first | (go_at_call 156; refine (l03At_any X Y hXb _).mono ?_; rintro e w6 ⟨rfl, rfl⟩)
                                           | (at_builtin; refine wpList_append_P rfl (.tmp 91) (.tmp 93) rfl w.heap.size _ (qs.map pairI) rfl hQ4 X Y (by rw [Hs3.out]; rfl) hlq hsz ?_; intro v' w' k1 k2 k3 k4))
                        rw [← Hm.out] at k1
                        exact ⟨⟨_, qs ++ [(ix X Y).toNat], by omega, by omega, by go_num, H4, k1, hst.grown k2 hne, hL4.keptQ hQ4 (by decide) k2, hb4.trans k3⟩, by simp [intOf]; try omega⟩
                  · have hin' : hasG L X Y = false := by simpa using hin
                    have H4 := Lib.hid (show Srch L s qs ∧ Done L qs i ∧ qs[i]? = some j ∧ Vis L qs j ((a + 1) * 3 + (b + 1 + 1)) from ⟨hKeep.out.1, hKeep.out.2.1, hKeep.out.2.2, HV.out (.inr (.inl hin'))⟩)
                    rw [hin'] at hl
                    clear hin hin' H2 HV hKeep hz'
                    rcases hz with rfl | ⟨hz1, rfl⟩
                    all_goals
                      go_wp2_with fail
                      refine hl.out.mono ?_
                      rintro e w5 ⟨rfl, rfl⟩
                      go_wp2
                      exact ⟨⟨_, qs, by omega, by omega, by go_num, H4, hQ3, hO3, hL3, hb3⟩, by simp [intOf]; try omega⟩
            · have e : (a + 1) * 3 + (b + 1) = (a + 1 + 1) * 3 := by omega
              rw [e] at H2
              go_wp2
              exact ⟨⟨a + 1, qs, by omega, by omega, rfl, H2, hQ2, hO2, hL2, hb2⟩, by simp [intOf]; omega⟩
        · have ha : a = 2 := by omega
          subst ha
          obtain ⟨h1, h2, h3, h4⟩ := H1.out
          have hd := Lib.hid (done_step h2 h3 (vis_nine h4))
          have hs1 := Lib.hid h1
          have hi1 : i + 1 ≤ qs1.length := (List.getElem?_eq_some_iff.1 h3).1
          have hl6 := srch_len h1
          clear h1 h2 h3 h4 H1
          go_wp2
          exact ⟨⟨i + 1, qs1, hi1, by go_num, hs1.out, hd.out, hQ1, hO1, hL1, hb1⟩, by simp [intOf]; omega⟩
    · have hie : i = qs0.length := by omega
      have hfin : setL qs0 = compG L s := srch_end hS (hie ▸ hD)
      rw [hfin, Hs.out] at hO
      clear hS hD
      go_wp2
      go_ret
      exact ⟨_, rfl, ⟨_, _, rfl, Nat.le_refl _, hO⟩, hb⟩

end Go.Proofs.YtbljapihmkmolaaGreat
