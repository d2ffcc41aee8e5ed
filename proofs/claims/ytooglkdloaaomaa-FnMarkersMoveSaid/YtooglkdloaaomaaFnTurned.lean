/- The walk of the law FnWidthTurned, over drawn inputs: it answers true. No conditions. Contract: w9Place. -/
import Derived.Test.YtooglkdloaaomaaMoveM
import Derived.Test.YtooglkdloaaomaaDice
import Derived.Test.YtooglkdloaaomaaCellD
import Derived.Test.YtooglkdloaaomaaSame
import Derived.Test.YtooglkdloaaomaaSpac1
import Derived.Deep.CutRange
namespace Go.Proofs.Ytooglkdloaaomaa
open Go.RowKit

theorem turned_facts {t : Tf} {rs qs : List Rc} (d : Int) (h : moveV t rs = some qs) : moveV t (markV rs d) = some (markV qs d) ∧ moveV t (markgV rs d) = some (markgV qs d) ∧ minV qs = minV rs ∧ minsV qs = minsV rs := by
  obtain ⟨h1, h2, e, hI⟩ := moveV_is h
  have ht := ((validT_iff t).1 h1).1
  have hq : isReg qs = true := by rw [e]; exact isReg_canon _
  refine ⟨?_, ?_, ?_, ?_⟩
  · by_cases hc : 1 ≤ d ∧ d ≤ 8
    · rw [markV_yes (by rw [chkV_of h2]; exact (inB_iff _ _ _).2 hc), markV_yes (by rw [chkV_of hq]; exact (inB_iff _ _ _).2 hc)]
      exact moveV_marks h1 (image_narrow ht hI)
    · have hb : inB 1 d 8 = false := by rw [inB_no]; exact hc
      rw [markV_no (by rw [chkV_of h2]; exact hb), markV_no (by rw [chkV_of hq]; exact hb)]
      exact moveV_nil h1
  · by_cases hc : 1 ≤ d ∧ d ≤ 8
    · rw [markgV_yes (by rw [chkV_of h2]; exact (inB_iff _ _ _).2 hc), markgV_yes (by rw [chkV_of hq]; exact (inB_iff _ _ _).2 hc)]
      exact moveV_marks h1 (image_close ht hI)
    · have hb : inB 1 d 8 = false := by rw [inB_no]; exact hc
      rw [markgV_no (by rw [chkV_of h2]; exact hb), markgV_no (by rw [chkV_of hq]; exact hb)]
      exact moveV_nil h1
  · rw [minV_yes hq, minV_yes h2]
    exact (min_same (allG_ok _) (allG_ok _) fun d => image_nil ht (image_narrow ht hI)).symm
  · rw [minsV_yes hq, minsV_yes h2]
    exact (min_same (allGaps_ok _) (allGaps_ok _) fun d => image_nil ht (image_close ht hI)).symm

set_option maxHeartbeats 1600000 in
set_option maxRecDepth 100000 in
/-- w9Place. -/
theorem place_any (g : Nat) (w : World) (hD : DiceL w g) : Calls Try.prog 62 #[.pointer (some ⟨g, 0, none⟩)] w fun e w' => ∃ o x y : Int, e = .returned (.agg #[.int .i64 o, .int .i64 x, .int .i64 y]) ∧ validT ⟨o, x, y⟩ = true ∧ DiceL w' g ∧ w.grownBy w' (some g) := by
  have hg := hD.lt
  have z0 := Bk.new w 61 #[.int .i64 0, .int .i64 0, .int .i64 0]
  have hD0 := hD.alloc (.cells #[.int .i64 0, .int .i64 0, .int .i64 0] 61)
  have hA0 := only_alloc (only_refl w (some g)) (.cells #[.int .i64 0, .int .i64 0, .int .i64 0] 61)
  clear hD
  go_enter Try.func62, Try.ntmps62
  go_wp2_with fail
  refine (below_any g 8 _ hD0 (by omega)).mono ?_
  rintro e w1 ⟨k1, rfl, hk1, hD1, hG1⟩
  go_wp2_with fail
  refine (below_any g 9 _ hD1 (by omega)).mono ?_
  rintro e w2 ⟨k2, rfl, hk2, hD2, hG2⟩
  have e2 := Go.IntWalk.i64_in (k2 - 4) (by omega)
  go_wp2_with fail
  refine (below_any g 9 _ hD2 (by omega)).mono ?_
  rintro e w3 ⟨k3, rfl, hk3, hD3, hG3⟩
  have e3 := Go.IntWalk.i64_in (k3 - 4) (by omega)
  have hA3 := only_trans (only_trans (only_trans hA0 hG1) hG2) hG3
  have z3 := ((z0.grown hG1 (by simp; omega)).grown hG2 (by simp; omega)).grown hG3 (by simp; omega)
  obtain ⟨c0, c1, c2⟩ := box3 z3
  have f0 := z3.frozen 0
  have f1 := z3.frozen 1
  have f2 := z3.frozen 2
  have hfin := And.intro (((hD3.other (p := ⟨w.heap.size, 0, none⟩) hg (.int .i64 k1)).other (p := ⟨w.heap.size, 1, none⟩) hg (.int .i64 (k2 - 4))).other (p := ⟨w.heap.size, 2, none⟩) hg (.int .i64 (k3 - 4))) (only_above hA3 ((((Below.refl w.heap.size w3).setCell (p := ⟨w.heap.size, 0, none⟩) (Nat.le_refl _) (.int .i64 k1)).setCell (p := ⟨w.heap.size, 1, none⟩) (Nat.le_refl _) (.int .i64 (k2 - 4))).setCell (p := ⟨w.heap.size, 2, none⟩) (Nat.le_refl _) (.int .i64 (k3 - 4))))
  clear z0 z3 hD0 hA0 hD1 hG1 hD2 hG2 hD3 hG3 hA3
  go_wp2
  refine bodyPost_ret (v := .agg #[.int .i64 k1, .int .i64 (k2 - 4), .int .i64 (k3 - 4)]) (by simp [results, Try.results62, go_sem, *]) rfl ?_
  exact ⟨_, _, _, rfl, (validT_iff _).2 (by dsimp only; omega), hfin.1, hfin.2⟩

set_option maxHeartbeats 6400000 in
set_option maxRecDepth 100000 in
/-- FnWidthTurned answers true. -/
theorem lawFnTurned (A : Option Addr) (n c : Nat) (w : World) (hA : ArgB w A n) (hm : n ≤ maxLen) : Calls Try.prog 13 #[.slice A n c] w fun e w' => e = .returned (.bool true) ∧ Below w.heap.size w w' := by
  go_enter Try.func13, Try.ntmps13
  go_wp2_with fail
  refine (big_any A n c w hm).mono ?_
  rintro e w0 ⟨rfl, rfl⟩
  by_cases h4 : 4096 < n
  · rw [decide_eq_true h4]
    go_wp2
    go_ret
    exact ⟨rfl, Below.refl _ _⟩
  · rw [decide_eq_false h4]
    go_wp2_with fail
    refine (roll_any A n c 1703 _ hA (by omega) (by omega)).mono ?_
    rintro e w1 ⟨g, rfl, hg, hD, hb1⟩
    have hA1 := hA.on hb1
    go_wp2_with fail
    refine (drawWidth_any A n c _ hA1 (by omega)).mono ?_
    rintro e w2 ⟨v, rs, d, rfl, hR, hl, hd, hb2⟩
    have hgl := hD.lt
    replace hR := hR.less (show g + 1 ≤ w1.heap.size by omega)
    replace hD := hD.on hb2
    replace hb2 := hb1.trans (hb2.mono hb1.size)
    clear hA h4 hA1 hb1
    go_wp2_with fail
    refine (place_any g _ hD).mono ?_
    rintro e w3 ⟨o, x, y, rfl, hvt, hD3, hG3⟩
    have hR3 := (hR.keptG hG3 (Nat.lt_succ_self g)).less (Nat.zero_le _)
    have hb3 := hb2.trans (grown_below hG3 (fun q hq => by simp at hq; omega) hb2.size)
    have hzt := Bk.new w3 61 #[.int .i64 o, .int .i64 x, .int .i64 y]
    have hR4 := RL.alloc hR3 (.cells #[.int .i64 o, .int .i64 x, .int .i64 y] 61)
    have hb4 := hb3.alloc hb3.size (.cells #[.int .i64 o, .int .i64 x, .int .i64 y] 61)
    have hmv := fun (v' : Value) (L : List Rc) (w' : World) (h : RL w' 0 v' L) => moveReg_spec ⟨o, x, y⟩ v' L w' h
    unfold Tf.val at hmv
    dsimp only at hmv
    obtain ⟨c0, c1, c2⟩ := box3 hzt
    have hfacts := fun (qs : List Rc) (h : moveV ⟨o, x, y⟩ rs = some qs) => turned_facts d h
    clear hR hD hb2 hD3 hG3 hR3 hb3
    go_wp2_with fail
    refine (hmv _ rs _ hR4).mono ?_
    clear c0 c1 c2
    revert hzt hR4 hb4
    generalize w3.alloc (.cells #[.int .i64 o, .int .i64 x, .int .i64 y] 61) = w4
    generalize w3.heap.size = bt
    intro hzt hR4 hb4
    rintro e w5 ⟨u, rfl, hQ, hb5⟩
    replace hzt := hzt.on hb5
    have hR5 := hR4.on hb5
    replace hQ := hQ.less (Nat.zero_le _)
    replace hb5 := hb4.trans (hb5.mono hb4.size)
    clear hR4 hb4
    cases hmq : moveV ⟨o, x, y⟩ rs with
    | none =>
      rw [hmq] at hQ
      dsimp only [Option.isSome_none, Option.getD_none] at hQ ⊢
      go_wp2
      go_ret
      exact ⟨rfl, hb5⟩
    | some qs =>
      obtain ⟨g1, g2, g3, g4⟩ := hfacts qs hmq
      rw [hmq] at hQ
      dsimp only [Option.isSome_some, Option.getD_some] at hQ ⊢
      have hm1 := fun (v' : Value) (w' : World) (h : RL w' 0 v' (markV rs d)) => hmv v' _ w' h
      have hm2 := fun (v' : Value) (w' : World) (h : RL w' 0 v' (markgV rs d)) => hmv v' _ w' h
      rw [g1] at hm1
      rw [g2] at hm2
      dsimp only [Option.isSome_some, Option.getD_some] at hm1 hm2
      have G3 := Lib.hid g3
      have G4 := Lib.hid g4
      clear hfacts hmq g1 g2 g3 g4 hmv
      go_upto_region 9 with fail
      go_cut [9, 10] from 32 to 39 (fun s9 s10 wx => s10 = .bool true ∧ RL wx 0 s9 (markV qs d) ∧ Below w5.heap.size w5 wx)
      case first =>
        obtain ⟨c0, c1, c2⟩ := box3 hzt
        have hlt := hzt.lt
        have t1 := fun (wz : World) (h : Below w5.heap.size w5 wz) => And.intro ((h.cell (p := ⟨bt, 0, none⟩) hlt).trans c0) (And.intro ((h.cell (p := ⟨bt, 1, none⟩) hlt).trans c1) ((h.cell (p := ⟨bt, 2, none⟩) hlt).trans c2))
        have hV0 := (Below.refl w5.heap.size w5).drew
        have hca := markw_impl v rs d w5.drew hR5.drew
        go_region_held3 (fun w' => w'.cell? ⟨bt, 0, none⟩ = some (.int .i64 o) ∧ w'.cell? ⟨bt, 1, none⟩ = some (.int .i64 x) ∧ w'.cell? ⟨bt, 2, none⟩ = some (.int .i64 y)) (first | with_reducible exact t1 _ hV0 | with_reducible exact t1 _ hB6 | with_reducible exact t1 _ hB7)
          (first
            | (go_at_call 39; (with_reducible refine hca.mono ?_); rintro e w6 ⟨z6, rfl, hZ6, hb6⟩; have hB6 := hV0.trans (hb6.mono hV0.size); have hcb := hm1 z6 w6 (hZ6.less (Nat.zero_le _)))
            | (go_at_call 58; (with_reducible refine hcb.mono ?_); rintro e w7 ⟨z7, rfl, hZ7, hb7⟩; have hB7 := hB6.trans (hb7.mono hB6.size)))
        all_goals
          go_wp2_with fail
          go_meet
          exact ⟨rfl, hZ7.less (Nat.zero_le _), hB7⟩
      case rest =>
        obtain ⟨rfl, hP, hB⟩ := hcut
        replace hzt := hzt.on hB
        have hR6 := hR5.on hB
        have hQ6 := hQ.on hB
        replace hB := hb5.trans (hB.mono hb5.size)
        clear hR5 hQ hb5
        go_upto_region 10 with fail
        go_cut [11, 12] from 40 to 47 (fun s9 s10 wx => s10 = .bool true ∧ RL wx 0 s9 (markgV qs d) ∧ Below wc.heap.size wc wx)
        case first =>
          obtain ⟨c0, c1, c2⟩ := box3 hzt
          have hlt := hzt.lt
          have t1 := fun (wz : World) (h : Below wc.heap.size wc wz) => And.intro ((h.cell (p := ⟨bt, 0, none⟩) hlt).trans c0) (And.intro ((h.cell (p := ⟨bt, 1, none⟩) hlt).trans c1) ((h.cell (p := ⟨bt, 2, none⟩) hlt).trans c2))
          have hV0 := (Below.refl wc.heap.size wc).drew
          have hca := markg_impl v rs d wc.drew hR6.drew
          go_region_held3 (fun w' => w'.cell? ⟨bt, 0, none⟩ = some (.int .i64 o) ∧ w'.cell? ⟨bt, 1, none⟩ = some (.int .i64 x) ∧ w'.cell? ⟨bt, 2, none⟩ = some (.int .i64 y)) (first | with_reducible exact t1 _ hV0 | with_reducible exact t1 _ hB6 | with_reducible exact t1 _ hB7)
            (first
              | (go_at_call 46; (with_reducible refine hca.mono ?_); rintro e w6 ⟨z6, rfl, hZ6, hb6⟩; have hB6 := hV0.trans (hb6.mono hV0.size); have hcb := hm2 z6 w6 (hZ6.less (Nat.zero_le _)))
              | (go_at_call 58; (with_reducible refine hcb.mono ?_); rintro e w7 ⟨z7, rfl, hZ7, hb7⟩; have hB7 := hB6.trans (hb7.mono hB6.size)))
          all_goals
            go_wp2_with fail
            go_meet
            exact ⟨rfl, hZ7.less (Nat.zero_le _), hB7⟩
        case rest =>
          obtain ⟨rfl, hS, hB2⟩ := hcut
          have hR7 := hR6.on hB2
          have hQ7 := hQ6.on hB2
          have hP7 := hP.on hB2
          replace hB2 := hB.trans (hB2.mono hB.size)
          clear hR6 hQ6 hP hB hzt hm1 hm2
          have hb7 := hB2
          clear hB2
          have hS7 := hS
          clear hS
          go_wp2_with fail
          refine (markw_spec _ qs d _ hQ7).mono ?_
          rintro e wm ⟨zm, rfl, hZ, hbm⟩
          replace hZ := hZ.less (Nat.zero_le _)
          have hR8 := hR7.on hbm
          have hQ8 := hQ7.on hbm
          have hP8 := hP7.on hbm
          have hS8 := hS7.on hbm
          have hb8 := hb7.trans (hbm.mono hb7.size)
          clear hR7 hQ7 hP7 hS7 hb7 hbm
          go_wp2_with fail
          refine (sameRects_any _ zm _ _ _ hP8 hZ).mono ?_
          rintro e wn ⟨rfl, hbn⟩
          rw [(eqL_iff _ _).2 rfl]
          clear hZ
          have hR9 := hR8.on hbn
          have hQ9 := hQ8.on hbn
          have hP9 := hP8.on hbn
          have hS9 := hS8.on hbn
          have hb9 := hb8.trans (hbn.mono hb8.size)
          clear hR8 hQ8 hP8 hS8 hb8 hbn
          go_wp2_with fail
          refine (markg_spec _ qs d _ hQ9).mono ?_
          rintro e wm ⟨zm, rfl, hZ, hbm⟩
          replace hZ := hZ.less (Nat.zero_le _)
          have hR10 := hR9.on hbm
          have hQ10 := hQ9.on hbm
          have hP10 := hP9.on hbm
          have hS10 := hS9.on hbm
          have hb10 := hb9.trans (hbm.mono hb9.size)
          clear hR9 hQ9 hP9 hS9 hb9 hbm
          go_wp2_with fail
          refine (sameRects_any _ zm _ _ _ hS10 hZ).mono ?_
          rintro e wn ⟨rfl, hbn⟩
          rw [(eqL_iff _ _).2 rfl]
          clear hZ
          have hR11 := hR10.on hbn
          have hQ11 := hQ10.on hbn
          have hP11 := hP10.on hbn
          have hS11 := hS10.on hbn
          have hb11 := hb10.trans (hbn.mono hb10.size)
          clear hR10 hQ10 hP10 hS10 hb10 hbn
          go_wp2_with fail
          refine (markw_impl _ qs d _ hQ11).mono ?_
          rintro e wm ⟨zm, rfl, hZ, hbm⟩
          replace hZ := hZ.less (Nat.zero_le _)
          have hR12 := hR11.on hbm
          have hQ12 := hQ11.on hbm
          have hP12 := hP11.on hbm
          have hS12 := hS11.on hbm
          have hb12 := hb11.trans (hbm.mono hb11.size)
          clear hR11 hQ11 hP11 hS11 hb11 hbm
          go_wp2_with fail
          refine (sameRects_any _ zm _ _ _ hP12 hZ).mono ?_
          rintro e wn ⟨rfl, hbn⟩
          rw [(eqL_iff _ _).2 rfl]
          clear hZ
          have hR13 := hR12.on hbn
          have hQ13 := hQ12.on hbn
          have hP13 := hP12.on hbn
          have hS13 := hS12.on hbn
          have hb13 := hb12.trans (hbn.mono hb12.size)
          clear hR12 hQ12 hP12 hS12 hb12 hbn
          go_wp2_with fail
          refine (markg_impl _ qs d _ hQ13).mono ?_
          rintro e wm ⟨zm, rfl, hZ, hbm⟩
          replace hZ := hZ.less (Nat.zero_le _)
          have hR14 := hR13.on hbm
          have hQ14 := hQ13.on hbm
          have hP14 := hP13.on hbm
          have hS14 := hS13.on hbm
          have hb14 := hb13.trans (hbm.mono hb13.size)
          clear hR13 hQ13 hP13 hS13 hb13 hbm
          go_wp2_with fail
          refine (sameRects_any _ zm _ _ _ hS14 hZ).mono ?_
          rintro e wn ⟨rfl, hbn⟩
          rw [(eqL_iff _ _).2 rfl]
          clear hZ
          have hR15 := hR14.on hbn
          have hQ15 := hQ14.on hbn
          have hP15 := hP14.on hbn
          have hS15 := hS14.on hbn
          have hb15 := hb14.trans (hbn.mono hb14.size)
          clear hR14 hQ14 hP14 hS14 hb14 hbn
          go_wp2_with fail
          refine (minw_impl _ qs _ hQ15).mono ?_
          rintro e wm ⟨rfl, hbm⟩
          rw [G3.out]
          have hR16 := hR15.on hbm
          have hQ16 := hQ15.on hbm
          have hP16 := hP15.on hbm
          have hS16 := hS15.on hbm
          have hb16 := hb15.trans (hbm.mono hb15.size)
          clear hR15 hQ15 hP15 hS15 hb15 hbm
          go_wp2_with fail
          refine (minw_impl _ rs _ hR16).mono ?_
          rintro e wm ⟨rfl, hbm⟩
          have hR17 := hR16.on hbm
          have hQ17 := hQ16.on hbm
          have hP17 := hP16.on hbm
          have hS17 := hS16.on hbm
          have hb17 := hb16.trans (hbm.mono hb16.size)
          clear hR16 hQ16 hP16 hS16 hb16 hbm
          go_wp2_with fail
          refine (mins_impl _ qs _ hQ17).mono ?_
          rintro e wm ⟨rfl, hbm⟩
          rw [G4.out]
          have hR18 := hR17.on hbm
          have hQ18 := hQ17.on hbm
          have hP18 := hP17.on hbm
          have hS18 := hS17.on hbm
          have hb18 := hb17.trans (hbm.mono hb17.size)
          clear hR17 hQ17 hP17 hS17 hb17 hbm
          go_wp2_with fail
          refine (mins_impl _ rs _ hR18).mono ?_
          rintro e wm ⟨rfl, hbm⟩
          have hR19 := hR18.on hbm
          have hQ19 := hQ18.on hbm
          have hP19 := hP18.on hbm
          have hS19 := hS18.on hbm
          have hb19 := hb18.trans (hbm.mono hb18.size)
          clear hR18 hQ18 hP18 hS18 hb18 hbm
          go_wp2
          go_ret
          exact ⟨by first | rfl | exact ret_bool (by simp), hb19⟩

end Go.Proofs.Ytooglkdloaaomaa
