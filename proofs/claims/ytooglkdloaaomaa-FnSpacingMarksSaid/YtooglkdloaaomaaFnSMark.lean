/- The walk of the law FnSpacingMarks, over drawn inputs: it answers true. No conditions. -/
import Derived.Test.YtooglkdloaaomaaCellK
import Derived.Test.YtooglkdloaaomaaSpac1
import Derived.Deep.CutRange
namespace Go.Proofs.Ytooglkdloaaomaa
open Go.RowKit

/-- The cells before and behind a gap in a row, in a column. -/
def acrG (G : Gr) (d : Int) (X : Rc) : Bool := decide (areaR X < d) && hasG G (X.x0 - 1) X.y0 && hasG G X.x1 X.y0
def aloG (G : Gr) (d : Int) (X : Rc) : Bool := decide (areaR X < d) && hasG G X.x0 (X.y0 - 1) && hasG G X.x0 X.y1
theorem gap_cell {rs : List Rc} {d x y : Int} (h : isReg rs = true) (hc : onC x y = true) : OkZ (witX (gtV rs x y false)) ∧ OkZ (witX (gtV rs x y true)) ∧
    ((hasG (cellsG rs) x y = false ∧ witB (gtV rs x y false) = true ∧ witB (gtV rs x y true) = true ∧
      hasG (cellsG (canon (shortG (allGaps (cellsG rs)) d))) x y = (acrG (cellsG rs) d (witX (gtV rs x y false)) || aloG (cellsG rs) d (witX (gtV rs x y true)))) ∨
    (hasG (cellsG rs) x y = true ∧ witB (gtV rs x y false) = false ∧ witB (gtV rs x y true) = false ∧ hasG (cellsG (canon (shortG (allGaps (cellsG rs)) d))) x y = false)) := by
  rw [hasG_canon]
  cases hh : hasG (cellsG rs) x y with
  | true =>
    have hn : hasG (notG (cellsG rs)) x y = false := by rw [hasG_not hc, hh]; rfl
    rw [gtV_no2 hn, gtV_no2 hn]
    exact ⟨.inr rfl, .inr rfl, .inr ⟨rfl, rfl, rfl, gap_out hh⟩⟩
  | false =>
    have hn : hasG (notG (cellsG rs)) x y = true := by rw [hasG_not hc, hh]; rfl
    rw [gtV_yes h hn, gtV_yes h hn]
    refine ⟨.inl (runR_ok (vert := false) hn), .inl (runR_ok (vert := true) hn), .inl ⟨rfl, rfl, rfl, ?_⟩⟩
    rw [gap_in hc hh]
    rfl

set_option maxHeartbeats 6400000 in
set_option maxRecDepth 100000 in
/-- FnSpacingMarks answers true. -/
theorem lawFnSMark (A : Option Addr) (n c : Nat) (w : World) (hA : ArgB w A n) (hm : n ≤ maxLen) : Calls Try.prog 9 #[.slice A n c] w fun e w' => e = .returned (.bool true) ∧ Below w.heap.size w w' := by
  go_enter Try.func9, Try.ntmps9
  go_wp2_with fail
  refine (big_any A n c w hm).mono ?_
  rintro e w0 ⟨rfl, rfl⟩
  by_cases h4 : 4096 < n
  · rw [decide_eq_true h4]
    go_wp2
    go_ret
    exact ⟨rfl, Below.refl _ _⟩
  · rw [decide_eq_false h4]
    go_wp2_with fail
    refine (roll_any A n c 1801 _ hA (by omega) (by omega)).mono ?_
    rintro e w1 ⟨g, rfl, hg, hD, hb1⟩
    have hA1 := hA.on hb1
    go_wp2_with fail
    refine (drawSpacing_any A n c _ hA1 (by omega)).mono ?_
    rintro e w2 ⟨v, rs, d, rfl, hR, hl, hd, hb2⟩
    have hgl := hD.lt
    replace hR := hR.less (show g + 1 ≤ w1.heap.size by omega)
    replace hD := hD.on hb2
    replace hb2 := hb1.trans (hb2.mono hb1.size)
    clear hA h4 hA1 hb1
    obtain ⟨A1, c1, rfl, hc1, hm1, -⟩ := hR.form
    have hbad : chkV rs d = false → markgV rs d = [] := markgV_no
    have Hbad := Lib.hid hbad
    clear hbad
    go_wp2_with fail
    refine (markg_impl _ rs d _ (hR.less (Nat.zero_le _))).mono ?_
    rintro e w3 ⟨u, rfl, hM, hb3⟩
    replace hM := hM.less (show g + 1 ≤ w2.heap.size by have := hD.lt; omega)
    have hR3 := hR.on hb3
    have hD3 := hD.on hb3
    replace hb3 := hb2.trans (hb3.mono hb2.size)
    clear hR hD hb2
    have hml := markgV_length rs d
    obtain ⟨A2, c2, rfl, hc2, hm2, -⟩ := hM.form
    by_cases hreg : isReg rs = true
    · go_wp2_with fail
      refine (isReg_spec _ rs _ (hR3.less (Nat.zero_le _))).mono ?_
      rintro e w4 ⟨rfl, hb4⟩
      rw [hreg]
      have hR4 := hR3.on hb4
      have hD4 := hD3.on hb4
      have hM4 := hM.on hb4
      replace hb4 := hb3.trans (hb4.mono hb3.size)
      clear hR3 hD3 hM hb3
      by_cases hk : 1 ≤ d ∧ d ≤ 8
      · obtain ⟨k1, k2⟩ := hk
        have k1' : ¬ d < 1 := by omega
        have k2' : ¬ d > 8 := by omega
        have hc : chkV rs d = true := by rw [chkV_of hreg]; exact (inB_iff _ _ _).2 ⟨k1, k2⟩
        rw [markgV_yes hc] at hM4 hml ⊢
        have Hreg := Lib.hid hreg
        have Hok := Lib.hid (okAll_of_reg hreg)
        have hl32 := ((isReg_iff rs).1 hreg).1
        have Hcell := Lib.hid (fun (x y : Int) (hc : onC x y = true) => gap_cell (d := d) (x := x) (y := y) hreg hc)
        have Hmr := Lib.hid (isReg_canon (shortG (allGaps (cellsG rs)) d))
        clear hreg hc
        generalize canon (shortG (allGaps (cellsG rs)) d) = m at *
        go_wp2_with fail
        refine (isReg_spec _ m _ (hM4.less (Nat.zero_le _))).mono ?_
        rintro e w5 ⟨rfl, hb5⟩
        rw [Hmr.out]
        have hR5 := hR4.on hb5
        have hD5 := hD4.on hb5
        have hM5 := hM4.on hb5
        replace hb5 := hb4.trans (hb5.mono hb4.size)
        clear hR4 hD4 hM4 hb4
        go_wp2
        go_loopw [7] (fun iv wr => ∃ k : Nat, k ≤ 8 ∧ iv = .int .i64 k ∧ DiceL wr g ∧ RL wr (g + 1) (.slice A1 rs.length c1) rs ∧ RL wr (g + 1) (.slice A2 m.length c2) m ∧ Below w.heap.size w wr) (fun iv _ => 8 - (intOf iv).toNat)
        case atStart => exact ⟨0, by omega, rfl, hD5, hR5, hM5, hb5⟩
        case round =>
          obtain ⟨k, hk8, rfl, hDr, hRr, hMr, hbr⟩ := hrel
          clear hD5 hR5 hM5 hb5
          by_cases hlt : k < 8
          · go_wp2_with fail
            refine (w9Cell_any g _ rs _ hDr hRr Hok.out hl32).mono ?_
            rintro e w6 ⟨x, y, rfl, hon, hD6, hG6⟩
            have hR6 := hRr.keptG hG6 (Nat.lt_succ_self g)
            have hM6 := hMr.keptG hG6 (Nat.lt_succ_self g)
            have hb6 := hbr.trans (grown_below hG6 (fun q hq => by simp at hq; omega) hbr.size)
            clear hDr hRr hMr hbr hG6
            have HC := Lib.hid (Hcell.out x y hon)
            have zp := Bk.new w6 53 #[.int .i64 x, .int .i64 y]
            have hD7 := hD6.alloc (.cells #[.int .i64 x, .int .i64 y] 53)
            have hR7 := RL.alloc hR6 (.cells #[.int .i64 x, .int .i64 y] 53)
            have hM7 := RL.alloc hM6 (.cells #[.int .i64 x, .int .i64 y] 53)
            have hb7 := hb6.alloc hb6.size (.cells #[.int .i64 x, .int .i64 y] 53)
            obtain ⟨p0, p1⟩ := box2 zp
            clear hD6 hR6 hM6 hb6
            go_wp2_with fail
            refine (gt_impl _ rs x y false _ (hR7.less (Nat.zero_le _))).mono ?_
            clear p0 p1
            revert zp hD7 hR7 hM7 hb7
            generalize w6.alloc (.cells #[.int .i64 x, .int .i64 y] 53) = w7
            generalize w6.heap.size = gp
            intro zp hD7 hR7 hM7 hb7
            rintro e w8 ⟨rfl, hb8⟩
            have zp8 := zp.on hb8
            have hD8 := hD7.on hb8
            have hR8 := hR7.on hb8
            have hM8 := hM7.on hb8
            replace hb8 := hb7.trans (hb8.mono hb7.size)
            clear zp hD7 hR7 hM7 hb7
            generalize gtV rs x y false = H at *
            generalize hX : witX H = X at *
            generalize hY : witB H = Y at *
            obtain ⟨a0, b0, a1, b1⟩ := X
            dsimp only
            have zh := Bk.new w8 32 #[.int .i64 a0, .int .i64 b0, .int .i64 a1, .int .i64 b1]
            have zp9 := zp8.alloc (.cells #[.int .i64 a0, .int .i64 b0, .int .i64 a1, .int .i64 b1] 32)
            have hD9 := hD8.alloc (.cells #[.int .i64 a0, .int .i64 b0, .int .i64 a1, .int .i64 b1] 32)
            have hR9 := RL.alloc hR8 (.cells #[.int .i64 a0, .int .i64 b0, .int .i64 a1, .int .i64 b1] 32)
            have hM9 := RL.alloc hM8 (.cells #[.int .i64 a0, .int .i64 b0, .int .i64 a1, .int .i64 b1] 32)
            have hb9 := hb8.alloc hb8.size (.cells #[.int .i64 a0, .int .i64 b0, .int .i64 a1, .int .i64 b1] 32)
            obtain ⟨p0, p1⟩ := box2 zp9
            clear zp8 hD8 hR8 hM8 hb8
            go_wp2_with fail
            refine (gt_impl _ rs x y true _ (hR9.less (Nat.zero_le _))).mono ?_
            clear p0 p1
            revert zh zp9 hD9 hR9 hM9 hb9
            generalize w8.alloc (.cells #[.int .i64 a0, .int .i64 b0, .int .i64 a1, .int .i64 b1] 32) = w9
            generalize w8.heap.size = gh
            intro zh zp9 hD9 hR9 hM9 hb9
            rintro e w10 ⟨rfl, hb10⟩
            have zhA := zh.on hb10
            have zpA := zp9.on hb10
            have hDA := hD9.on hb10
            have hRA := hR9.on hb10
            have hMA := hM9.on hb10
            replace hb10 := hb9.trans (hb10.mono hb9.size)
            clear zh zp9 hD9 hR9 hM9 hb9
            generalize gtV rs x y true = V at *
            generalize hX2 : witX V = X2 at *
            generalize hY2 : witB V = Y2 at *
            obtain ⟨u0, v0, u1, v1⟩ := X2
            dsimp only
            have zv := Bk.new w10 32 #[.int .i64 u0, .int .i64 v0, .int .i64 u1, .int .i64 v1]
            have zhB := zhA.alloc (.cells #[.int .i64 u0, .int .i64 v0, .int .i64 u1, .int .i64 v1] 32)
            have zpB := zpA.alloc (.cells #[.int .i64 u0, .int .i64 v0, .int .i64 u1, .int .i64 v1] 32)
            have hDB := hDA.alloc (.cells #[.int .i64 u0, .int .i64 v0, .int .i64 u1, .int .i64 v1] 32)
            have hRB := RL.alloc hRA (.cells #[.int .i64 u0, .int .i64 v0, .int .i64 u1, .int .i64 v1] 32)
            have hMB := RL.alloc hMA (.cells #[.int .i64 u0, .int .i64 v0, .int .i64 u1, .int .i64 v1] 32)
            have hbB := hb10.alloc hb10.size (.cells #[.int .i64 u0, .int .i64 v0, .int .i64 u1, .int .i64 v1] 32)
            obtain ⟨p0, p1⟩ := box2 zpB
            clear zhA zpA hDA hRA hMA hb10
            go_wp2_with fail
            refine (contains_spec _ rs x y _ (hRB.less (Nat.zero_le _)) Hreg.out).mono ?_
            clear p0 p1
            revert zv zhB zpB hDB hRB hMB hbB
            generalize w10.alloc (.cells #[.int .i64 u0, .int .i64 v0, .int .i64 u1, .int .i64 v1] 32) = w11
            generalize w10.heap.size = gv
            intro zv zhB zpB hDB hRB hMB hbB
            rintro e w12 ⟨rfl, hb12⟩
            have zvC := zv.on hb12
            have zhC := zhB.on hb12
            have zpC := zpB.on hb12
            have hDC := hDB.on hb12
            have hRC := hRB.on hb12
            have hMC := hMB.on hb12
            replace hb12 := hbB.trans (hb12.mono hbB.size)
            clear zv zhB zpB hDB hRB hMB hbB
            generalize hgi : hasG (cellsG rs) x y = inn at *
            generalize hgm : hasG (cellsG m) x y = mm at *
            obtain ⟨p0, p1⟩ := box2 zpC
            clear p0 p1
            obtain ⟨o1, o2, hc3⟩ := HC.out
            have HC3 := Lib.hid hc3
            have bx := okZ_bounds o1
            have bv := okZ_bounds o2
            dsimp only at bx bv
            have hL1 := fun w0 : World => long_okZ ⟨a0, b0, a1, b1⟩ o1 w0
            have hL2 := fun w0 : World => long_okZ ⟨u0, v0, u1, v1⟩ o2 w0
            have ex := Go.IntWalk.i64_in (a0 - 1) (by omega)
            have ey := Go.IntWalk.i64_in (v0 - 1) (by omega)
            have ac : acrG (cellsG rs) d ⟨a0, b0, a1, b1⟩ = (decide (areaR ⟨a0, b0, a1, b1⟩ < d) && hasG (cellsG rs) (a0 - 1) b0 && hasG (cellsG rs) a1 b0) := rfl
            have al : aloG (cellsG rs) d ⟨u0, v0, u1, v1⟩ = (decide (areaR ⟨u0, v0, u1, v1⟩ < d) && hasG (cellsG rs) u0 (v0 - 1) && hasG (cellsG rs) u0 v1) := rfl
            clear hX hX2 hY hY2 o1 o2 hc3 HC bx bv
            generalize areaR ⟨a0, b0, a1, b1⟩ = l1 at *
            generalize areaR ⟨u0, v0, u1, v1⟩ = l2 at *
            generalize hca : acrG (cellsG rs) d ⟨a0, b0, a1, b1⟩ = acr at *
            generalize hcb : aloG (cellsG rs) d ⟨u0, v0, u1, v1⟩ = alo at *
            have AC := Lib.hid ac
            have AL := Lib.hid al
            clear ac al hca hcb
            have hRK := hRC
            clear hRC
            rcases HC3.out with ⟨rfl, rfl, rfl, e3⟩ | ⟨rfl, rfl, rfl, e3⟩
            · go_upto_region 19 with fail
              go_cut [14] from 45 to 134 (fun sv wx => sv = .bool acr ∧ Below w12.heap.size w12 wx)
              case first =>
                have hBz := Below.refl w12.heap.size w12
                obtain ⟨h0, h1, h2, h3⟩ := box4 zhC
                by_cases s1 : l1 < d
                · by_cases g1 : hasG (cellsG rs) (a0 - 1) b0 = true
                  · have E := Lib.hid (show acr = hasG (cellsG rs) a1 b0 by rw [AC.out, decide_eq_true s1, g1]; rfl)
                    have G1 := Lib.hid g1
                    clear g1
                    go_wp2_with fail
                    refine (hL1 _).mono ?_
                    rintro e wa ⟨rfl, hba⟩
                    have zka := zhC.on hba
                    have hRka := hRK.on hba
                    obtain ⟨h0, h1, h2, h3⟩ := box4 zka
                    go_wp2_with fail
                    refine (contains_spec _ rs _ _ _ (hRka.less (Nat.zero_le _)) Hreg.out).mono ?_
                    rintro e wb ⟨rfl, hbb⟩
                    rw [G1.out]
                    have zkb := zka.on hbb
                    have hRkb := hRka.on hbb
                    obtain ⟨h0, h1, h2, h3⟩ := box4 zkb
                    go_wp2_with fail
                    refine (contains_spec _ rs _ _ _ (hRkb.less (Nat.zero_le _)) Hreg.out).mono ?_
                    rintro e wc ⟨rfl, hbc⟩
                    go_wp2_with fail
                    go_meet
                    exact ⟨congrArg Value.bool E.out.symm, (hba.trans (hbb.mono hba.size)).trans (hbc.mono (Nat.le_trans hba.size hbb.size))⟩
                  · have g1' : hasG (cellsG rs) (a0 - 1) b0 = false := by simpa using g1
                    have E := Lib.hid (show acr = false by rw [AC.out, g1', Bool.and_false]; rfl)
                    have G1 := Lib.hid g1'
                    clear g1 g1'
                    go_wp2_with fail
                    refine (hL1 _).mono ?_
                    rintro e wa ⟨rfl, hba⟩
                    have zka := zhC.on hba
                    have hRka := hRK.on hba
                    obtain ⟨h0, h1, h2, h3⟩ := box4 zka
                    go_wp2_with fail
                    refine (contains_spec _ rs _ _ _ (hRka.less (Nat.zero_le _)) Hreg.out).mono ?_
                    rintro e wb ⟨rfl, hbb⟩
                    rw [G1.out]
                    go_wp2_with fail
                    go_meet
                    exact ⟨congrArg Value.bool E.out.symm, hba.trans (hbb.mono hba.size)⟩
                · have E := Lib.hid (show acr = false by rw [AC.out, decide_eq_false s1]; rfl)
                  go_wp2_with fail
                  refine (hL1 _).mono ?_
                  rintro e wa ⟨rfl, hba⟩
                  go_wp2_with fail
                  go_meet
                  exact ⟨congrArg Value.bool E.out.symm, hba⟩
              case rest =>
                obtain ⟨rfl, hx1⟩ := hcut
                have zvE := zvC.on hx1
                have zpE := zpC.on hx1
                have hDE := hDC.on hx1
                have hRK := hRK.on hx1
                have hME := hMC.on hx1
                have hbE := hb12.trans (hx1.mono hb12.size)
                clear zvC zhC zpC hDC hMC hb12 hx1
                go_upto_region 20 with fail
                go_cut [15] from 45 to 134 (fun sv wx => sv = .bool alo ∧ Below wc.heap.size wc wx)
                case first =>
                  have hBz := Below.refl wc.heap.size wc
                  obtain ⟨q0, q1, q2, q3⟩ := box4 zvE
                  by_cases s1 : l2 < d
                  · by_cases g1 : hasG (cellsG rs) u0 (v0 - 1) = true
                    · have E := Lib.hid (show alo = hasG (cellsG rs) u0 v1 by rw [AL.out, decide_eq_true s1, g1]; rfl)
                      have G1 := Lib.hid g1
                      clear g1
                      go_wp2_with fail
                      refine (hL2 _).mono ?_
                      rintro e wa ⟨rfl, hba⟩
                      have zka := zvE.on hba
                      have hRka := hRK.on hba
                      obtain ⟨q0, q1, q2, q3⟩ := box4 zka
                      go_wp2_with fail
                      refine (contains_spec _ rs _ _ _ (hRka.less (Nat.zero_le _)) Hreg.out).mono ?_
                      rintro e wb ⟨rfl, hbb⟩
                      rw [G1.out]
                      have zkb := zka.on hbb
                      have hRkb := hRka.on hbb
                      obtain ⟨q0, q1, q2, q3⟩ := box4 zkb
                      go_wp2_with fail
                      refine (contains_spec _ rs _ _ _ (hRkb.less (Nat.zero_le _)) Hreg.out).mono ?_
                      rintro e wc ⟨rfl, hbc⟩
                      go_wp2_with fail
                      go_meet
                      exact ⟨congrArg Value.bool E.out.symm, (hba.trans (hbb.mono hba.size)).trans (hbc.mono (Nat.le_trans hba.size hbb.size))⟩
                    · have g1' : hasG (cellsG rs) u0 (v0 - 1) = false := by simpa using g1
                      have E := Lib.hid (show alo = false by rw [AL.out, g1', Bool.and_false]; rfl)
                      have G1 := Lib.hid g1'
                      clear g1 g1'
                      go_wp2_with fail
                      refine (hL2 _).mono ?_
                      rintro e wa ⟨rfl, hba⟩
                      have zka := zvE.on hba
                      have hRka := hRK.on hba
                      obtain ⟨q0, q1, q2, q3⟩ := box4 zka
                      go_wp2_with fail
                      refine (contains_spec _ rs _ _ _ (hRka.less (Nat.zero_le _)) Hreg.out).mono ?_
                      rintro e wb ⟨rfl, hbb⟩
                      rw [G1.out]
                      go_wp2_with fail
                      go_meet
                      exact ⟨congrArg Value.bool E.out.symm, hba.trans (hbb.mono hba.size)⟩
                  · have E := Lib.hid (show alo = false by rw [AL.out, decide_eq_false s1]; rfl)
                    go_wp2_with fail
                    refine (hL2 _).mono ?_
                    rintro e wa ⟨rfl, hba⟩
                    go_wp2_with fail
                    go_meet
                    exact ⟨congrArg Value.bool E.out.symm, hba⟩
                case rest =>
                  obtain ⟨rfl, hx2⟩ := hcut
                  have zpF := zpE.on hx2
                  have hDF := hDE.on hx2
                  have hRK := hRK.on hx2
                  have hMF := hME.on hx2
                  have hbF := hbE.trans (hx2.mono hbE.size)
                  clear zvE zpE hDE hME hbE hx2
                  obtain ⟨p0, p1⟩ := box2 zpF
                  go_wp2_with fail
                  refine (contains_spec _ m x y _ (hMF.less (Nat.zero_le _)) Hmr.out).mono ?_
                  rintro e wz ⟨rfl, hbz⟩
                  rw [hgm, e3]
                  have hDz := hDF.on hbz
                  have hRz := hRK.on hbz
                  have hMz := hMF.on hbz
                  replace hbz := hbF.trans (hbz.mono hbF.size)
                  clear hgm e3 zpF p0 p1 hDF hRK hMF hbF AC AL
                  cases acr <;> cases alo <;>
                    (go_wp2
                     exact ⟨⟨k + 1, by omega, by go_num, hDz, hRz, hMz, hbz⟩, by simp [intOf]; omega⟩)
            · go_upto_region 19 with fail
              go_cut [14] from 45 to 134 (fun sv wx => sv = .bool acr ∧ Below w12.heap.size w12 wx)
              case first =>
                have hBz := Below.refl w12.heap.size w12
                obtain ⟨h0, h1, h2, h3⟩ := box4 zhC
                by_cases s1 : l1 < d
                · by_cases g1 : hasG (cellsG rs) (a0 - 1) b0 = true
                  · have E := Lib.hid (show acr = hasG (cellsG rs) a1 b0 by rw [AC.out, decide_eq_true s1, g1]; rfl)
                    have G1 := Lib.hid g1
                    clear g1
                    go_wp2_with fail
                    refine (hL1 _).mono ?_
                    rintro e wa ⟨rfl, hba⟩
                    have zka := zhC.on hba
                    have hRka := hRK.on hba
                    obtain ⟨h0, h1, h2, h3⟩ := box4 zka
                    go_wp2_with fail
                    refine (contains_spec _ rs _ _ _ (hRka.less (Nat.zero_le _)) Hreg.out).mono ?_
                    rintro e wb ⟨rfl, hbb⟩
                    rw [G1.out]
                    have zkb := zka.on hbb
                    have hRkb := hRka.on hbb
                    obtain ⟨h0, h1, h2, h3⟩ := box4 zkb
                    go_wp2_with fail
                    refine (contains_spec _ rs _ _ _ (hRkb.less (Nat.zero_le _)) Hreg.out).mono ?_
                    rintro e wc ⟨rfl, hbc⟩
                    go_wp2_with fail
                    go_meet
                    exact ⟨congrArg Value.bool E.out.symm, (hba.trans (hbb.mono hba.size)).trans (hbc.mono (Nat.le_trans hba.size hbb.size))⟩
                  · have g1' : hasG (cellsG rs) (a0 - 1) b0 = false := by simpa using g1
                    have E := Lib.hid (show acr = false by rw [AC.out, g1', Bool.and_false]; rfl)
                    have G1 := Lib.hid g1'
                    clear g1 g1'
                    go_wp2_with fail
                    refine (hL1 _).mono ?_
                    rintro e wa ⟨rfl, hba⟩
                    have zka := zhC.on hba
                    have hRka := hRK.on hba
                    obtain ⟨h0, h1, h2, h3⟩ := box4 zka
                    go_wp2_with fail
                    refine (contains_spec _ rs _ _ _ (hRka.less (Nat.zero_le _)) Hreg.out).mono ?_
                    rintro e wb ⟨rfl, hbb⟩
                    rw [G1.out]
                    go_wp2_with fail
                    go_meet
                    exact ⟨congrArg Value.bool E.out.symm, hba.trans (hbb.mono hba.size)⟩
                · have E := Lib.hid (show acr = false by rw [AC.out, decide_eq_false s1]; rfl)
                  go_wp2_with fail
                  refine (hL1 _).mono ?_
                  rintro e wa ⟨rfl, hba⟩
                  go_wp2_with fail
                  go_meet
                  exact ⟨congrArg Value.bool E.out.symm, hba⟩
              case rest =>
                obtain ⟨rfl, hx1⟩ := hcut
                have zvE := zvC.on hx1
                have zpE := zpC.on hx1
                have hDE := hDC.on hx1
                have hRK := hRK.on hx1
                have hME := hMC.on hx1
                have hbE := hb12.trans (hx1.mono hb12.size)
                clear zvC zhC zpC hDC hMC hb12 hx1
                go_upto_region 20 with fail
                go_cut [15] from 45 to 134 (fun sv wx => sv = .bool alo ∧ Below wc.heap.size wc wx)
                case first =>
                  have hBz := Below.refl wc.heap.size wc
                  obtain ⟨q0, q1, q2, q3⟩ := box4 zvE
                  by_cases s1 : l2 < d
                  · by_cases g1 : hasG (cellsG rs) u0 (v0 - 1) = true
                    · have E := Lib.hid (show alo = hasG (cellsG rs) u0 v1 by rw [AL.out, decide_eq_true s1, g1]; rfl)
                      have G1 := Lib.hid g1
                      clear g1
                      go_wp2_with fail
                      refine (hL2 _).mono ?_
                      rintro e wa ⟨rfl, hba⟩
                      have zka := zvE.on hba
                      have hRka := hRK.on hba
                      obtain ⟨q0, q1, q2, q3⟩ := box4 zka
                      go_wp2_with fail
                      refine (contains_spec _ rs _ _ _ (hRka.less (Nat.zero_le _)) Hreg.out).mono ?_
                      rintro e wb ⟨rfl, hbb⟩
                      rw [G1.out]
                      have zkb := zka.on hbb
                      have hRkb := hRka.on hbb
                      obtain ⟨q0, q1, q2, q3⟩ := box4 zkb
                      go_wp2_with fail
                      refine (contains_spec _ rs _ _ _ (hRkb.less (Nat.zero_le _)) Hreg.out).mono ?_
                      rintro e wc ⟨rfl, hbc⟩
                      go_wp2_with fail
                      go_meet
                      exact ⟨congrArg Value.bool E.out.symm, (hba.trans (hbb.mono hba.size)).trans (hbc.mono (Nat.le_trans hba.size hbb.size))⟩
                    · have g1' : hasG (cellsG rs) u0 (v0 - 1) = false := by simpa using g1
                      have E := Lib.hid (show alo = false by rw [AL.out, g1', Bool.and_false]; rfl)
                      have G1 := Lib.hid g1'
                      clear g1 g1'
                      go_wp2_with fail
                      refine (hL2 _).mono ?_
                      rintro e wa ⟨rfl, hba⟩
                      have zka := zvE.on hba
                      have hRka := hRK.on hba
                      obtain ⟨q0, q1, q2, q3⟩ := box4 zka
                      go_wp2_with fail
                      refine (contains_spec _ rs _ _ _ (hRka.less (Nat.zero_le _)) Hreg.out).mono ?_
                      rintro e wb ⟨rfl, hbb⟩
                      rw [G1.out]
                      go_wp2_with fail
                      go_meet
                      exact ⟨congrArg Value.bool E.out.symm, hba.trans (hbb.mono hba.size)⟩
                  · have E := Lib.hid (show alo = false by rw [AL.out, decide_eq_false s1]; rfl)
                    go_wp2_with fail
                    refine (hL2 _).mono ?_
                    rintro e wa ⟨rfl, hba⟩
                    go_wp2_with fail
                    go_meet
                    exact ⟨congrArg Value.bool E.out.symm, hba⟩
                case rest =>
                  obtain ⟨rfl, hx2⟩ := hcut
                  have zpF := zpE.on hx2
                  have hDF := hDE.on hx2
                  have hRK := hRK.on hx2
                  have hMF := hME.on hx2
                  have hbF := hbE.trans (hx2.mono hbE.size)
                  clear zvE zpE hDE hME hbE hx2
                  obtain ⟨p0, p1⟩ := box2 zpF
                  go_wp2_with fail
                  refine (contains_spec _ m x y _ (hMF.less (Nat.zero_le _)) Hmr.out).mono ?_
                  rintro e wz ⟨rfl, hbz⟩
                  rw [hgm, e3]
                  have hDz := hDF.on hbz
                  have hRz := hRK.on hbz
                  have hMz := hMF.on hbz
                  replace hbz := hbF.trans (hbz.mono hbF.size)
                  clear hgm e3 zpF p0 p1 hDF hRK hMF hbF AC AL
                  go_wp2
                  exact ⟨⟨k + 1, by omega, by go_num, hDz, hRz, hMz, hbz⟩, by simp [intOf]; omega⟩
          · go_wp2
            go_ret
            exact ⟨rfl, hbr⟩
      · have e := Hbad.out (by rw [chkV_of hreg]; exact decide_eq_false hk)
        rw [e]
        by_cases k1 : d < 1
        · go_wp2
          go_ret
          exact ⟨rfl, hb4⟩
        · have k2 : d > 8 := by omega
          go_wp2
          go_ret
          exact ⟨rfl, hb4⟩
    · have hreg' : isReg rs = false := by simpa using hreg
      rw [Hbad.out (chkV_no hreg')]
      go_wp2_with fail
      refine (isReg_spec _ rs _ (hR3.less (Nat.zero_le _))).mono ?_
      rintro e w4 ⟨rfl, hb4⟩
      rw [hreg']
      go_wp2
      go_ret
      exact ⟨rfl, hb3.trans (hb4.mono hb3.size)⟩

end Go.Proofs.Ytooglkdloaaomaa
