/- The walk of the law FnWidthMarks, over drawn inputs: it answers true. No conditions. -/
import Derived.Test.YtooglkdloaaomaaCellD
import Derived.Test.YtooglkdloaaomaaLawB
import Derived.Test.YtooglkdloaaomaaThruA
import Derived.Test.YtooglkdloaaomaaWidthA
namespace Go.Proofs.Ytooglkdloaaomaa
open Go.RowKit

set_option maxHeartbeats 400000 in
/-- RegionContains, in the reference. -/
theorem contains_spec (v : Value) (rs : List Rc) (x y : Int) (w : World) (hv : RL w 0 v rs) (h : isReg rs = true) : Calls Try.prog 44 #[v, .int .i64 x, .int .i64 y] w fun e w' => e = .returned (.bool (hasG (cellsG rs) x y)) ∧ Below w.heap.size w w' := by
  go_enter Try.func44, Try.ntmps44
  go_wp2_with fail
  refine (l03Ok_any v rs _ hv).mono ?_
  rintro e w1 ⟨rfl, hb1⟩
  rw [h]
  go_wp2_with fail
  refine (l03Bits_any v rs _ (hv.on hb1) (okAll_of_reg h)).mono ?_
  rintro e w2 ⟨u, rfl, hG, hb2⟩
  go_wp2_with fail
  refine (l03Has_any u _ x y _ (hG.less (Nat.zero_le _))).mono ?_
  rintro e w3 ⟨rfl, rfl⟩
  go_wp2
  go_ret
  exact ⟨rfl, hb1.trans (hb2.mono hb1.size)⟩

theorem runR_ok {G : Gr} {x y : Int} {vert : Bool} (h : hasG G x y = true) : okRc (runR G x y vert) = true := by
  obtain ⟨hc, hG⟩ := hasG_yes h
  rw [runAt_runR h]
  exact okAll_in (runsG_ok G vert) (runAt_mem (onC_ix hc) hG)
theorem width_cell {rs : List Rc} {d x y : Int} (h : isReg rs = true) :
    (hasG (cellsG rs) x y = true ∧ witB (rtV rs x y false) = true ∧ witB (rtV rs x y true) = true ∧ okRc (witX (rtV rs x y false)) = true ∧ okRc (witX (rtV rs x y true)) = true ∧
      hasG (cellsG (canon (shortG (allG (cellsG rs)) d))) x y = (decide (areaR (witX (rtV rs x y false)) < d) || decide (areaR (witX (rtV rs x y true)) < d))) ∨
    (hasG (cellsG rs) x y = false ∧ witB (rtV rs x y false) = false ∧ witB (rtV rs x y true) = false ∧ hasG (cellsG (canon (shortG (allG (cellsG rs)) d))) x y = false) := by
  rw [hasG_canon]
  cases hh : hasG (cellsG rs) x y with
  | true =>
    rw [rtV_yes h hh, rtV_yes h hh]
    exact .inl ⟨rfl, rfl, rfl, runR_ok (vert := false) hh, runR_ok (vert := true) hh, mark_in hh⟩
  | false =>
    rw [rtV_no2 hh, rtV_no2 hh]
    exact .inr ⟨rfl, rfl, rfl, mark_out hh⟩

set_option maxHeartbeats 6400000 in
set_option maxRecDepth 100000 in
/-- FnWidthMarks answers true. -/
theorem lawFnWMark (A : Option Addr) (n c : Nat) (w : World) (hA : ArgB w A n) (hm : n ≤ maxLen) : Calls Try.prog 8 #[.slice A n c] w fun e w' => e = .returned (.bool true) ∧ Below w.heap.size w w' := by
  go_enter Try.func8, Try.ntmps8
  go_wp2_with fail
  refine (big_any A n c w hm).mono ?_
  rintro e w0 ⟨rfl, rfl⟩
  by_cases h4 : 4096 < n
  · rw [decide_eq_true h4]
    go_wp2
    go_ret
    exact ⟨rfl, Below.refl _ _⟩
  · rw [decide_eq_false h4]
    go_wp2_with fail
    refine (roll_any A n c 1702 _ hA (by omega) (by omega)).mono ?_
    rintro e w1 ⟨g, rfl, hg, hD, hb1⟩
    have hA1 := hA.on hb1
    go_wp2_with fail
    refine (drawWidth_any A n c _ hA1 (by omega)).mono ?_
    rintro e w2 ⟨v, rs, d, rfl, hR, hl, hd, hb2⟩
    have hgl := hD.lt
    replace hR := hR.less (show g + 1 ≤ w1.heap.size by omega)
    replace hD := hD.on hb2
    replace hb2 := hb1.trans (hb2.mono hb1.size)
    clear hA h4 hA1 hb1
    obtain ⟨A1, c1, rfl, hc1, hm1, -⟩ := hR.form
    have hbad : chkV rs d = false → markV rs d = [] := markV_no
    have Hbad := Lib.hid hbad
    clear hbad
    go_wp2_with fail
    refine (markw_impl _ rs d _ (hR.less (Nat.zero_le _))).mono ?_
    rintro e w3 ⟨u, rfl, hM, hb3⟩
    replace hM := hM.less (show g + 1 ≤ w2.heap.size by have := hD.lt; omega)
    have hR3 := hR.on hb3
    have hD3 := hD.on hb3
    replace hb3 := hb2.trans (hb3.mono hb2.size)
    clear hR hD hb2
    have hml := markV_length rs d
    obtain ⟨A2, c2, rfl, hc2, hm2, -⟩ := hM.form
    by_cases hreg : isReg rs = true
    · go_wp2_with fail
      refine (isReg_spec _ rs _ (hR3.less (Nat.zero_le _))).mono ?_
      rintro e w4 ⟨rfl, hb4⟩
      rw [hreg]
      have hR4 := hR3.on hb4
      have hD4 := hD3.on hb4
      have hM4 := hM.on hb4
      replace hb4 := hb3.trans (hb4.mono hb3.size)
      clear hR3 hD3 hM hb3
      by_cases hk : 1 ≤ d ∧ d ≤ 8
      · obtain ⟨k1, k2⟩ := hk
        have k1' : ¬ d < 1 := by omega
        have k2' : ¬ d > 8 := by omega
        have hc : chkV rs d = true := by rw [chkV_of hreg]; exact (inB_iff _ _ _).2 ⟨k1, k2⟩
        rw [markV_yes hc] at hM4 hml ⊢
        have Hreg := Lib.hid hreg
        have Hok := Lib.hid (okAll_of_reg hreg)
        have hl32 := ((isReg_iff rs).1 hreg).1
        have Hcell := Lib.hid (fun x y : Int => width_cell (d := d) (x := x) (y := y) hreg)
        have Hmr := Lib.hid (isReg_canon (shortG (allG (cellsG rs)) d))
        clear hreg hc
        generalize canon (shortG (allG (cellsG rs)) d) = m at *
        go_wp2_with fail
        refine (isReg_spec _ m _ (hM4.less (Nat.zero_le _))).mono ?_
        rintro e w5 ⟨rfl, hb5⟩
        rw [Hmr.out]
        have hR5 := hR4.on hb5
        have hD5 := hD4.on hb5
        have hM5 := hM4.on hb5
        replace hb5 := hb4.trans (hb5.mono hb4.size)
        clear hR4 hD4 hM4 hb4
        go_wp2
        go_loopw [7] (fun iv wr => ∃ k : Nat, k ≤ 8 ∧ iv = .int .i64 k ∧ DiceL wr g ∧ RL wr (g + 1) (.slice A1 rs.length c1) rs ∧ RL wr (g + 1) (.slice A2 m.length c2) m ∧ Below w.heap.size w wr) (fun iv _ => 8 - (intOf iv).toNat)
        case atStart => exact ⟨0, by omega, rfl, hD5, hR5, hM5, hb5⟩
        case round =>
          obtain ⟨k, hk8, rfl, hDr, hRr, hMr, hbr⟩ := hrel
          clear hD5 hR5 hM5 hb5
          by_cases hlt : k < 8
          · go_wp2_with fail
            refine (w9Cell_any g _ rs _ hDr hRr Hok.out hl32).mono ?_
            rintro e w6 ⟨x, y, rfl, hon, hD6, hG6⟩
            have hR6 := hRr.keptG hG6 (Nat.lt_succ_self g)
            have hM6 := hMr.keptG hG6 (Nat.lt_succ_self g)
            have hb6 := hbr.trans (grown_below hG6 (fun q hq => by simp at hq; omega) hbr.size)
            clear hDr hRr hMr hbr hG6
            have HC := Lib.hid (Hcell.out x y)
            have zp := Bk.new w6 53 #[.int .i64 x, .int .i64 y]
            have hD7 := hD6.alloc (.cells #[.int .i64 x, .int .i64 y] 53)
            have hR7 := RL.alloc hR6 (.cells #[.int .i64 x, .int .i64 y] 53)
            have hM7 := RL.alloc hM6 (.cells #[.int .i64 x, .int .i64 y] 53)
            have hb7 := hb6.alloc hb6.size (.cells #[.int .i64 x, .int .i64 y] 53)
            obtain ⟨p0, p1⟩ := box2 zp
            clear hD6 hR6 hM6 hb6
            go_wp2_with fail
            refine (rt_impl _ rs x y false _ (hR7.less (Nat.zero_le _))).mono ?_
            clear p0 p1
            revert zp hD7 hR7 hM7 hb7
            generalize w6.alloc (.cells #[.int .i64 x, .int .i64 y] 53) = w7
            generalize w6.heap.size = gp
            intro zp hD7 hR7 hM7 hb7
            rintro e w8 ⟨rfl, hb8⟩
            have zp8 := zp.on hb8
            have hD8 := hD7.on hb8
            have hR8 := hR7.on hb8
            have hM8 := hM7.on hb8
            replace hb8 := hb7.trans (hb8.mono hb7.size)
            clear zp hD7 hR7 hM7 hb7
            generalize rtV rs x y false = H at *
            generalize hX : witX H = X at *
            generalize hY : witB H = Y at *
            obtain ⟨a0, b0, a1, b1⟩ := X
            dsimp only
            have zh := Bk.new w8 32 #[.int .i64 a0, .int .i64 b0, .int .i64 a1, .int .i64 b1]
            have zp9 := zp8.alloc (.cells #[.int .i64 a0, .int .i64 b0, .int .i64 a1, .int .i64 b1] 32)
            have hD9 := hD8.alloc (.cells #[.int .i64 a0, .int .i64 b0, .int .i64 a1, .int .i64 b1] 32)
            have hR9 := RL.alloc hR8 (.cells #[.int .i64 a0, .int .i64 b0, .int .i64 a1, .int .i64 b1] 32)
            have hM9 := RL.alloc hM8 (.cells #[.int .i64 a0, .int .i64 b0, .int .i64 a1, .int .i64 b1] 32)
            have hb9 := hb8.alloc hb8.size (.cells #[.int .i64 a0, .int .i64 b0, .int .i64 a1, .int .i64 b1] 32)
            obtain ⟨p0, p1⟩ := box2 zp9
            clear zp8 hD8 hR8 hM8 hb8
            go_wp2_with fail
            refine (rt_impl _ rs x y true _ (hR9.less (Nat.zero_le _))).mono ?_
            clear p0 p1
            revert zh zp9 hD9 hR9 hM9 hb9
            generalize w8.alloc (.cells #[.int .i64 a0, .int .i64 b0, .int .i64 a1, .int .i64 b1] 32) = w9
            generalize w8.heap.size = gh
            intro zh zp9 hD9 hR9 hM9 hb9
            rintro e w10 ⟨rfl, hb10⟩
            have zhA := zh.on hb10
            have zpA := zp9.on hb10
            have hDA := hD9.on hb10
            have hRA := hR9.on hb10
            have hMA := hM9.on hb10
            replace hb10 := hb9.trans (hb10.mono hb9.size)
            clear zh zp9 hD9 hR9 hM9 hb9
            generalize rtV rs x y true = V at *
            generalize hX2 : witX V = X2 at *
            generalize hY2 : witB V = Y2 at *
            obtain ⟨u0, v0, u1, v1⟩ := X2
            dsimp only
            have zv := Bk.new w10 32 #[.int .i64 u0, .int .i64 v0, .int .i64 u1, .int .i64 v1]
            have zhB := zhA.alloc (.cells #[.int .i64 u0, .int .i64 v0, .int .i64 u1, .int .i64 v1] 32)
            have zpB := zpA.alloc (.cells #[.int .i64 u0, .int .i64 v0, .int .i64 u1, .int .i64 v1] 32)
            have hDB := hDA.alloc (.cells #[.int .i64 u0, .int .i64 v0, .int .i64 u1, .int .i64 v1] 32)
            have hRB := RL.alloc hRA (.cells #[.int .i64 u0, .int .i64 v0, .int .i64 u1, .int .i64 v1] 32)
            have hMB := RL.alloc hMA (.cells #[.int .i64 u0, .int .i64 v0, .int .i64 u1, .int .i64 v1] 32)
            have hbB := hb10.alloc hb10.size (.cells #[.int .i64 u0, .int .i64 v0, .int .i64 u1, .int .i64 v1] 32)
            obtain ⟨p0, p1⟩ := box2 zpB
            clear zhA zpA hDA hRA hMA hb10
            go_wp2_with fail
            refine (contains_spec _ rs x y _ (hRB.less (Nat.zero_le _)) Hreg.out).mono ?_
            clear p0 p1
            revert zv zhB zpB hDB hRB hMB hbB
            generalize w10.alloc (.cells #[.int .i64 u0, .int .i64 v0, .int .i64 u1, .int .i64 v1] 32) = w11
            generalize w10.heap.size = gv
            intro zv zhB zpB hDB hRB hMB hbB
            rintro e w12 ⟨rfl, hb12⟩
            have zvC := zv.on hb12
            have zhC := zhB.on hb12
            have zpC := zpB.on hb12
            have hDC := hDB.on hb12
            have hRC := hRB.on hb12
            have hMC := hMB.on hb12
            replace hb12 := hbB.trans (hb12.mono hbB.size)
            clear zv zhB zpB hDB hRB hMB hbB
            generalize hgi : hasG (cellsG rs) x y = inn at *
            generalize hgm : hasG (cellsG m) x y = mm at *
            obtain ⟨p0, p1⟩ := box2 zpC
            obtain ⟨h0, h1, h2, h3⟩ := box4 zhC
            obtain ⟨q0, q1, q2, q3⟩ := box4 zvC
            rcases HC.out with ⟨rfl, rfl, rfl, o1, o2, e3⟩ | ⟨rfl, rfl, rfl, e3⟩
            · go_wp2_with fail
              refine (contains_spec _ m x y _ (hMC.less (Nat.zero_le _)) Hmr.out).mono ?_
              rintro e w13 ⟨rfl, hb13⟩
              rw [hgm, e3]
              have zvD := zvC.on hb13
              have zhD := zhC.on hb13
              have hDd := hDC.on hb13
              have hRd := hRC.on hb13
              have hMd := hMC.on hb13
              replace hb13 := hb12.trans (hb13.mono hb12.size)
              clear zvC zhC zpC hDC hRC hMC hb12 p0 p1 h0 h1 h2 h3 q0 q1 q2 q3 e3
              obtain ⟨h0, h1, h2, h3⟩ := box4 zhD
              have hL1 := fun w0 : World => long_any ⟨a0, b0, a1, b1⟩ o1 w0
              have hL2 := fun w0 : World => long_any ⟨u0, v0, u1, v1⟩ o2 w0
              clear o1 o2 hX hX2
              generalize areaR ⟨a0, b0, a1, b1⟩ = l1 at *
              generalize areaR ⟨u0, v0, u1, v1⟩ = l2 at *
              by_cases s1 : l1 < d
              · rw [decide_eq_true s1, Bool.true_or]
                go_wp2_with fail
                refine (hL1 _).mono ?_
                rintro e w14 ⟨rfl, hb14⟩
                have hDz := hDd.on hb14
                have hRz := hRd.on hb14
                have hMz := hMd.on hb14
                replace hb13 := hb13.trans (hb14.mono hb13.size)
                clear hDd hRd hMd
                go_wp2
                exact ⟨⟨k + 1, by omega, by go_num, hDz, hRz, hMz, hb13⟩, by simp [intOf]; omega⟩
              · rw [decide_eq_false s1, Bool.false_or]
                by_cases s2 : l2 < d
                · rw [decide_eq_true s2]
                  go_wp2_with fail
                  refine (hL1 _).mono ?_
                  rintro e w14 ⟨rfl, hb14⟩
                  have zvE := zvD.on hb14
                  obtain ⟨q0, q1, q2, q3⟩ := box4 zvE
                  replace hDd := hDd.on hb14
                  replace hRd := hRd.on hb14
                  replace hMd := hMd.on hb14
                  replace hb13 := hb13.trans (hb14.mono hb13.size)
                  go_wp2_with fail
                  refine (hL2 _).mono ?_
                  rintro e w15 ⟨rfl, hb15⟩
                  have hDz := hDd.on hb15
                  have hRz := hRd.on hb15
                  have hMz := hMd.on hb15
                  replace hb13 := hb13.trans (hb15.mono hb13.size)
                  clear hDd hRd hMd
                  go_wp2
                  exact ⟨⟨k + 1, by omega, by go_num, hDz, hRz, hMz, hb13⟩, by simp [intOf]; omega⟩
                · rw [decide_eq_false s2]
                  go_wp2_with fail
                  refine (hL1 _).mono ?_
                  rintro e w14 ⟨rfl, hb14⟩
                  have zvE := zvD.on hb14
                  obtain ⟨q0, q1, q2, q3⟩ := box4 zvE
                  replace hDd := hDd.on hb14
                  replace hRd := hRd.on hb14
                  replace hMd := hMd.on hb14
                  replace hb13 := hb13.trans (hb14.mono hb13.size)
                  go_wp2_with fail
                  refine (hL2 _).mono ?_
                  rintro e w15 ⟨rfl, hb15⟩
                  have hDz := hDd.on hb15
                  have hRz := hRd.on hb15
                  have hMz := hMd.on hb15
                  replace hb13 := hb13.trans (hb15.mono hb13.size)
                  clear hDd hRd hMd
                  go_wp2
                  exact ⟨⟨k + 1, by omega, by go_num, hDz, hRz, hMz, hb13⟩, by simp [intOf]; omega⟩
            · go_wp2_with fail
              refine (contains_spec _ m x y _ (hMC.less (Nat.zero_le _)) Hmr.out).mono ?_
              rintro e w13 ⟨rfl, hb13⟩
              rw [hgm, e3]
              have hDd := hDC.on hb13
              have hRd := hRC.on hb13
              have hMd := hMC.on hb13
              replace hb13 := hb12.trans (hb13.mono hb12.size)
              clear zvC zhC zpC hDC hRC hMC hb12 p0 p1 h0 h1 h2 h3 q0 q1 q2 q3
              go_wp2
              exact ⟨⟨k + 1, by omega, by go_num, hDd, hRd, hMd, hb13⟩, by simp [intOf]; omega⟩
          · go_wp2
            go_ret
            exact ⟨rfl, hbr⟩
      · have e := Hbad.out (by rw [chkV_of hreg]; exact decide_eq_false hk)
        rw [e]
        by_cases k1 : d < 1
        · go_wp2
          go_ret
          exact ⟨rfl, hb4⟩
        · have k2 : d > 8 := by omega
          go_wp2
          go_ret
          exact ⟨rfl, hb4⟩
    · have hreg' : isReg rs = false := by simpa using hreg
      rw [Hbad.out (chkV_no hreg')]
      go_wp2_with fail
      refine (isReg_spec _ rs _ (hR3.less (Nat.zero_le _))).mono ?_
      rintro e w4 ⟨rfl, hb4⟩
      rw [hreg']
      go_wp2
      go_ret
      exact ⟨rfl, hb3.trans (hb4.mono hb3.size)⟩

end Go.Proofs.Ytooglkdloaaomaa
