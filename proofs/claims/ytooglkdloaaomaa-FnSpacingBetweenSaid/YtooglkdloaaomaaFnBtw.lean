/- The walk of the law FnSpacingBetween, over drawn inputs: it answers true. No conditions. -/
import Derived.Test.YtooglkdloaaomaaSpac2
import Derived.Test.YtooglkdloaaomaaLawB
import Derived.Test.YtooglkdloaaomaaSame
import Derived.Test.YtooglkdloaaomaaDrawE
namespace Go.Proofs.Ytooglkdloaaomaa
open Go.RowKit

theorem mkb_comm (rs qs : List Rc) (d : Int) : mkbV qs rs d = mkbV rs qs d := by
  unfold mkbV mkbG
  rw [btw_comm, inter_comm, Bool.and_comm (isReg qs) (isReg rs)]
theorem msb_comm (rs qs : List Rc) : msbV qs rs = msbV rs qs := by
  unfold msbV
  rw [btw_comm, meet_comm]
  by_cases h1 : isReg rs = true <;> by_cases h2 : isReg qs = true <;> simp [h1, h2]
theorem mkb_yes {rs qs : List Rc} {d : Int} (h1 : isReg rs = true) (h2 : isReg qs = true) (hd : 1 ≤ d ∧ d ≤ 8) : mkbV rs qs d = canon (mkbG rs qs d) := by
  have hb : inB 1 d 8 = true := (inB_iff _ _ _).2 hd
  unfold mkbV
  rw [h1, h2, hb]
  exact if_pos rfl
theorem mkb_no {rs qs : List Rc} {d : Int} (h : ¬ (isReg rs = true ∧ isReg qs = true ∧ 1 ≤ d ∧ d ≤ 8)) : mkbV rs qs d = [] := by
  unfold mkbV
  rw [if_neg]
  intro hc
  rw [Bool.and_eq_true, Bool.and_eq_true, inB_iff] at hc
  exact h ⟨hc.1.1, hc.1.2, hc.2⟩
theorem btw_case {rs qs : List Rc} {d : Int} (h1 : isReg rs = true) (h2 : isReg qs = true) (hd : 1 ≤ d ∧ d ≤ 8) :
    ((mkbV rs qs d).length = 0 ∧ (msbV rs qs < 0 ∨ (¬ msbV rs qs < 0 ∧ d ≤ msbV rs qs))) ∨ ((mkbV rs qs d).length ≠ 0 ∧ ¬ msbV rs qs < 0 ∧ ¬ d ≤ msbV rs qs) := by
  rw [mkb_yes h1 h2 hd]
  unfold mkbG msbV
  rw [if_pos ⟨h1, h2⟩]
  have hl := btw_lim (A := cellsG rs) (B := cellsG qs) (d := d)
  have hok := minA_bounds (allBtw_ok (cellsG rs) (cellsG qs))
  by_cases hc : canon (unionG (shortG (allBtw (cellsG rs) (cellsG qs)) d) (interG (cellsG rs) (cellsG qs))) = []
  · obtain ⟨k1, k2⟩ := hl.1 hc
    rw [hc, k1, if_neg (by simp)]
    refine .inl ⟨rfl, ?_⟩
    by_cases h0 : (allBtw (cellsG rs) (cellsG qs)).length = 0
    · rw [if_pos h0]; exact .inl (by omega)
    · rw [if_neg h0]
      rcases k2 with k2 | k2
      · exact absurd k2 h0
      · exact .inr ⟨by omega, k2⟩
  · refine .inr ⟨fun e => hc (List.length_eq_zero_iff.1 e), ?_⟩
    by_cases hm : meetG (cellsG rs) (cellsG qs) = true
    · rw [if_pos hm]; omega
    · have hm' : meetG (cellsG rs) (cellsG qs) = false := by simpa using hm
      rw [if_neg hm]
      have h0 : ¬ (allBtw (cellsG rs) (cellsG qs)).length = 0 := fun e => hc (hl.2 ⟨hm', .inl e⟩)
      rw [if_neg h0]
      exact ⟨by omega, fun e => hc (hl.2 ⟨hm', .inr e⟩)⟩
theorem btw_own {rs : List Rc} {d : Int} (h : isReg rs = true) (hd : 1 ≤ d ∧ d ≤ 8) :
    isReg (mkbV rs rs d) = true ∧ isReg (markgV rs d) = true ∧ w9V rs (mkbV rs rs d) = true ∧ w9V (markgV rs d) (mkbV rs rs d) = true ∧ countG (cellsG (mkbV rs rs d)) = countG (cellsG rs) + countG (cellsG (markgV rs d)) := by
  have hc : chkV rs d = true := by rw [chkV_of h]; exact (inB_iff _ _ _).2 hd
  rw [mkb_yes h h hd, markgV_yes hc]
  unfold mkbG
  rw [allBtw_self]
  have hi : interG (cellsG rs) (cellsG rs) = cellsG rs := by funext i; unfold interG; rw [Bool.and_self]
  rw [hi]
  refine ⟨isReg_canon _, isReg_canon _, ?_, ?_, ?_⟩
  · refine w9V_sub (okAll_of_reg h) (isReg_canon _) fun i hi hG => ?_
    rw [cells_canon _ i hi]
    unfold unionG
    rw [hG, Bool.or_true]
  · refine w9V_sub (canon_ok _) (isReg_canon _) fun i hi hG => ?_
    rw [cells_canon _ i hi] at hG ⊢
    unfold unionG
    rw [hG, Bool.true_or]
  · rw [count_congr (cells_canon _), count_congr (cells_canon _), count_disj (gaps_apart _ _)]
    omega

set_option maxHeartbeats 3200000 in
set_option maxRecDepth 100000 in
/-- FnSpacingBetween answers true. -/
theorem lawFnBtw (A : Option Addr) (n c : Nat) (w : World) (hA : ArgB w A n) (hm : n ≤ maxLen) : Calls Try.prog 10 #[.slice A n c] w fun e w' => e = .returned (.bool true) ∧ Below w.heap.size w w' := by
  go_enter Try.func10, Try.ntmps10
  go_wp2_with fail
  refine (big_any A n c w hm).mono ?_
  rintro e w0 ⟨rfl, rfl⟩
  by_cases h4 : 4096 < n
  · rw [decide_eq_true h4]
    go_wp2
    go_ret
    exact ⟨rfl, Below.refl _ _⟩
  · rw [decide_eq_false h4]
    go_wp2_with fail
    refine (drawBetween_any A n c _ hA (by omega)).mono ?_
    rintro e w1 ⟨v, u, rs, qs, d, rfl, hR, hl, hQ, hl2, hd, hb1⟩
    clear hA h4
    replace hR := hR.less (Nat.zero_le _)
    replace hQ := hQ.less (Nat.zero_le _)
    obtain ⟨A1, c1, rfl, hc1, hm1, -⟩ := hR.form
    obtain ⟨A2, c2, rfl, hc2, hm2, -⟩ := hQ.form
    have Hno := Lib.hid (fun h => mkb_no (rs := rs) (qs := qs) (d := d) h)
    have Hcase := Lib.hid (fun h1 h2 h3 => btw_case (rs := rs) (qs := qs) (d := d) h1 h2 h3)
    have Hown := Lib.hid (fun h1 h2 => btw_own (rs := rs) (d := d) h1 h2)
    have hml := mkbV_length rs qs d
    go_wp2_with fail
    refine (mkb_impl _ rs _ qs d _ hR hQ).mono ?_
    rintro e w2 ⟨z, rfl, hM, hb2⟩
    replace hM := hM.less (Nat.zero_le _)
    have hR2 := hR.on hb2
    have hQ2 := hQ.on hb2
    replace hb2 := hb1.trans (hb2.mono hb1.size)
    obtain ⟨A3, c3, rfl, hc3, hm3, -⟩ := hM.form
    clear hR hQ hb1
    go_wp2_with fail
    refine (mkb_impl _ qs _ rs d _ hQ2 hR2).mono ?_
    rintro e w3 ⟨z3, rfl, hN, hb3⟩
    rw [mkb_comm rs qs d] at hN
    replace hN := hN.less (Nat.zero_le _)
    have hR3 := hR2.on hb3
    have hQ3 := hQ2.on hb3
    have hM3 := hM.on hb3
    replace hb3 := hb2.trans (hb3.mono hb2.size)
    clear hR2 hQ2 hM hb2
    go_wp2_with fail
    refine (sameRects_any _ z3 _ _ _ hM3 hN).mono ?_
    rintro e w4 ⟨rfl, hb4⟩
    rw [(eqL_iff _ _).2 rfl]
    have hR4 := hR3.on hb4
    have hQ4 := hQ3.on hb4
    have hM4 := hM3.on hb4
    replace hb4 := hb3.trans (hb4.mono hb3.size)
    clear hR3 hQ3 hM3 hN hb3
    go_wp2_with fail
    refine (msb_impl _ rs _ qs _ hR4 hQ4).mono ?_
    rintro e w5 ⟨rfl, hb5⟩
    have hR5 := hR4.on hb5
    have hQ5 := hQ4.on hb5
    have hM5 := hM4.on hb5
    replace hb5 := hb4.trans (hb5.mono hb4.size)
    clear hR4 hQ4 hM4 hb4
    go_wp2_with fail
    refine (msb_impl _ qs _ rs _ hQ5 hR5).mono ?_
    rintro e w6 ⟨rfl, hb6⟩
    rw [msb_comm rs qs]
    have hR6 := hR5.on hb6
    have hQ6 := hQ5.on hb6
    have hM6 := hM5.on hb6
    replace hb6 := hb5.trans (hb6.mono hb5.size)
    clear hR5 hQ5 hM5 hb5
    generalize mkbV rs qs d = m at *
    by_cases h1 : isReg rs = true
    · go_wp2_with fail
      refine (isReg_spec _ rs _ hR6).mono ?_
      rintro e w7 ⟨rfl, hb7⟩
      rw [h1]
      have hR7 := hR6.on hb7
      have hQ7 := hQ6.on hb7
      have hM7 := hM6.on hb7
      replace hb7 := hb6.trans (hb7.mono hb6.size)
      clear hR6 hQ6 hM6 hb6
      by_cases h2 : isReg qs = true
      · go_wp2_with fail
        refine (isReg_spec _ qs _ hQ7).mono ?_
        rintro e w8 ⟨rfl, hb8⟩
        rw [h2]
        have hR8 := hR7.on hb8
        have hQ8 := hQ7.on hb8
        have hM8 := hM7.on hb8
        replace hb8 := hb7.trans (hb8.mono hb7.size)
        clear hR7 hQ7 hM7 hb7
        by_cases hk : 1 ≤ d ∧ d ≤ 8
        · have HK := Hcase.out h1 h2 hk
          obtain ⟨o1, o2, o3, o4, o5⟩ := Hown.out h1 hk
          have H1 := Lib.hid h1
          have hw9 := okAll_of_reg h1
          obtain ⟨k1, k2⟩ := hk
          have k1' : ¬ d < 1 := by omega
          have k2' : ¬ d > 8 := by omega
          have cb1 := count_bounds (cellsG rs)
          have cb2 := count_bounds (cellsG (markgV rs d))
          have hsum := Go.IntWalk.i64_in (countG (cellsG rs) + countG (cellsG (markgV rs d))) (by omega)
          have O1 := Lib.hid o1
          have O2 := Lib.hid o2
          have O3 := Lib.hid o3
          have O4 := Lib.hid o4
          have O5 := Lib.hid o5
          have ho2 := Lib.hid (okAll_of_reg o2)
          have hw := Lib.hid hw9
          clear h1 h2 o1 o2 o3 o4 o5 hw9 Hno Hcase Hown
          go_wp2_with fail
          refine (mkb_impl _ rs _ rs d _ hR8 hR8).mono ?_
          rintro e w9 ⟨z9, rfl, hO, hb9⟩
          replace hO := hO.less (Nat.zero_le _)
          have hR9 := hR8.on hb9
          have hQ9 := hQ8.on hb9
          replace hb9 := hb8.trans (hb9.mono hb8.size)
          clear hR8 hQ8 hM8 hb8
          go_wp2_with fail
          refine (markg_impl _ rs d _ hR9).mono ?_
          rintro e w10 ⟨z10, rfl, hP, hb10⟩
          replace hP := hP.less (Nat.zero_le _)
          have hR10 := hR9.on hb10
          have hQ10 := hQ9.on hb10
          have hO10 := hO.on hb10
          replace hb10 := hb9.trans (hb10.mono hb9.size)
          clear hR9 hQ9 hO hb9
          go_wp2_with fail
          refine (msb_impl _ rs _ qs _ hR10 hQ10).mono ?_
          rintro e w11 ⟨rfl, hb11⟩
          have hR11 := hR10.on hb11
          have hO11 := hO10.on hb11
          have hP11 := hP.on hb11
          replace hb11 := hb10.trans (hb11.mono hb10.size)
          clear hR10 hQ10 hO10 hP hb10
          rcases HK with ⟨q1, q2 | ⟨q2, q3⟩⟩ | ⟨q1, q2, q3⟩
          · have q1b : (((m.length : Nat) : Int) == 0) = true := by rw [q1]; rfl
            clear q1
            go_wp2_with fail
            refine (w9cov_any _ z9 rs _ _ hR11 hO11 hw.out).mono ?_
            rintro e w12 ⟨rfl, hb12⟩
            rw [O3.out]
            have hR12 := hR11.on hb12
            have hO12 := hO11.on hb12
            have hP12 := hP11.on hb12
            replace hb12 := hb11.trans (hb12.mono hb11.size)
            clear hR11 hO11 hP11 hb11
            go_wp2_with fail
            refine (w9cov_any z10 z9 _ _ _ hP12 hO12 ho2.out).mono ?_
            rintro e w13 ⟨rfl, hb13⟩
            rw [O4.out]
            have hR13 := hR12.on hb13
            have hO13 := hO12.on hb13
            have hP13 := hP12.on hb13
            replace hb13 := hb12.trans (hb13.mono hb12.size)
            clear hR12 hO12 hP12 hb12
            go_wp2_with fail
            refine (regArea_spec z9 _ _ hO13 O1.out).mono ?_
            rintro e w14 ⟨rfl, hb14⟩
            rw [O5.out]
            have hR14 := hR13.on hb14
            have hP14 := hP13.on hb14
            replace hb14 := hb13.trans (hb14.mono hb13.size)
            clear hR13 hO13 hP13 hb13
            go_wp2_with fail
            refine (regArea_spec _ _ _ hR14 H1.out).mono ?_
            rintro e w15 ⟨rfl, hb15⟩
            have hP15 := hP14.on hb15
            replace hb15 := hb14.trans (hb15.mono hb14.size)
            clear hR14 hP14 hb14
            go_wp2_with fail
            refine (regArea_spec _ _ _ hP15 O2.out).mono ?_
            rintro e w16 ⟨rfl, hb16⟩
            replace hb16 := hb15.trans (hb16.mono hb15.size)
            go_wp2
            go_ret
            exact ⟨ret_bool (by simp), hb16⟩
          · have q1b : (((m.length : Nat) : Int) == 0) = true := by rw [q1]; rfl
            have q3' : msbV rs qs ≥ d := q3
            clear q1
            go_wp2_with fail
            refine (w9cov_any _ z9 rs _ _ hR11 hO11 hw.out).mono ?_
            rintro e w12 ⟨rfl, hb12⟩
            rw [O3.out]
            have hR12 := hR11.on hb12
            have hO12 := hO11.on hb12
            have hP12 := hP11.on hb12
            replace hb12 := hb11.trans (hb12.mono hb11.size)
            clear hR11 hO11 hP11 hb11
            go_wp2_with fail
            refine (w9cov_any z10 z9 _ _ _ hP12 hO12 ho2.out).mono ?_
            rintro e w13 ⟨rfl, hb13⟩
            rw [O4.out]
            have hR13 := hR12.on hb13
            have hO13 := hO12.on hb13
            have hP13 := hP12.on hb13
            replace hb13 := hb12.trans (hb13.mono hb12.size)
            clear hR12 hO12 hP12 hb12
            go_wp2_with fail
            refine (regArea_spec z9 _ _ hO13 O1.out).mono ?_
            rintro e w14 ⟨rfl, hb14⟩
            rw [O5.out]
            have hR14 := hR13.on hb14
            have hP14 := hP13.on hb14
            replace hb14 := hb13.trans (hb14.mono hb13.size)
            clear hR13 hO13 hP13 hb13
            go_wp2_with fail
            refine (regArea_spec _ _ _ hR14 H1.out).mono ?_
            rintro e w15 ⟨rfl, hb15⟩
            have hP15 := hP14.on hb15
            replace hb15 := hb14.trans (hb15.mono hb14.size)
            clear hR14 hP14 hb14
            go_wp2_with fail
            refine (regArea_spec _ _ _ hP15 O2.out).mono ?_
            rintro e w16 ⟨rfl, hb16⟩
            replace hb16 := hb15.trans (hb16.mono hb15.size)
            go_wp2
            go_ret
            exact ⟨ret_bool (by simp), hb16⟩
          · have q1b : (((m.length : Nat) : Int) == 0) = false := by simpa using q1
            have q3' : ¬ msbV rs qs ≥ d := by omega
            clear q1
            go_wp2_with fail
            refine (w9cov_any _ z9 rs _ _ hR11 hO11 hw.out).mono ?_
            rintro e w12 ⟨rfl, hb12⟩
            rw [O3.out]
            have hR12 := hR11.on hb12
            have hO12 := hO11.on hb12
            have hP12 := hP11.on hb12
            replace hb12 := hb11.trans (hb12.mono hb11.size)
            clear hR11 hO11 hP11 hb11
            go_wp2_with fail
            refine (w9cov_any z10 z9 _ _ _ hP12 hO12 ho2.out).mono ?_
            rintro e w13 ⟨rfl, hb13⟩
            rw [O4.out]
            have hR13 := hR12.on hb13
            have hO13 := hO12.on hb13
            have hP13 := hP12.on hb13
            replace hb13 := hb12.trans (hb13.mono hb12.size)
            clear hR12 hO12 hP12 hb12
            go_wp2_with fail
            refine (regArea_spec z9 _ _ hO13 O1.out).mono ?_
            rintro e w14 ⟨rfl, hb14⟩
            rw [O5.out]
            have hR14 := hR13.on hb14
            have hP14 := hP13.on hb14
            replace hb14 := hb13.trans (hb14.mono hb13.size)
            clear hR13 hO13 hP13 hb13
            go_wp2_with fail
            refine (regArea_spec _ _ _ hR14 H1.out).mono ?_
            rintro e w15 ⟨rfl, hb15⟩
            have hP15 := hP14.on hb15
            replace hb15 := hb14.trans (hb15.mono hb14.size)
            clear hR14 hP14 hb14
            go_wp2_with fail
            refine (regArea_spec _ _ _ hP15 O2.out).mono ?_
            rintro e w16 ⟨rfl, hb16⟩
            replace hb16 := hb15.trans (hb16.mono hb15.size)
            go_wp2
            go_ret
            exact ⟨ret_bool (by simp), hb16⟩
        · have e := Hno.out (fun h => hk h.2.2)
          subst e
          by_cases k1 : d < 1
          · go_wp2
            go_ret
            exact ⟨rfl, hb8⟩
          · have k2 : d > 8 := by omega
            go_wp2
            go_ret
            exact ⟨rfl, hb8⟩
      · have h2' : isReg qs = false := by simpa using h2
        have e := Hno.out (fun h => h2 h.2.1)
        subst e
        go_wp2_with fail
        refine (isReg_spec _ qs _ hQ7).mono ?_
        rintro e w8 ⟨rfl, hb8⟩
        rw [h2']
        go_wp2
        go_ret
        exact ⟨rfl, hb7.trans (hb8.mono hb7.size)⟩
    · have h1' : isReg rs = false := by simpa using h1
      have e := Hno.out (fun h => h1 h.1)
      subst e
      go_wp2_with fail
      refine (isReg_spec _ rs _ hR6).mono ?_
      rintro e w7 ⟨rfl, hb7⟩
      rw [h1']
      go_wp2
      go_ret
      exact ⟨rfl, hb6.trans (hb7.mono hb6.size)⟩

end Go.Proofs.Ytooglkdloaaomaa
