/- The walk of the law FnArea, over drawn inputs: it answers true. No conditions. -/
import Derived.Test.YtekglombgkndhaaLawC
import Derived.Test.YtekglombgkndhaaMarkK
import Derived.Test.YtekglombgkndhaaDrawF
import Derived.Test.YtekglombgkndhaaDrawE
import Derived.Test.YtekglombgkndhaaLimA
namespace Go.Proofs.Ytekglombgkndhaa
open Go.RowKit

set_option maxHeartbeats 400000 in
/-- Components of a region, in the program. -/
theorem comps_impl (v : Value) (rs : List Rc) (w : World) (hv : RL w 0 v rs) (h : isReg rs = true) : Calls Try.prog 8 #[v] w fun e w' => ∃ u, e = .returned u ∧ RLL w' w.heap.size u ((comps (cellsG rs)).map canon) ∧ Below w.heap.size w w' := by
  go_enter Try.func8, Try.ntmps8
  go_wp2_with fail
  refine (isRegion_any v rs _ hv).mono ?_
  rintro e w1 ⟨rfl, hb1⟩
  rw [h]
  go_wp2_with fail
  refine (components_any v rs _ (hv.on hb1)).mono ?_
  rintro e w2 ⟨u, rfl, hU, hb2⟩
  go_wp2
  go_ret
  exact ⟨_, rfl, hU.less hb1.size, hb1.trans (hb2.mono hb1.size)⟩
theorem area_facts {rs : List Rc} {d : Int} (h : isReg rs = true) (h1 : 1 ≤ d) (h2 : d ≤ 6400) :
    isReg (areaMV rs d) = true ∧ countG (cellsG (areaMV rs d)) = smallN d (comps (cellsG rs)) ∧ (∀ P ∈ comps (cellsG rs), countG P < d → w9V (canon P) (areaMV rs d) = true) ∧
    (((areaMV rs d).length ≠ 0 ∧ rs.length ≠ 0 ∧ smV rs < d) ∨ ((areaMV rs d).length = 0 ∧ (rs.length = 0 ∨ (rs.length ≠ 0 ∧ ¬ smV rs < d)))) := by
  rw [areaMV_yes h h1 h2, smV_yes h]
  refine ⟨isReg_canon _, by rw [count_congr (cells_canon _), small_sum], fun P hP hc => ?_, ?_⟩
  · refine w9V_sub (canon_ok P) (isReg_canon _) fun i hi hG => ?_
    rw [cells_canon _ i hi] at hG ⊢
    exact smallG_iff.2 ⟨P, hP, hc, hG⟩
  · have hl := small_lim (G := cellsG rs) (n := d)
    have hr := comps_reg h
    by_cases hc : canon (smallG d (comps (cellsG rs))) = []
    · refine .inr ⟨by rw [hc]; rfl, ?_⟩
      by_cases h0 : rs.length = 0
      · exact .inl h0
      · refine .inr ⟨h0, fun e => ?_⟩
        exact hl.2 ⟨fun e2 => h0 (hr.1 e2), e⟩ hc
    · obtain ⟨k1, k2⟩ := hl.1 hc
      exact .inl ⟨fun e => hc (List.length_eq_zero_iff.1 e), fun e => k1 (hr.2 e), k2⟩

set_option maxHeartbeats 3200000 in
set_option maxRecDepth 100000 in
/-- FnArea answers true. -/
theorem lawFnArea (A : Option Addr) (n c : Nat) (w : World) (hA : ArgB w A n) (hm : n ≤ maxLen) : Calls Try.prog 3 #[.slice A n c] w fun e w' => e = .returned (.bool true) ∧ Below w.heap.size w w' := by
  go_enter Try.func3, Try.ntmps3
  go_wp2_with fail
  refine (big_any A n c w hm).mono ?_
  rintro e w0 ⟨rfl, rfl⟩
  by_cases h4 : 4096 < n
  · rw [decide_eq_true h4]
    go_wp2
    go_ret
    exact ⟨rfl, Below.refl _ _⟩
  · rw [decide_eq_false h4]
    go_wp2_with fail
    refine (drawArea_any A n c _ hA (by omega)).mono ?_
    rintro e w1 ⟨v, rs, d, rfl, hR, hl, hd, hb1⟩
    clear hA h4
    replace hR := hR.less (Nat.zero_le _)
    obtain ⟨A1, c1, rfl, hc1, hm1, -⟩ := hR.form
    have Hno := Lib.hid (fun h => areaMV_no (rs := rs) (n := d) h)
    have Hfacts := Lib.hid (fun h h1 h2 => area_facts (rs := rs) (d := d) h h1 h2)
    have hml := areaMV_length rs d
    go_wp2_with fail
    refine (markArea_impl _ rs d _ hR).mono ?_
    rintro e w2 ⟨z, rfl, hM, hb2⟩
    replace hM := hM.less (Nat.zero_le _)
    have hR2 := hR.on hb2
    replace hb2 := hb1.trans (hb2.mono hb1.size)
    obtain ⟨A2, c2, rfl, hc2, hm2, -⟩ := hM.form
    clear hR hb1
    generalize areaMV rs d = m at *
    by_cases h1 : isReg rs = true
    · go_wp2_with fail
      refine (isReg_spec _ rs _ hR2).mono ?_
      rintro e w3 ⟨rfl, hb3⟩
      rw [h1]
      have hR3 := hR2.on hb3
      have hM3 := hM.on hb3
      replace hb3 := hb2.trans (hb3.mono hb2.size)
      clear hR2 hM hb2
      by_cases hk : 1 ≤ d ∧ d ≤ 6400
      · obtain ⟨o1, o2, o3, o4⟩ := Hfacts.out h1 hk.1 hk.2
        have H1 := Lib.hid h1
        obtain ⟨k1, k2⟩ := hk
        have k1' : ¬ d < 1 := by omega
        have k2' : ¬ d > 6400 := by omega
        have O1 := Lib.hid o1
        have O2 := Lib.hid o2
        have O3 := Lib.hid o3
        have O4 := Lib.hid o4
        clear h1 o1 o2 o3 o4 Hno Hfacts
        go_wp2_with fail
        refine (comps_impl _ rs _ hR3 H1.out).mono ?_
        rintro e w4 ⟨u4, rfl, hU, hb4⟩
        replace hU := hU.less (Nat.zero_le _)
        have hR4 := hR3.on hb4
        have hM4 := hM3.on hb4
        replace hb4 := hb3.trans (hb4.mono hb3.size)
        clear hR3 hM3 hb3
        have Hlen := comps_length (cellsG rs)
        have Hsm := Lib.hid (fun k => smallN_bounds d ((comps (cellsG rs)).take k))
        have Hlt : ∀ k, ((comps (cellsG rs)).take k).length ≤ 6400 := fun k => Nat.le_trans (List.length_take_le' _ _) Hlen
        have HLT := Lib.hid Hlt
        clear Hlt
        generalize comps (cellsG rs) = Cs at *
        obtain ⟨A3, c3, hua, hc3, hm3⟩ := hU.form
        rw [List.length_map] at hua hc3
        subst hua
        go_wp2
        go_loopw [7, 8] (fun sv iv wr => ∃ k : Nat, k ≤ Cs.length ∧ iv = .int .i64 k ∧ sv = .int .i64 (smallN d (Cs.take k)) ∧ RLL wr 0 (.slice A3 Cs.length c3) (Cs.map canon) ∧ RL wr 0 (.slice A1 rs.length c1) rs ∧ RL wr 0 (.slice A2 m.length c2) m ∧ Below w.heap.size w wr) (fun _ iv _ => Cs.length - (intOf iv).toNat)
        case atStart => exact ⟨0, Nat.zero_le _, rfl, rfl, hU, hR4, hM4, hb4⟩
        case round =>
          obtain ⟨k, hkl, rfl, rfl, hL, hR5, hM5, hb5⟩ := hrel
          clear hU hR4 hM4 hb4
          by_cases hlt : k < Cs.length
          · obtain ⟨g, u, qs, rfl, hr, hg, f0, hQ⟩ := hL.elem (k := k) (by rw [List.length_map]; exact hlt)
            obtain ⟨P, hP⟩ : ∃ P, Cs[k]? = some P := ⟨_, List.getElem?_eq_getElem hlt⟩
            rw [List.getElem?_map, hP] at hr
            simp only [Option.map_some, Option.some.injEq] at hr
            subst hr
            have hst := smallN_step d hP
            have hcb := count_bounds P
            have hbd := Hsm.out k
            have hbl := HLT.out k
            have hPm := O3.out P (List.mem_of_getElem? hP)
            have hcnt : countG (cellsG (canon P)) = countG P := count_congr (cells_canon P)
            have Hcnt := Lib.hid hcnt
            have HPm := Lib.hid hPm
            have Hst := Lib.hid hst
            have Hrg := Lib.hid (isReg_canon P)
            have Hrok := Lib.hid (canon_ok P)
            obtain ⟨A4, c4, rfl, -, -, -⟩ := hQ.form
            clear hst hcnt hPm hP
            generalize countG P = cn at *
            generalize smallN d (Cs.take k) = sn at *
            go_wp2_with fail
            refine (regArea_spec _ (canon P) _ hQ Hrg.out).mono ?_
            rintro e w6 ⟨rfl, hb6⟩
            rw [Hcnt.out]
            have hL6 := hL.on hb6
            have hR6 := hR5.on hb6
            have hM6 := hM5.on hb6
            have hQ6 := hQ.on hb6
            have f6 := (hb6.cell (p := ⟨g, k, none⟩) hg).trans f0
            replace hb6 := hb5.trans (hb6.mono hb5.size)
            clear hL hR5 hM5 hQ hb5 f0
            by_cases hcd : cn < d
            · have es := Go.IntWalk.i64_in (sn + cn) (by omega)
              go_wp2_with fail
              refine (w9cov_any _ _ (canon P) m _ hQ6 hM6 Hrok.out).mono ?_
              rintro e w7 ⟨rfl, hb7⟩
              rw [HPm.out hcd]
              have hL7 := hL6.on hb7
              have hR7 := hR6.on hb7
              have hM7 := hM6.on hb7
              replace hb7 := hb6.trans (hb7.mono hb6.size)
              clear hL6 hR6 hM6 hQ6 hb6
              go_wp2
              exact ⟨⟨k + 1, by omega, by go_num, by rw [Hst.out, if_pos hcd], hL7, hR7, hM7, hb7⟩, by simp [intOf]; omega⟩
            · go_wp2
              exact ⟨⟨k + 1, by omega, by go_num, by rw [Hst.out, if_neg (by omega), Int.add_zero], hL6, hR6, hM6, hb6⟩, by simp [intOf]; omega⟩
          · have hke : k = Cs.length := by omega
            subst hke
            rw [List.take_length]
            have h9 := O2.out
            have H9 := Lib.hid h9
            clear h9 hL
            go_wp2_with fail
            refine (small_impl _ rs _ hR5).mono ?_
            rintro e w6 ⟨rfl, hb6⟩
            have hM6 := hM5.on hb6
            replace hb6 := hb5.trans (hb6.mono hb5.size)
            clear hR5 hM5 hb5
            go_wp2_with fail
            refine (regArea_spec _ m _ hM6 O1.out).mono ?_
            rintro e w7 ⟨rfl, hb7⟩
            rw [H9.out]
            replace hb7 := hb6.trans (hb7.mono hb6.size)
            clear hM6 hb6
            generalize smV rs = least at *
            rcases O4.out with ⟨q1, q2, q3⟩ | ⟨q1, q2 | ⟨q2, q3⟩⟩
            · have q1c : ((m.length : Nat) : Int) > 0 := by omega
              have q2c : ((rs.length : Nat) : Int) > 0 := by omega
              go_wp2
              go_ret
              exact ⟨ret_bool (by first | rfl | exact decide_eq_true (by omega) | (rw [decide_eq_false (by omega)]; rfl) | (simp; omega)), hb7⟩
            · have q1c : ¬ ((m.length : Nat) : Int) > 0 := by omega
              have q2c : ¬ ((rs.length : Nat) : Int) > 0 := by omega
              clear q1 q2
              go_wp2
              go_ret
              exact ⟨ret_bool (by first | rfl | exact decide_eq_true (by omega) | (rw [decide_eq_false (by omega)]; rfl) | (simp; omega)), hb7⟩
            · have q1c : ¬ ((m.length : Nat) : Int) > 0 := by omega
              have q2c : ((rs.length : Nat) : Int) > 0 := by omega
              clear q1
              go_wp2
              go_ret
              exact ⟨ret_bool (by first | rfl | exact decide_eq_true (by omega) | (rw [decide_eq_false (by omega)]; rfl) | (simp; omega)), hb7⟩
      · have e := Hno.out (fun h => hk h.2)
        subst e
        by_cases k1 : d < 1
        · go_wp2
          go_ret
          exact ⟨rfl, hb3⟩
        · have k2 : d > 6400 := by omega
          go_wp2
          go_ret
          exact ⟨rfl, hb3⟩
    · have h1' : isReg rs = false := by simpa using h1
      have e := Hno.out (fun h => h1 h.1)
      subst e
      go_wp2_with fail
      refine (isReg_spec _ rs _ hR2).mono ?_
      rintro e w3 ⟨rfl, hb3⟩
      rw [h1']
      go_wp2
      go_ret
      exact ⟨rfl, hb2.trans (hb3.mono hb2.size)⟩

end Go.Proofs.Ytekglombgkndhaa
