/- The walk of the law FnSpacingLimit, over drawn inputs: it answers true. No conditions. -/
import Derived.Test.YtooglkdloaaomaaLimA
import Derived.Test.YtooglkdloaaomaaSpac1
import Derived.Deep.CutRange
import Derived.Deep.RegionHeld
import Derived.BigQuiet
namespace Go.Proofs.Ytooglkdloaaomaa
open Go.RowKit

/-- What the law asks of the markers. -/
theorem slim_facts {rs : List Rc} {d : Int} (h : isReg rs = true) (h1 : 1 ≤ d) (h2 : d ≤ 8) :
    markgV rs d = canon (shortG (allGaps (cellsG rs)) d) ∧ minsV rs = minA (allGaps (cellsG rs)) ∧ swV rs d = firstA (allGaps (cellsG rs)) d ∧ gapsV false rs = gapsG (cellsG rs) false ∧ gapsV true rs = gapsG (cellsG rs) true := by
  have hc : chkV rs d = true := by rw [chkV_of h]; exact decide_eq_true ⟨h1, h2⟩
  exact ⟨markgV_yes hc, minsV_yes h, swV_yes hc, gapsV_yes h, gapsV_yes h⟩
theorem witB_none : witB none = false := rfl

set_option maxHeartbeats 3200000 in
set_option maxRecDepth 100000 in
/-- FnSpacingLimit answers true. -/
theorem lawFnSLim (A : Option Addr) (n c : Nat) (w : World) (hA : ArgB w A n) (hm : n ≤ maxLen) : Calls Try.prog 11 #[.slice A n c] w fun e w' => e = .returned (.bool true) ∧ Below w.heap.size w w' := by
  go_enter Try.func11, Try.ntmps11
  go_wp2_with fail
  refine (big_any A n c w hm).mono ?_
  rintro e w0 ⟨rfl, rfl⟩
  by_cases h4 : 4096 < n
  · rw [decide_eq_true h4]
    go_wp2
    go_ret
    exact ⟨rfl, Below.refl _ _⟩
  · rw [decide_eq_false h4]
    go_wp2_with fail
    refine (drawSpacing_any A n c _ hA (by omega)).mono ?_
    rintro e w1 ⟨v, rs, d, rfl, hR, hl, hd, hb1⟩
    clear hA h4
    replace hR := hR.less (Nat.zero_le _)
    obtain ⟨A1, c1, hv1, -, -, -⟩ := hR.form
    subst hv1
    go_wp2_with fail
    refine (sw_impl _ rs d _ hR).mono ?_
    rintro e w2 ⟨rfl, hb2⟩
    replace hR := hR.on hb2
    replace hb2 := hb1.trans (hb2.mono hb1.size)
    clear hb1
    have hbad : chkV rs d = false → witB (swV rs d) = false := fun h => by rw [swV_no h]; rfl
    have hno : isReg rs = false → witB (swV rs d) = false := fun h => hbad (chkV_no h)
    have hlo : isReg rs = true → ¬ (1 ≤ d ∧ d ≤ 8) → witB (swV rs d) = false := fun h h' => hbad (by rw [chkV_of h]; exact decide_eq_false h')
    have hcase : isReg rs = true → 1 ≤ d → d ≤ 8 → (witB (swV rs d) = true ∧ 0 < (markgV rs d).length ∧ minsV rs ≠ 0 ∧ minsV rs < d ∧ areaR (witX (swV rs d)) < d ∧ okRc (witX (swV rs d)) = true ∧ covV (markgV rs d) (witX (swV rs d)) = areaR (witX (swV rs d))) ∨ (witB (swV rs d) = false ∧ (markgV rs d).length = 0 ∧ (minsV rs = 0 ∨ (minsV rs ≠ 0 ∧ d ≤ minsV rs))) := by
      intro h h1 h2
      obtain ⟨e1, e2, e3, e4, e5⟩ := slim_facts h h1 h2
      have hok := allGaps_ok (cellsG rs)
      have Hlim := lim_iff (R := allGaps (cellsG rs)) (d := d) hok
      have Hsn := short_none (R := allGaps (cellsG rs)) (d := d) hok
      have Hfn := first_none (R := allGaps (cellsG rs)) (d := d)
      have Hz := min_zero hok
      rw [e1, e2, e3]
      cases hf : firstA (allGaps (cellsG rs)) d with
      | none =>
        have hm0 := Hsn.2 (Hfn.1 hf)
        refine .inr ⟨rfl, by rw [hm0]; rfl, ?_⟩
        by_cases hz : minA (allGaps (cellsG rs)) = 0
        · exact .inl hz
        · exact .inr ⟨hz, (Hlim.1 hm0).resolve_left fun e => hz (Hz.2 e)⟩
      | some r =>
        have hmne : canon (shortG (allGaps (cellsG rs)) d) ≠ [] := fun h => by have := Hfn.2 (Hsn.1 h); rw [hf] at this; cases this
        have hnl : ¬ (allGaps (cellsG rs) = [] ∨ d ≤ minA (allGaps (cellsG rs))) := fun h => hmne (Hlim.2 h)
        exact .inl ⟨rfl, List.length_pos_iff.2 hmne, fun h => hnl (.inl (Hz.1 h)), by omega, (first_is hf).2, okAll_in hok (first_is hf).1, short_cover hok (first_is hf).1 (first_is hf).2⟩
    have hgap : isReg rs = true → (minsV rs = 0 ↔ (gapsV false rs).length + (gapsV true rs).length = 0) := by
      intro h
      rw [minsV_yes h, gapsV_yes h, gapsV_yes h, min_zero (allGaps_ok _), ← List.length_append, List.length_eq_zero_iff]
      rfl
    have Hno := Lib.hid hno
    have Hlo := Lib.hid hlo
    have HCa := Lib.hid hcase
    have Hgap := Lib.hid hgap
    have Hgl := Lib.hid (gapsV_length false rs)
    have Hgr := Lib.hid (gapsV_length true rs)
    have Hml := Lib.hid (markgV_length rs d)
    clear hbad hno hlo hcase hgap
    generalize hX : witX (swV rs d) = x at *
    generalize witB (swV rs d) = b at *
    obtain ⟨x0, y0, x1, y1⟩ := x
    clear hX
    dsimp only
    go_upto_region 5 with fail
    have hB3 := Bk.new w2 32 #[.int .i64 x0, .int .i64 y0, .int .i64 x1, .int .i64 y1]
    have hR3 := RL.alloc hR (.cells #[.int .i64 x0, .int .i64 y0, .int .i64 x1, .int .i64 y1] 32)
    have hb3 := hb2.alloc hb2.size (.cells #[.int .i64 x0, .int .i64 y0, .int .i64 x1, .int .i64 y1] 32)
    clear hR hb2
    revert hB3 hR3 hb3
    generalize w2.heap.size = g
    generalize w2.alloc (.cells #[.int .i64 x0, .int .i64 y0, .int .i64 x1, .int .i64 y1] 32) = w3
    intro hB3 hR3 hb3
    go_wp2_with fail
    refine (isReg_spec _ rs _ hR3).mono ?_
    rintro e w4 ⟨rfl, hb4⟩
    have hB4 := hB3.on hb4
    have hR4 := hR3.on hb4
    replace hb4 := hb3.trans (hb4.mono hb3.size)
    clear hB3 hR3 hb3
    by_cases hreg : isReg rs = true
    · rw [hreg]
      by_cases h1 : d < 1
      · have hbf := Hlo.out hreg (by omega)
        subst hbf
        clear hreg
        go_wp2
        go_ret
        exact ⟨rfl, hb4⟩
      · by_cases h8 : d > 8
        · have hbf := Hlo.out hreg (by omega)
          subst hbf
          clear hreg
          go_wp2
          go_ret
          exact ⟨rfl, hb4⟩
        · have HC := Lib.hid (HCa.out hreg (by omega) (by omega))
          have HG := Lib.hid (Hgap.out hreg)
          have Hb := Lib.hid (minA_bounds (allGaps_ok (cellsG rs)))
          clear hreg Hno Hlo HCa Hgap
          generalize hms : minsV rs = ms at *
          generalize hmg : markgV rs d = m at *
          have Hms := Lib.hid hms
          have Hmg := Lib.hid hmg
          clear hms hmg
          go_wp2_with fail
          refine (markg_impl _ rs d _ hR4).mono ?_
          rintro e w5 ⟨u, rfl, hM, hb5⟩
          rw [Hmg.out] at hM
          obtain ⟨A2, c2, rfl, hc2, hm2, -⟩ := hM.form
          have hB5 := hB4.on hb5
          have hR5 := hR4.on hb5
          replace hM := hM.less (Nat.zero_le _)
          replace hb5 := hb4.trans (hb5.mono hb4.size)
          clear hB4 hR4 hb4
          go_wp2_with fail
          refine (mins_impl _ rs _ hR5).mono ?_
          rintro e w6 ⟨rfl, hb6⟩
          rw [Hms.out]
          have hB6 := hB5.on hb6
          have hR6 := hR5.on hb6
          have hM6 := hM.on hb6
          replace hb6 := hb5.trans (hb6.mono hb5.size)
          clear hB5 hR5 hM hb5
          go_upto_region 9 with fail
          go_cut [3, 4, 5, 6, 7, 8, 63] from 40 to 63 (fun s3 s4 s5 s6 s7 s8 s63 wx => s3 = .slice A1 rs.length c1 ∧ s4 = .int .i64 d ∧ s5 = .pointer (some ⟨g, 0, none⟩) ∧ s6 = .bool b ∧ s7 = .slice A2 m.length c2 ∧ s8 = .int .i64 ms ∧ s63 = .bool false ∧ Below w6.heap.size w6 wx)
          case first =>
            rcases HC.out with ⟨rfl, k1, k2, k3, -⟩ | ⟨rfl, k1, k2 | ⟨k2, k3⟩⟩
            · have q1 : ¬ ((m.length : Int) = 0) := by omega
              have q1b : ((m.length : Int) == 0) = false := by simpa using q1
              have q1c : (m.length : Int) > 0 := by omega
              have q2b : (ms == 0) = false := by simpa using k2
              have q3 : ¬ ms ≥ d := by omega
              clear k1
              go_wp2_with (go_at_call 54; refine (mins_spec _ rs _ hR6).mono ?_; rintro e w7 ⟨rfl, hb7⟩; rw [Hms.out])
              go_meet
              exact ⟨rfl, rfl, rfl, rfl, rfl, rfl, (by first | rfl | (simp; omega)), hb7⟩
            · have q1b : ((m.length : Int) == 0) = true := by rw [k1]; rfl
              have q1c : ¬ (m.length : Int) > 0 := by omega
              subst k2
              clear k1
              go_wp2_with (go_at_call 54; refine (mins_spec _ rs _ hR6).mono ?_; rintro e w7 ⟨rfl, hb7⟩; rw [Hms.out])
              go_meet
              exact ⟨rfl, rfl, rfl, rfl, rfl, rfl, (by first | rfl | exact congrArg Value.bool (decide_eq_false (by omega)) | simp), hb7⟩
            · have q1b : ((m.length : Int) == 0) = true := by rw [k1]; rfl
              have q1c : ¬ (m.length : Int) > 0 := by omega
              have q2b : (ms == 0) = false := by simpa using k2
              have q3 : ms ≥ d := by omega
              clear k1
              go_wp2_with (go_at_call 54; refine (mins_spec _ rs _ hR6).mono ?_; rintro e w7 ⟨rfl, hb7⟩; rw [Hms.out])
              go_meet
              exact ⟨rfl, rfl, rfl, rfl, rfl, rfl, (by first | rfl | exact congrArg Value.bool (decide_eq_false (by omega)) | simp), hb7⟩
          case rest =>
            obtain ⟨rfl, rfl, rfl, rfl, rfl, rfl, rfl, hb7⟩ := hcut
            have hB7 := hB6.on hb7
            have hR7 := hR6.on hb7
            have hM7 := hM6.on hb7
            replace hb7 := hb6.trans (hb7.mono hb6.size)
            have hgw := hB7.lt
            clear hB6 hR6 hM6 hb6
            go_upto_region 11 with fail
            go_cut [3, 8, 78] from 64 to 78 (fun s3 s8 s78 wx => s3 = .slice A1 rs.length c1 ∧ s8 = .int .i64 ms ∧ s78 = .bool false ∧ RL wx 0 (.slice A1 rs.length c1) rs ∧ Below w.heap.size w wx)
            case first =>
              rcases HC.out with ⟨rfl, k1, k2, k3, k4, k5, k6⟩ | ⟨rfl, -, -⟩
              · have hB1 := Below.refl wc.drew.heap.size wc.drew
                obtain ⟨f0, f1, f2, f3⟩ := box4 hB7
                have hcov := fun (w0 : World) (h : RL w0 0 (.slice A2 m.length c2) m) => cov_impl _ m ⟨x0, y0, x1, y1⟩ w0 h
                have hlong := fun (w0 : World) => long_any ⟨x0, y0, x1, y1⟩ k5 w0
                rw [k6] at hcov
                generalize areaR ⟨x0, y0, x1, y1⟩ = q at *
                have t1 := fun (wz : World) (h1 : Below wc.drew.heap.size wc.drew wz) => And.intro ((h1.cell (p := ⟨g, 0, none⟩) hgw).trans f0) (And.intro ((h1.cell (p := ⟨g, 1, none⟩) hgw).trans f1) (And.intro ((h1.cell (p := ⟨g, 2, none⟩) hgw).trans f2) ((h1.cell (p := ⟨g, 3, none⟩) hgw).trans f3)))
                have kq : decide (d ≤ q) = false := decide_eq_false (by omega)
                clear k1 k2 k3 k5 k6 hB7
                go_region_held3 (fun w' => w'.cell? ⟨g, 0, none⟩ = some (.int .i64 x0) ∧ w'.cell? ⟨g, 1, none⟩ = some (.int .i64 y0) ∧ w'.cell? ⟨g, 2, none⟩ = some (.int .i64 x1) ∧ w'.cell? ⟨g, 3, none⟩ = some (.int .i64 y1)) (first | exact t1 _ hB1)
                  (first
                    | (go_at_call 20; refine (hcov _ (hM7.drew.on hB1)).mono ?_; rintro e w8 ⟨rfl, hBn⟩; replace hB1 := hB1.trans (hBn.mono hB1.size))
                    | (go_at_call 21; refine (hlong _).mono ?_; rintro e w8 ⟨rfl, hBn⟩; replace hB1 := hB1.trans (hBn.mono hB1.size)))
                all_goals
                  go_wp2_with fail
                  go_meet
                  exact ⟨rfl, rfl, (by first | rfl | simp), hR7.drew.on hB1, hb7.drew.trans (hB1.mono hb7.size)⟩
              · go_region
                all_goals
                  go_wp2_with fail
                  go_meet
                  exact ⟨rfl, rfl, rfl, hR7.drew, hb7.drew⟩
            case rest =>
              obtain ⟨rfl, rfl, rfl, hR8, hb8⟩ := hcut
              clear hR7 hM7 hb7 hB7
              have hGl := Hgl.out
              have hGr := Hgr.out
              go_wp2_with fail
              refine (hgaps_impl _ rs _ hR8).mono ?_
              rintro e w9 ⟨u9, rfl, hH, hb9⟩
              obtain ⟨A9, c9, rfl, hc9, hm9, -⟩ := hH.form
              have hR9 := hR8.on hb9
              replace hb9 := hb8.trans (hb9.mono hb8.size)
              clear hR8 hb8
              go_wp2_with fail
              refine (vgaps_impl _ rs _ hR9).mono ?_
              rintro e w10 ⟨u10, rfl, hV, hb10⟩
              obtain ⟨A10, c10, rfl, hc10, hm10, -⟩ := hV.form
              replace hb10 := hb9.trans (hb10.mono hb9.size)
              generalize (gapsV false rs).length = n1 at *
              generalize (gapsV true rs).length = n2 at *
              have ew := Go.IntWalk.i64_in ((n1 : Int) + n2) (by omega)
              have hif := HG.out
              clear hR9 hb9 hH hV HC HG Hml
              by_cases hz : ms = 0
              · have h0 : (n1 : Int) + n2 = 0 := by have := hif.1 hz; omega
                rw [h0] at ew
                subst hz
                clear hif
                go_wp2
                go_ret
                exact ⟨by first | rfl | simp [h0], hb10⟩
              · have hzb : (ms == 0) = false := by simpa using hz
                have h0 : ¬ ((n1 : Int) + n2 = 0) := by intro h; exact hz (hif.2 (by omega))
                have h0b : ((n1 : Int) + n2 == 0) = false := by simpa using h0
                clear hif
                go_wp2
                go_ret
                exact ⟨by first | rfl | simp [h0b], hb10⟩
    · have hreg' : isReg rs = false := by simpa using hreg
      have hbf := Hno.out hreg'
      subst hbf
      rw [hreg']
      clear hreg hreg' Hno Hlo HCa Hgap
      go_wp2
      go_ret
      exact ⟨rfl, hb4⟩

end Go.Proofs.Ytooglkdloaaomaa
