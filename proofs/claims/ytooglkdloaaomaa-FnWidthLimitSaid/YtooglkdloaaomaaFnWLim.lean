/- The walk of the law FnWidthLimit, over drawn inputs: it answers true. No conditions. -/
import Derived.Test.YtooglkdloaaomaaLimA
import Derived.Deep.CutRange
import Derived.Deep.RegionHeld
import Derived.BigQuiet
import Derived.Test.YtooglkdloaaomaaWidthA
namespace Go.Proofs.Ytooglkdloaaomaa
open Go.RowKit

/-- What the law asks of the markers. -/
theorem wlim_facts {rs : List Rc} {d : Int} (h : isReg rs = true) (h1 : 1 ≤ d) (h2 : d ≤ 8) :
    markV rs d = canon (shortG (allG (cellsG rs)) d) ∧ minV rs = minA (allG (cellsG rs)) ∧ wwV rs d = firstA (allG (cellsG rs)) d ∧ wideV rs d = (((canon (shortG (allG (cellsG rs)) d)).length : Int) == 0) ∧
    okAll (canon (shortG (allG (cellsG rs)) d)) = true ∧ w9V (canon (shortG (allG (cellsG rs)) d)) rs = true ∧ (d < 8 → w9V (canon (shortG (allG (cellsG rs)) d)) (markV rs (d + 1)) = true) := by
  have hB : ∀ e : Int, 1 ≤ e → e ≤ 8 → chkV rs e = true := fun e h1 h2 => by rw [chkV_of h]; exact decide_eq_true ⟨h1, h2⟩
  have hc := hB d h1 h2
  have hm := markV_yes hc
  refine ⟨hm, minV_yes h, wwV_yes hc, by rw [wideV_yes hc, hm], canon_ok _, ?_, fun h8 => ?_⟩
  · refine w9V_sub (canon_ok _) h fun i hi hG => ?_
    rw [cells_canon _ i hi] at hG
    obtain ⟨r, hr, _, hin⟩ := short_mem.1 hG
    exact all_in hr hi hin
  · rw [markV_yes (hB (d + 1) (by omega) (by omega))]
    refine w9V_sub (canon_ok _) (isReg_canon _) fun i hi hG => ?_
    rw [cells_canon _ i hi] at hG ⊢
    exact short_more (by omega) hG

set_option maxHeartbeats 3200000 in
set_option maxRecDepth 100000 in
/-- FnWidthLimit answers true. -/
theorem lawFnWLim (A : Option Addr) (n c : Nat) (w : World) (hA : ArgB w A n) (hm : n ≤ maxLen) : Calls Try.prog 7 #[.slice A n c] w fun e w' => e = .returned (.bool true) ∧ Below w.heap.size w w' := by
  go_enter Try.func7, Try.ntmps7
  go_wp2_with fail
  refine (big_any A n c w hm).mono ?_
  rintro e w0 ⟨rfl, rfl⟩
  by_cases h4 : 4096 < n
  · rw [decide_eq_true h4]
    go_wp2
    go_ret
    exact ⟨rfl, Below.refl _ _⟩
  · rw [decide_eq_false h4]
    go_wp2_with fail
    refine (drawWidth_any A n c _ hA (by omega)).mono ?_
    rintro e w1 ⟨v, rs, d, rfl, hR, hl, hd, hb1⟩
    clear hA h4
    replace hR := hR.less (Nat.zero_le _)
    go_wp2_with fail
    refine (isReg_spec v rs _ hR).mono ?_
    rintro e w2 ⟨rfl, hb2⟩
    replace hR := hR.on hb2
    replace hb2 := hb1.trans (hb2.mono hb1.size)
    clear hb1
    by_cases hreg : isReg rs = true
    · rw [hreg]
      by_cases h1 : d < 1
      · have hc : chkV rs d = false := by rw [chkV_of hreg]; exact decide_eq_false (by omega)
        have Hc := Lib.hid (wideV_no hc)
        clear hreg hc
        go_wp2_with (go_at_call 38; refine (wide_impl v rs d _ hR).mono ?_; rintro e w3 ⟨rfl, hb3⟩; rw [Hc.out])
        go_ret
        exact ⟨rfl, hb2.trans (hb3.mono hb2.size)⟩
      · by_cases h8 : d > 8
        · have hc : chkV rs d = false := by rw [chkV_of hreg]; exact decide_eq_false (by omega)
          have Hc := Lib.hid (wideV_no hc)
          clear hreg hc
          go_wp2_with (go_at_call 38; refine (wide_impl v rs d _ hR).mono ?_; rintro e w3 ⟨rfl, hb3⟩; rw [Hc.out])
          go_ret
          exact ⟨rfl, hb2.trans (hb3.mono hb2.size)⟩
        · obtain ⟨e1, e2, e3, e4, e5, e6, e7⟩ := wlim_facts hreg (show 1 ≤ d by omega) (show d ≤ 8 by omega)
          have HRok := Lib.hid (allG_ok (cellsG rs))
          have Hlim := Lib.hid (lim_iff (R := allG (cellsG rs)) (d := d) HRok.out)
          have Hnil := Lib.hid (all_nil hreg)
          have Hsn := Lib.hid (short_none (R := allG (cellsG rs)) (d := d) HRok.out)
          have Hfn := Lib.hid (first_none (R := allG (cellsG rs)) (d := d))
          have Hml := canon_length (shortG (allG (cellsG rs)) d)
          have hcv := fun (r : Rc) (hr : firstA (allG (cellsG rs)) d = some r) => short_cover (d := d) HRok.out (first_is hr).1 (first_is hr).2
          have hfo := fun (r : Rc) (hr : firstA (allG (cellsG rs)) d = some r) => And.intro (first_is hr).2 (okAll_in HRok.out (first_is hr).1)
          obtain ⟨A1, c1, rfl, hc1, hm1, -⟩ := hR.form
          go_wp2_with fail
          refine (markw_impl _ rs d _ hR).mono ?_
          rintro e w3 ⟨u, rfl, hM, hb3⟩
          rw [e1] at hM
          have hR3 := hR.on hb3
          replace hM := hM.less (Nat.zero_le _)
          replace hb3 := hb2.trans (hb3.mono hb2.size)
          clear hR hb2
          generalize hgm : canon (shortG (allG (cellsG rs)) d) = m at *
          generalize allG (cellsG rs) = R at *
          obtain ⟨A2, c2, rfl, hc2, hm2, -⟩ := hM.form
          go_wp2_with fail
          refine (minw_impl _ rs _ hR3).mono ?_
          rintro e w4 ⟨rfl, hb4⟩
          rw [e2]
          have hR4 := hR3.on hb4
          have hM4 := hM.on hb4
          replace hb4 := hb3.trans (hb4.mono hb3.size)
          clear hR3 hM hb3
          go_wp2_with fail
          refine (ww_impl _ rs d _ hR4).mono ?_
          rintro e w5 ⟨rfl, hb5⟩
          rw [e3]
          have hR5 := hR4.on hb5
          have hM5 := hM4.on hb5
          replace hb5 := hb4.trans (hb5.mono hb4.size)
          clear hR4 hM4 hb4
          have E4 := Lib.hid e4
          have E5 := Lib.hid e5
          have E6 := Lib.hid e6
          have E7 := Lib.hid e7
          clear e1 e2 e3 e4 e5 e6 e7 hreg hgm
          have hcase : (witB (firstA R d) = true ∧ 0 < m.length ∧ rs.length ≠ 0 ∧ minA R < d ∧ areaR (witX (firstA R d)) < d ∧ okRc (witX (firstA R d)) = true ∧ covV m (witX (firstA R d)) = areaR (witX (firstA R d))) ∨ (witB (firstA R d) = false ∧ m.length = 0 ∧ (rs.length = 0 ∨ (rs.length ≠ 0 ∧ d ≤ minA R))) := by
            cases hf : firstA R d with
            | none =>
              have hm0 : m = [] := Hsn.out.2 (Hfn.out.1 hf)
              refine .inr ⟨rfl, by rw [hm0]; rfl, ?_⟩
              by_cases hr0 : rs.length = 0
              · exact .inl hr0
              · refine .inr ⟨hr0, (Hlim.out.1 hm0).resolve_left fun e => hr0 ?_⟩
                rw [Hnil.out.1 e]; rfl
            | some r =>
              have hmne : m ≠ [] := fun h => by have := Hfn.out.2 (Hsn.out.1 h); rw [hf] at this; cases this
              have hno : ¬ (R = [] ∨ d ≤ minA R) := fun h => hmne (Hlim.out.2 h)
              refine .inl ⟨rfl, List.length_pos_iff.2 hmne, fun h => hno (.inl ?_), by omega, (hfo r hf).1, (hfo r hf).2, hcv r hf⟩
              exact Hnil.out.2 (List.length_eq_zero_iff.1 h)
          have HC := Lib.hid hcase
          generalize witX (firstA R d) = x at *
          generalize witB (firstA R d) = b at *
          obtain ⟨x0, y0, x1, y1⟩ := x
          dsimp only
          clear hcase hcv hfo Hlim Hnil Hsn Hfn HRok
          go_upto_region 9 with fail
          have hB6 := Bk.new w5 32 #[.int .i64 x0, .int .i64 y0, .int .i64 x1, .int .i64 y1]
          have hR6 := RL.alloc hR5 (.cells #[.int .i64 x0, .int .i64 y0, .int .i64 x1, .int .i64 y1] 32)
          have hM6 := RL.alloc hM5 (.cells #[.int .i64 x0, .int .i64 y0, .int .i64 x1, .int .i64 y1] 32)
          have hb6 := hb5.alloc hb5.size (.cells #[.int .i64 x0, .int .i64 y0, .int .i64 x1, .int .i64 y1] 32)
          clear hR5 hM5 hb5
          revert hB6 hR6 hM6 hb6
          generalize w5.heap.size = g
          generalize w5.alloc (.cells #[.int .i64 x0, .int .i64 y0, .int .i64 x1, .int .i64 y1] 32) = w6
          intro hB6 hR6 hM6 hb6
          go_cut [3, 4, 5, 7, 8, 69] from 42 to 69 (fun s3 s4 s5 s7 s8 s69 wx => s3 = .slice A1 rs.length c1 ∧ s4 = .int .i64 d ∧ s5 = .slice A2 m.length c2 ∧ s7 = .pointer (some ⟨g, 0, none⟩) ∧ s8 = .bool b ∧ s69 = .bool false ∧ Below w6.heap.size w6 wx)
          case first =>
            rcases HC.out with ⟨rfl, k1, k2, k3, -⟩ | ⟨rfl, k1, k2 | ⟨k2, k3⟩⟩
            · have q1 : ¬ ((m.length : Int) = 0) := by omega
              have q1b : ((m.length : Int) == 0) = false := by simpa using q1
              have q1c : (m.length : Int) > 0 := by omega
              have q2 : ¬ ((rs.length : Int) = 0) := by omega
              have q2b : ((rs.length : Int) == 0) = false := by simpa using q2
              have q3 : ¬ minA R ≥ d := by omega
              have hw : wideV rs d = false := by rw [E4.out]; exact q1b
              go_wp2_with (go_at_call 38; refine (wide_impl _ rs d _ hR6).mono ?_; rintro e w7 ⟨rfl, hb7⟩; rw [hw])
              go_meet
              exact ⟨rfl, rfl, rfl, rfl, rfl, (by first | rfl | exact congrArg Value.bool (decide_eq_false (by omega))), hb7⟩
            · have q1b : ((m.length : Int) == 0) = true := by rw [k1]; rfl
              have q1c : ¬ (m.length : Int) > 0 := by omega
              have q2b : ((rs.length : Int) == 0) = true := by rw [k2]; rfl
              have hw : wideV rs d = true := by rw [E4.out]; exact q1b
              clear k1 k2
              go_wp2_with (go_at_call 38; refine (wide_impl _ rs d _ hR6).mono ?_; rintro e w7 ⟨rfl, hb7⟩; rw [hw])
              go_meet
              exact ⟨rfl, rfl, rfl, rfl, rfl, (by first | rfl | exact congrArg Value.bool (decide_eq_false (by omega))), hb7⟩
            · have q1b : ((m.length : Int) == 0) = true := by rw [k1]; rfl
              have q1c : ¬ (m.length : Int) > 0 := by omega
              have q2 : ¬ ((rs.length : Int) = 0) := by omega
              have q2b : ((rs.length : Int) == 0) = false := by simpa using q2
              have q3 : minA R ≥ d := by omega
              have hw : wideV rs d = true := by rw [E4.out]; exact q1b
              clear k1
              go_wp2_with (go_at_call 38; refine (wide_impl _ rs d _ hR6).mono ?_; rintro e w7 ⟨rfl, hb7⟩; rw [hw])
              go_meet
              exact ⟨rfl, rfl, rfl, rfl, rfl, (by first | rfl | exact congrArg Value.bool (decide_eq_false (by omega))), hb7⟩
          case rest =>
            obtain ⟨rfl, rfl, rfl, rfl, rfl, rfl, hb7⟩ := hcut
            have hB7 := hB6.on hb7
            have hR7 := hR6.on hb7
            have hM7 := hM6.on hb7
            replace hb7 := hb6.trans (hb7.mono hb6.size)
            have hgw := hB7.lt
            clear hB6 hR6 hM6 hb6
            go_upto_region 11 with fail
            go_cut [3, 4, 5, 84] from 70 to 84 (fun s3 s4 s5 s84 wx => s3 = .slice A1 rs.length c1 ∧ s4 = .int .i64 d ∧ s5 = .slice A2 m.length c2 ∧ s84 = .bool false ∧ RL wx 0 (.slice A1 rs.length c1) rs ∧ RL wx 0 (.slice A2 m.length c2) m ∧ Below w.heap.size w wx)
            case first =>
              rcases HC.out with ⟨rfl, k1, k2, k3, k4, k5, k6⟩ | ⟨rfl, -, -⟩
              · have hB1 := Below.refl wc.drew.heap.size wc.drew
                obtain ⟨f0, f1, f2, f3⟩ := box4 hB7
                have hcov := fun (w0 : World) (h : RL w0 0 (.slice A2 m.length c2) m) => cov_impl _ m ⟨x0, y0, x1, y1⟩ w0 h
                have hlong := fun (w0 : World) => long_any ⟨x0, y0, x1, y1⟩ k5 w0
                rw [k6] at hcov
                generalize areaR ⟨x0, y0, x1, y1⟩ = q at *
                have t1 := fun (wz : World) (h1 : Below wc.drew.heap.size wc.drew wz) => And.intro ((h1.cell (p := ⟨g, 0, none⟩) hgw).trans f0) (And.intro ((h1.cell (p := ⟨g, 1, none⟩) hgw).trans f1) (And.intro ((h1.cell (p := ⟨g, 2, none⟩) hgw).trans f2) ((h1.cell (p := ⟨g, 3, none⟩) hgw).trans f3)))
                have kq : decide (d ≤ q) = false := decide_eq_false (by omega)
                clear k1 k2 k3 k5 k6 hB7
                go_region_held3 (fun w' => w'.cell? ⟨g, 0, none⟩ = some (.int .i64 x0) ∧ w'.cell? ⟨g, 1, none⟩ = some (.int .i64 y0) ∧ w'.cell? ⟨g, 2, none⟩ = some (.int .i64 x1) ∧ w'.cell? ⟨g, 3, none⟩ = some (.int .i64 y1)) (first | exact t1 _ hB1)
                  (first
                    | (go_at_call 20; refine (hcov _ (hM7.drew.on hB1)).mono ?_; rintro e w8 ⟨rfl, hBn⟩; replace hB1 := hB1.trans (hBn.mono hB1.size))
                    | (go_at_call 21; refine (hlong _).mono ?_; rintro e w8 ⟨rfl, hBn⟩; replace hB1 := hB1.trans (hBn.mono hB1.size)))
                all_goals
                  go_wp2_with fail
                  go_meet
                  exact ⟨rfl, rfl, rfl, (by first | rfl | simp), hR7.drew.on hB1, hM7.drew.on hB1, hb7.drew.trans (hB1.mono hb7.size)⟩
              · go_region
                all_goals skip
                go_wp2_with fail
                go_meet
                exact ⟨rfl, rfl, rfl, rfl, hR7.drew, hM7.drew, hb7.drew⟩
            case rest =>
              obtain ⟨rfl, rfl, rfl, rfl, hR8, hM8, hb8⟩ := hcut
              clear hR7 hM7 hb7
              go_wp2_with fail
              refine (w9cov_any _ _ m rs _ hM8 hR8 E5.out).mono ?_
              rintro e w9 ⟨rfl, hb9⟩
              rw [E6.out]
              have hR9 := hR8.on hb9
              have hM9 := hM8.on hb9
              replace hb9 := hb8.trans (hb9.mono hb8.size)
              clear hR8 hM8 hb8
              by_cases h88 : d = 8
              · subst h88
                go_wp2
                go_ret
                exact ⟨rfl, hb9⟩
              · have hd8 : (d == 8) = false := by simpa using h88
                have hE := E7.out (show d < 8 by omega)
                have HE := Lib.hid hE
                have ew := Go.IntWalk.i64_in (d + 1) (by omega)
                clear hE
                go_wp2_with fail
                refine (markw_impl _ rs (d + 1) _ hR9).mono ?_
                rintro e w10 ⟨u, rfl, hN, hb10⟩
                have hM10 := hM9.on hb10
                have hN10 := hN.less (Nat.zero_le _)
                replace hb10 := hb9.trans (hb10.mono hb9.size)
                clear hR9 hM9 hb9 hN
                go_wp2_with fail
                refine (w9cov_any _ _ m _ _ hM10 hN10 E5.out).mono ?_
                rintro e w11 ⟨rfl, hb11⟩
                rw [HE.out]
                go_wp2
                go_ret
                exact ⟨rfl, hb10.trans (hb11.mono hb10.size)⟩
    · have hreg' : isReg rs = false := by simpa using hreg
      have Hc := Lib.hid (wideV_no (x := d) (chkV_no hreg'))
      rw [hreg']
      clear hreg hreg'
      go_wp2_with (go_at_call 38; refine (wide_impl v rs d _ hR).mono ?_; rintro e w3 ⟨rfl, hb3⟩; rw [Hc.out])
      go_ret
      exact ⟨rfl, hb2.trans (hb3.mono hb2.size)⟩

end Go.Proofs.Ytooglkdloaaomaa
