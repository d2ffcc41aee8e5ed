/- The walk of the law FnDensity, over drawn inputs: it answers true. No conditions. -/
import Derived.Test.YtooglkdloaaomaaDrawE
import Derived.Test.YtooglkdloaaomaaWinsMath
import Derived.Test.YtooglkdloaaomaaCov3
namespace Go.Proofs.Ytooglkdloaaomaa
open Go.RowKit

theorem okAll_mem {rs : List Rc} (h : okAll rs = true) {r : Rc} (hr : r ∈ rs) : okRc r = true := by
  rw [okAll, List.all_eq_true] at h
  exact h r hr
theorem cover_empty (b : Rc) : coverG emptyG b = 0 := by
  unfold coverG boxC rowC oneG emptyG
  simp only [Bool.false_eq_true, if_false]
  rw [sumI_congr _ fun y _ _ => sumI_zero _ _]
  exact sumI_zero _ _
theorem isReg_empty : isReg [] = true := by
  have h := isReg_canon emptyG
  rwa [(canon_nil_iff emptyG).2 fun _ _ => rfl] at h
/-- What the markers of a density rule cover of a window. -/
theorem densV_cover {rs : List Rc} {s p : Int} {r : Rc} (h : isReg rs = true) (hs : 4 ≤ s ∧ s ≤ 40) (hr : r ∈ wins s) :
    covV (densV rs s p) r = if 1 ≤ p ∧ p ≤ 100 ∧ 100 * coverG (cellsG rs) r < p * areaR r then areaR r - coverG (cellsG rs) r else 0 := by
  have hok : okRc r = true := by
    have := wins_ok s
    rw [okAll, List.all_eq_true] at this
    exact this r hr
  have hsB : inB 4 s 40 = true := decide_eq_true hs
  by_cases hp : 1 ≤ p ∧ p ≤ 100
  · have hpB : inB 1 p 100 = true := decide_eq_true hp
    rw [densV_yes h hsB hpB, covV_yes (isReg_canon _) hok, due_cover hr]
    by_cases hd : coverG (cellsG rs) r * 100 < p * areaR r
    · rw [if_pos hd, if_pos ⟨hp.1, hp.2, by omega⟩]
    · rw [if_neg hd, if_neg (fun hc => hd (by omega))]
  · have hpB : inB 1 p 100 = false := decide_eq_false hp
    rw [densV_no3 hpB, covV_yes isReg_empty hok, if_neg (fun hc => hp ⟨hc.1, hc.2.1⟩)]
    exact cover_empty r

set_option maxHeartbeats 3200000 in
set_option maxRecDepth 100000 in
/-- FnDensity answers true. -/
theorem lawFnDens (A : Option Addr) (n c : Nat) (w : World) (hA : ArgB w A n) (hm : n ≤ maxLen) : Calls Try.prog 3 #[.slice A n c] w fun e w' => e = .returned (.bool true) ∧ Below w.heap.size w w' := by
  go_enter Try.func3, Try.ntmps3
  go_wp2_with fail
  refine (big_any A n c w hm).mono ?_
  rintro e w0 ⟨rfl, rfl⟩
  by_cases h4 : 4096 < n
  · rw [decide_eq_true h4]
    go_wp2
    go_ret
    exact ⟨rfl, Below.refl _ _⟩
  · rw [decide_eq_false h4]
    go_wp2_with fail
    refine (drawDens_any A n c _ hA (by omega)).mono ?_
    rintro e w1 ⟨v, rs, s, p, rfl, hR, hl, hsb, hpb, hb1⟩
    clear hA h4
    go_wp2_with fail
    refine (markd_impl v rs s p _ (hR.less (Nat.zero_le _))).mono ?_
    rintro e w2 ⟨u, rfl, hM, hb2⟩
    replace hR := hR.on hb2
    replace hb2 := hb1.trans (hb2.mono hb1.size)
    go_wp2_with fail
    refine (dens_impl_any s _).mono ?_
    rintro e w3 ⟨x, rfl, hW, hb3⟩
    replace hR := hR.on hb3
    replace hM := hM.on hb3
    replace hb3 := hb2.trans (hb3.mono hb2.size)
    go_wp2_with fail
    refine (isReg_spec v rs _ (hR.less (Nat.zero_le _))).mono ?_
    rintro e w4 ⟨rfl, hb4⟩
    replace hR := hR.on hb4
    replace hM := hM.on hb4
    replace hW := hW.on hb4
    replace hb4 := hb3.trans (hb4.mono hb3.size)
    clear hb1 hb2 hb3
    by_cases hreg : isReg rs = true
    · rw [hreg]
      by_cases hs4 : s < 4
      · have hsB : inB 4 s 40 = false := decide_eq_false (by omega)
        rw [densV_no2 hsB] at hM
        obtain ⟨AM, cM, rfl, -, -, -⟩ := hM.form
        clear hreg
        go_wp2
        go_ret
        exact ⟨rfl, hb4⟩
      · by_cases hs40 : s > 40
        · have hsB : inB 4 s 40 = false := decide_eq_false (by omega)
          rw [densV_no2 hsB] at hM
          obtain ⟨AM, cM, rfl, -, -, -⟩ := hM.form
          clear hreg
          go_wp2
          go_ret
          exact ⟨rfl, hb4⟩
        · have Hreg := Lib.hid hreg
          have hss : 4 ≤ s ∧ s ≤ 40 := by omega
          have Hss := Lib.hid hss
          have Hsa := Lib.hid (sum_area hss)
          have Hsc := Lib.hid (sum_cover (cellsG rs) hss)
          have hwl := wins_length s
          have Hwok := Lib.hid (wins_ok s)
          obtain ⟨AW, cW, rfl, hcW, hmW, -⟩ := hW.form
          have hmW' : (wins s).length ≤ 9223372036854775807 := by omega
          clear hreg hss
          go_wp2
          go_loopw [8, 9, 10] (fun av cv iv wr => ∃ k : Nat, k ≤ (wins s).length ∧ iv = .int .i64 k ∧ av = .int .i64 (sumF areaR ((wins s).take k)) ∧ cv = .int .i64 (sumF (coverG (cellsG rs)) ((wins s).take k)) ∧ RL wr 0 v rs ∧ RL wr 0 u (densV rs s p) ∧ RL wr 0 (.slice AW (wins s).length cW) (wins s) ∧ Below w.heap.size w wr) (fun _ _ iv _ => (wins s).length - (intOf iv).toNat)
          case atStart => exact ⟨0, Nat.zero_le _, rfl, rfl, rfl, hR.less (Nat.zero_le _), hM.less (Nat.zero_le _), hW.less (Nat.zero_le _), hb4⟩
          case round =>
            obtain ⟨k, hk, rfl, rfl, rfl, hR1, hM1, hW1, hb⟩ := hrel
            clear hR hM hW hb4
            by_cases hlt : k < (wins s).length
            · obtain ⟨g, x0, y0, x1, y1, rfl, hr, hg, f0, f1, f2, f3⟩ := hW1.elem hlt
              have hok := okAll_at Hwok.out hr
              have Har := Lib.hid (sumF_step areaR hr)
              have Hcr := Lib.hid (sumF_step (coverG (cellsG rs)) hr)
              have Hdc := Lib.hid (densV_cover (p := p) Hreg.out Hss.out (List.mem_of_getElem? hr))
              have Hcv := Lib.hid (covV_yes Hreg.out hok)
              have har := areaR_bounds hok
              have hcb := cover_bounds rs hok
              have hsum1 := sumF_le (f := areaR) (m := 10000) (by omega) (rs := (wins s).take k) (fun r hr => by have := areaR_bounds (okAll_mem (okAll_take Hwok.out k) hr); omega)
              have hsum2 := sumF_le (f := coverG (cellsG rs)) (m := 10000) (by omega) (rs := (wins s).take k) (fun r hr => cover_bounds rs (okAll_mem (okAll_take Hwok.out k) hr))
              rw [List.length_take] at hsum1 hsum2
              have hs1 : 0 ≤ sumF areaR ((wins s).take k) ∧ sumF areaR ((wins s).take k) ≤ 64000000 := by omega
              have hs2 : 0 ≤ sumF (coverG (cellsG rs)) ((wins s).take k) ∧ sumF (coverG (cellsG rs)) ((wins s).take k) ≤ 64000000 := by omega
              have Hok := Lib.hid hok
              have Hr := Lib.hid hr
              generalize hC : coverG (cellsG rs) ⟨x0, y0, x1, y1⟩ = C at Hcr Hdc Hcv hcb
              generalize ha : areaR ⟨x0, y0, x1, y1⟩ = a at Har Hdc har
              have Ha := Lib.hid ha
              have hpa : 0 ≤ p * a ∧ p * a ≤ 646400 := by
                constructor
                · exact Int.mul_nonneg hpb.1 (by omega)
                · have := Int.mul_le_mul hpb.2 har.2 (by omega) (by omega)
                  omega
              have e1 := Go.IntWalk.i64_in (sumF areaR ((wins s).take k) + a) (by omega)
              have e2 := Go.IntWalk.i64_in (sumF (coverG (cellsG rs)) ((wins s).take k) + C) (by omega)
              have e3 := Go.IntWalk.i64_in (100 * C) (by omega)
              have e4 := Go.IntWalk.i64_in (p * a) (by omega)
              have e5 := Go.IntWalk.i64_in (a - C) (by omega)
              clear hsum1 hsum2 hr hC ha hs1 hs2 hwl
              go_wp2_with fail
              refine (cov_impl v rs ⟨x0, y0, x1, y1⟩ _ hR1).mono ?_
              rintro e w5 ⟨rfl, hb5⟩
              rw [Hcv.out]
              replace hR1 := hR1.on hb5
              replace hM1 := hM1.on hb5
              replace hW1 := hW1.on hb5
              replace hb := hb.trans (hb5.mono hb.size)
              clear hb5 f0 f1 f2 f3
              obtain ⟨f0, f1, f2, f3⟩ := hW1.four Hr.out
              go_wp2_with fail
              refine (long_any ⟨x0, y0, x1, y1⟩ Hok.out _).mono ?_
              rintro e w6 ⟨rfl, hb5⟩
              rw [Ha.out]
              replace hR1 := hR1.on hb5
              replace hM1 := hM1.on hb5
              replace hW1 := hW1.on hb5
              replace hb := hb.trans (hb5.mono hb.size)
              clear hb5 f0 f1 f2 f3
              obtain ⟨f0, f1, f2, f3⟩ := hW1.four Hr.out
              by_cases hp1 : p ≥ 1
              · by_cases hp2 : p ≤ 100
                · by_cases hd : 100 * C < p * a
                  · have HD := Lib.hid (show covV (densV rs s p) ⟨x0, y0, x1, y1⟩ = a - C by rw [Hdc.out, if_pos ⟨hp1, hp2, hd⟩])
                    go_wp2_with fail
                    refine (long_any ⟨x0, y0, x1, y1⟩ Hok.out _).mono ?_
                    rintro e w7 ⟨rfl, hb5⟩
                    rw [Ha.out]
                    replace hR1 := hR1.on hb5
                    replace hM1 := hM1.on hb5
                    replace hW1 := hW1.on hb5
                    replace hb := hb.trans (hb5.mono hb.size)
                    clear hb5 f0 f1 f2 f3
                    obtain ⟨f0, f1, f2, f3⟩ := hW1.four Hr.out
                    go_wp2_with fail
                    refine (long_any ⟨x0, y0, x1, y1⟩ Hok.out _).mono ?_
                    rintro e w8 ⟨rfl, hb5⟩
                    rw [Ha.out]
                    replace hR1 := hR1.on hb5
                    replace hM1 := hM1.on hb5
                    replace hW1 := hW1.on hb5
                    replace hb := hb.trans (hb5.mono hb.size)
                    clear hb5 f0 f1 f2 f3
                    obtain ⟨f0, f1, f2, f3⟩ := hW1.four Hr.out
                    go_wp2_with fail
                    refine (cov_impl u (densV rs s p) ⟨x0, y0, x1, y1⟩ _ hM1).mono ?_
                    rintro e w9 ⟨rfl, hb5⟩
                    rw [HD.out]
                    replace hR1 := hR1.on hb5
                    replace hM1 := hM1.on hb5
                    replace hW1 := hW1.on hb5
                    replace hb := hb.trans (hb5.mono hb.size)
                    clear hb5 f0 f1 f2 f3
                    obtain ⟨f0, f1, f2, f3⟩ := hW1.four Hr.out
                    go_wp2
                    exact ⟨⟨k + 1, by omega, by go_num, by rw [Har.out], by rw [Hcr.out], hR1, hM1, hW1, hb⟩, by simp [intOf]; omega⟩
                  · have HD := Lib.hid (show covV (densV rs s p) ⟨x0, y0, x1, y1⟩ = 0 by rw [Hdc.out, if_neg (fun hc => hd hc.2.2)])
                    go_wp2_with fail
                    refine (long_any ⟨x0, y0, x1, y1⟩ Hok.out _).mono ?_
                    rintro e w7 ⟨rfl, hb5⟩
                    rw [Ha.out]
                    replace hR1 := hR1.on hb5
                    replace hM1 := hM1.on hb5
                    replace hW1 := hW1.on hb5
                    replace hb := hb.trans (hb5.mono hb.size)
                    clear hb5 f0 f1 f2 f3
                    obtain ⟨f0, f1, f2, f3⟩ := hW1.four Hr.out
                    go_wp2_with fail
                    refine (cov_impl u (densV rs s p) ⟨x0, y0, x1, y1⟩ _ hM1).mono ?_
                    rintro e w9 ⟨rfl, hb5⟩
                    rw [HD.out]
                    replace hR1 := hR1.on hb5
                    replace hM1 := hM1.on hb5
                    replace hW1 := hW1.on hb5
                    replace hb := hb.trans (hb5.mono hb.size)
                    clear hb5 f0 f1 f2 f3
                    obtain ⟨f0, f1, f2, f3⟩ := hW1.four Hr.out
                    go_wp2
                    exact ⟨⟨k + 1, by omega, by go_num, by rw [Har.out], by rw [Hcr.out], hR1, hM1, hW1, hb⟩, by simp [intOf]; omega⟩
                · have HD := Lib.hid (show covV (densV rs s p) ⟨x0, y0, x1, y1⟩ = 0 by rw [Hdc.out, if_neg (fun hc => hp2 hc.2.1)])
                  go_wp2_with fail
                  refine (cov_impl u (densV rs s p) ⟨x0, y0, x1, y1⟩ _ hM1).mono ?_
                  rintro e w9 ⟨rfl, hb5⟩
                  rw [HD.out]
                  replace hR1 := hR1.on hb5
                  replace hM1 := hM1.on hb5
                  replace hW1 := hW1.on hb5
                  replace hb := hb.trans (hb5.mono hb.size)
                  clear hb5 f0 f1 f2 f3
                  obtain ⟨f0, f1, f2, f3⟩ := hW1.four Hr.out
                  go_wp2
                  exact ⟨⟨k + 1, by omega, by go_num, by rw [Har.out], by rw [Hcr.out], hR1, hM1, hW1, hb⟩, by simp [intOf]; omega⟩
              · have HD := Lib.hid (show covV (densV rs s p) ⟨x0, y0, x1, y1⟩ = 0 by rw [Hdc.out, if_neg (fun hc => hp1 hc.1)])
                go_wp2_with fail
                refine (cov_impl u (densV rs s p) ⟨x0, y0, x1, y1⟩ _ hM1).mono ?_
                rintro e w9 ⟨rfl, hb5⟩
                rw [HD.out]
                replace hR1 := hR1.on hb5
                replace hM1 := hM1.on hb5
                replace hW1 := hW1.on hb5
                replace hb := hb.trans (hb5.mono hb.size)
                clear hb5 f0 f1 f2 f3
                obtain ⟨f0, f1, f2, f3⟩ := hW1.four Hr.out
                go_wp2
                exact ⟨⟨k + 1, by omega, by go_num, by rw [Har.out], by rw [Hcr.out], hR1, hM1, hW1, hb⟩, by simp [intOf]; omega⟩
            · have hke : k = (wins s).length := by omega
              subst hke
              rw [List.take_length, Hsa.out, Hsc.out]
              go_wp2_with fail
              refine (regArea_spec v rs _ hR1 Hreg.out).mono ?_
              rintro e w9 ⟨rfl, hb9⟩
              go_wp2
              go_ret
              exact ⟨by simp, hb.trans (hb9.mono hb.size)⟩
    · have hreg' : isReg rs = false := by simpa using hreg
      rw [hreg']
      rw [densV_no1 hreg'] at hM
      obtain ⟨AM, cM, rfl, -, -, -⟩ := hM.form
      clear hreg hreg'
      go_wp2
      go_ret
      exact ⟨rfl, hb4⟩

end Go.Proofs.Ytooglkdloaaomaa
