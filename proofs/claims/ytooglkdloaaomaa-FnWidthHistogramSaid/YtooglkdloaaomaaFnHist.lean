/- The walk of the law FnWidthHistogram, over drawn inputs: it answers true. No conditions. -/
import Derived.Test.YtooglkdloaaomaaDrawD
import Derived.Test.YtooglkdloaaomaaHist
import Derived.Test.YtooglkdloaaomaaWidth1
import Derived.Test.YtooglkdloaaomaaVals
namespace Go.Proofs.Ytooglkdloaaomaa
open Go.RowKit

theorem own_low {w w' : World} {B N n size : Nat} {e : TypeId} {v : Value} {xs : List Value} (h : w.ownsRow B e size v n xs) (hN : ∀ g, v.ownBlock = some g → g < N) (hb : Below N w w') : w'.ownsRow B e size v n xs := by
  refine ⟨h.1, ?_⟩
  rcases h.2 with hn | ⟨g, cap, cur, rfl, h1, h2, h3⟩
  · exact .inl hn
  · exact .inr ⟨g, cap, cur, rfl, h1, (hb.block g (hN g rfl)).trans h2, h3⟩
set_option maxHeartbeats 400000 in
theorem drawHist_any (A : Option Addr) (n c : Nat) (w : World) (hA : ArgB w A n) (hn : n ≤ 4096) : Calls Try.prog 23 #[.slice A n c] w fun e w' => ∃ v rs, e = .returned v ∧ RL w' w.heap.size v rs ∧ rs.length ≤ 8000 ∧ Below w.heap.size w w' := by
  go_enter Try.func23, Try.ntmps23
  go_wp2_with fail
  refine (from_any A n c _ hA hn).mono ?_
  rintro e w1 ⟨g, rfl, hg, hD, hb1⟩
  go_wp2_with fail
  refine (drawAny_any g _ hD).mono ?_
  rintro e w2 ⟨v, rs, rfl, hR, hl, hD2, hG⟩
  go_wp2
  go_ret
  exact ⟨_, _, rfl, hR.less hb1.size, hl, hb1.trans (grown_below hG (fun q hq => by simp at hq; omega) hb1.size)⟩

set_option maxHeartbeats 400000 in
set_option maxRecDepth 100000 in
theorem sameInts_any (v u : Value) (xs : List Int) (w : World) (hv : IL w 0 v xs) (hu : IL w 0 u xs) :
    Calls Try.prog 27 #[v, u] w fun e w' => e = .returned (.bool true) ∧ Below w.heap.size w w' := by
  obtain ⟨A, c1, rfl, hc1, hm1⟩ := hv.form
  obtain ⟨A2, c2, rfl, hc2, hm2⟩ := hu.form
  have hlen : xs.length ≤ 9223372036854775807 := by unfold maxLen at hm1; omega
  go_enter Try.func27, Try.ntmps27
  go_wp2
  go_loopw [5] (fun i wr => ∃ k : Nat, k ≤ xs.length ∧ i = .int .i64 k ∧ Below w.heap.size w wr) (fun i _ => xs.length - (intOf i).toNat)
  case atStart => exact ⟨0, Nat.zero_le _, rfl, Below.refl _ _⟩
  case round =>
    obtain ⟨k, hk, rfl, hb⟩ := hrel
    by_cases hlt : k < xs.length
    · obtain ⟨g, x, rfl, hr, -, hg, f0⟩ := (hv.on hb).elem hlt
      obtain ⟨g', x', rfl, hr', -, hg', f0'⟩ := (hu.on hb).elem hlt
      have hrr := hr.symm.trans hr'
      simp only [Option.some.injEq] at hrr
      subst hrr
      clear hr hr' hv hu
      go_wp2
      go_region
      all_goals
        go_wp2
        exact ⟨⟨k + 1, by omega, by go_num, hb.drew⟩, by simp [intOf]; omega⟩
    · go_wp2
      go_ret
      exact ⟨rfl, hb⟩

/-- What is left of the histogram behind the first k runs. -/
def decL (rs : List Rc) (k : Nat) : List Int := (List.range 8).map fun j => histAt rs j - histAt (rs.take k) j
theorem dec_length (rs : List Rc) (k : Nat) : (decL rs k).length = 8 := by simp [decL]
theorem dec_get (rs : List Rc) (k : Nat) {j : Nat} (h : j < 8) : (decL rs k)[j]? = some (histAt rs j - histAt (rs.take k) j) := by simp [decL, h]
theorem dec_start (rs : List Rc) : decL rs 0 = histL rs := by simp [decL, histL, histAt]
theorem dec_end {rs : List Rc} {k : Nat} (h : rs.length ≤ k) : decL rs k = histL [] := by
  unfold decL histL
  rw [List.take_of_length_le h]
  exact List.map_congr_left fun j _ => by rw [Int.sub_self]; rfl
theorem dec_yes {rs : List Rc} {k j : Nat} {r : Rc} (h : rs[k]? = some r) (hj : j < 8) (ha : areaR r = (j : Int) + 1) : (decL rs k).set j (histAt rs j - histAt (rs.take k) j - 1) = decL rs (k + 1) := by
  apply List.ext_getElem?
  intro i
  rw [List.getElem?_set, dec_length]
  by_cases hi : i < 8
  · rw [dec_get _ _ hi, dec_get _ _ hi, histAt_step h]
    by_cases e : j = i
    · subst e; rw [if_pos rfl, if_pos hj, if_pos ha]; congr 1; omega
    · rw [if_neg e, if_neg (by omega), Int.add_zero]
  · rw [if_neg (by omega), List.getElem?_eq_none (by rw [dec_length]; omega), List.getElem?_eq_none (by rw [dec_length]; omega)]
theorem dec_no {rs : List Rc} {k : Nat} {r : Rc} (h : rs[k]? = some r) (ha : ¬ areaR r ≤ 8) : decL rs k = decL rs (k + 1) := by
  apply List.ext_getElem?
  intro i
  by_cases hi : i < 8
  · rw [dec_get _ _ hi, dec_get _ _ hi, histAt_step h, if_neg (by omega), Int.add_zero]
  · rw [List.getElem?_eq_none (by rw [dec_length]; omega), List.getElem?_eq_none (by rw [dec_length]; omega)]

set_option maxHeartbeats 1600000 in
set_option maxRecDepth 100000 in
/-- FnWidthHistogram answers true. -/
theorem lawFnHist (A : Option Addr) (n c : Nat) (w : World) (hA : ArgB w A n) (hm : n ≤ maxLen) : Calls Try.prog 4 #[.slice A n c] w fun e w' => e = .returned (.bool true) ∧ Below w.heap.size w w' := by
  go_enter Try.func4, Try.ntmps4
  go_wp2_with fail
  refine (big_any A n c w hm).mono ?_
  rintro e w0 ⟨rfl, rfl⟩
  by_cases h4 : 4096 < n
  · rw [decide_eq_true h4]
    go_wp2
    go_ret
    exact ⟨rfl, Below.refl _ _⟩
  · rw [decide_eq_false h4]
    go_wp2_with fail
    refine (drawHist_any A n c _ hA (by omega)).mono ?_
    rintro e w1 ⟨v, rs, rfl, hR, hl, hb1⟩
    go_wp2_with fail
    refine (hist_impl v rs _ (hR.less (Nat.zero_le _))).mono ?_
    rintro e w2 ⟨u, rfl, hI, hb2⟩
    replace hR := hR.on hb2
    replace hb2 := hb1.trans (hb2.mono hb1.size)
    have hs1 := hb1.size
    go_wp2_with fail
    refine (isReg_spec v rs _ (hR.less (Nat.zero_le _))).mono ?_
    rintro e w3 ⟨rfl, hb3⟩
    replace hR := hR.on hb3
    replace hI := hI.on hb3
    replace hb3 := hb2.trans (hb3.mono hb2.size)
    clear hb1 hb2 hA
    by_cases hreg : isReg rs = true
    · rw [hreg]
      rw [histV_yes hreg] at hI
      obtain ⟨AI, cI, hu, hcI, hmI⟩ := hI.form
      rw [histL_length] at hu hcI
      subst hu
      have r0 : RL (w3.alloc (.cells #[] 32)) w3.heap.size (.slice (some ⟨w3.heap.size, 0, none⟩) 0 0) [] := World.ownsRow_lit w3 #[] 0 (Nat.le_refl _) (by simp [maxLen]) rfl
      have hR3 := RL.alloc hR (.cells #[] 32)
      have hI3 := hI.alloc (.cells #[] 32)
      have t3 := hb3.alloc hb3.size (.cells #[] 32)
      have hs3 := hb3.size
      have HNv := Lib.hid (fun g hg => (own_lt hR g hg).2)
      have HNI := Lib.hid (fun g hg => (own_lt hI g hg).2)
      clear hR hI hb3
      go_wp2_with fail
      refine (hruns_impl v rs _ (hR3.less (Nat.zero_le _))).mono ?_
      rintro e w4 ⟨x4, rfl, hx4, hb4⟩
      replace r0 := r0.on hb4
      replace hR3 := hR3.on hb4
      replace hI3 := hI3.on hb4
      replace t3 := t3.trans (hb4.mono t3.size)
      have r4 : RL w4 w3.heap.size x4 (runsG (cellsG rs) false) := by rw [← runsV_yes hreg]; exact hx4.less (by simp)
      have hl1 := runsG_length (cellsG rs) false
      have hl2 := runsG_length (cellsG rs) true
      have hl4 : ([] : List Rc).length + (runsG (cellsG rs) false).length ≤ 1000000 := by rw [List.length_nil]; omega
      have hl5 : (runsG (cellsG rs) false).length + (runsG (cellsG rs) true).length ≤ 1000000 := by omega
      have hs4 : w3.heap.size ≤ w4.heap.size := Nat.le_trans (by simp) hb4.size
      clear hx4 hb4
      go_wp2_with (at_builtin; refine wpList_append_RR rfl (.tmp 23) (.tmp 25) rfl w3.heap.size w3.heap.size _ _ _ _ rfl r0 rfl r4 hl4 hs4 ?_; intro x5 w5 r5 hb5)
      rw [List.nil_append] at r5
      replace hR3 : RL w5 w.heap.size v rs := own_low hR3 HNv.out hb5
      replace hI3 : IL w5 w1.heap.size (.slice AI 8 cI) (histL (allG (cellsG rs))) := own_low hI3 HNI.out hb5
      replace t3 := t3.trans (hb5.mono hs3)
      have hs5 := Nat.le_trans hs4 hb5.size
      clear r0 r4 hl4 hb5
      go_wp2_with fail
      refine (vruns_impl v rs _ (hR3.less (Nat.zero_le _))).mono ?_
      rintro e w6 ⟨x6, rfl, hx6, hb6⟩
      have r6 : RL w6 w3.heap.size x6 (runsG (cellsG rs) true) := by rw [← runsV_yes hreg]; exact hx6.less hs5
      replace r5 := r5.on hb6
      replace hI3 := hI3.on hb6
      replace t3 := t3.trans (hb6.mono t3.size)
      have hs6 := Nat.le_trans hs5 hb6.size
      clear hx6 hb6 hR3
      go_wp2_with (at_builtin; refine wpList_append_RR rfl (.tmp 26) (.tmp 28) rfl w3.heap.size w3.heap.size _ _ _ _ rfl r5 rfl r6 hl5 hs6 ?_; intro x7 w7 r7 hb7)
      have r8 : RL w7 w3.heap.size x7 (allG (cellsG rs)) := r7
      replace hI3 : IL w7 w1.heap.size (.slice AI 8 cI) (histL (allG (cellsG rs))) := own_low hI3 HNI.out hb7
      replace t3 := t3.trans (hb7.mono hs3)
      clear r5 r6 hl5 hb7 r7
      have Hall := Lib.hid (allG_ok (cellsG rs))
      have hall := all_len (cellsG rs)
      generalize allG (cellsG rs) = runs at r8 hI3 Hall hall
      obtain ⟨A7, c7, rfl, hc7, hm7, -⟩ := r8.form
      have hm7' : runs.length ≤ 9223372036854775807 := by omega
      clear hreg hl1 hl2
      go_wp2
      go_loopw [6] (fun iv wr => ∃ k : Nat, k ≤ runs.length ∧ iv = .int .i64 k ∧ IL wr w1.heap.size (.slice AI 8 cI) (decL runs k) ∧ RL wr w3.heap.size (.slice A7 runs.length c7) runs ∧ Below w.heap.size w wr) (fun iv _ => runs.length - (intOf iv).toNat)
      case atStart => exact ⟨0, Nat.zero_le _, rfl, by rw [dec_start]; exact hI3, r8, t3⟩
      case round =>
        obtain ⟨k, hk, rfl, hI, hR, hb⟩ := hrel
        clear hI3 r8 t3
        by_cases hlt : k < runs.length
        · obtain ⟨g, x0, y0, xx1, y1, rfl, hr, hg, f0, f1, f2, f3⟩ := hR.elem hlt
          have hok := okAll_at Hall.out hr
          have har := areaR_bounds hok
          by_cases ha : areaR ⟨x0, y0, xx1, y1⟩ ≤ 8
          · obtain ⟨j, hj⟩ : ∃ j : Nat, areaR ⟨x0, y0, xx1, y1⟩ = (j : Int) + 1 := ⟨(areaR ⟨x0, y0, xx1, y1⟩ - 1).toNat, by omega⟩
            have hj8 : (0 : Int) ≤ (j : Int) ∧ (j : Int) < 8 ∧ (j : Int) + 1 ≤ 8 := by omega
            have Hn := Lib.hid (dec_yes hr (show j < 8 by omega) hj)
            have hbd := histAt_bounds (runs.take k) j
            have hbd1 := histAt_bounds runs j
            rw [List.length_take] at hbd
            go_wp2_with fail
            refine (long_any ⟨x0, y0, xx1, y1⟩ hok _).mono ?_
            rintro e w8 ⟨rfl, hb8⟩
            rw [hj]
            have hI8 := hI.on hb8
            obtain ⟨g2, x, rfl, hx2, hg2, -, c0⟩ := hI8.elem (k := j) (by rw [dec_length]; omega)
            rw [dec_get _ _ (show j < 8 by omega)] at hx2
            simp only [Option.some.injEq] at hx2
            subst hx2
            have hwr := Go.IntWalk.i64_in (histAt runs j - histAt (runs.take k) j - 1) (by omega)
            have z0 := hI8.frozen j
            have HI := Lib.hid (hI8.set j (histAt runs j - histAt (runs.take k) j - 1))
            have hRne : (Value.slice (some ⟨g, 0, none⟩) runs.length c7).ownBlock ≠ some g2 := by
              rcases own_apart (hR.on hb8) hI8 (by decide) with h | h
              · simp [Value.ownBlock] at h
              · exact h
            have hR8 := own_other (hR.on hb8) (p := ⟨g2, j, none⟩) hRne (.int .i64 (histAt runs j - histAt (runs.take k) j - 1))
            have hb9 := (hb.trans (hb8.mono hb.size)).setCell (p := ⟨g2, j, none⟩) (Nat.le_trans hs1 hg2) (.int .i64 (histAt runs j - histAt (runs.take k) j - 1))
            have HR8 := Lib.hid hR8
            clear hI ha hj har hr hR hR8 hRne hbd hbd1
            go_wp2
            exact ⟨⟨k + 1, by omega, by go_num, by rw [← Hn.out]; exact HI.out, HR8.out, hb9⟩, by simp [intOf]; omega⟩
          · have Hn := Lib.hid (dec_no hr ha)
            go_wp2_with fail
            refine (long_any ⟨x0, y0, xx1, y1⟩ hok _).mono ?_
            rintro e w8 ⟨rfl, hb8⟩
            clear hr har
            go_wp2
            exact ⟨⟨k + 1, by omega, by go_num, by rw [← Hn.out]; exact hI.on hb8, hR.on hb8, hb.trans (hb8.mono hb.size)⟩, by simp [intOf]; omega⟩
        · have hke : runs.length ≤ k := by omega
          rw [dec_end hke] at hI
          have hmk := run_make_8
          have i0 := IL.made wr
          have hI9 := hI.alloc (.cells zeros8 2)
          have hb9 := hb.alloc hb.size (.cells zeros8 2)
          go_wp2_with fail
          refine (sameInts_any _ _ (histL []) _ (hI9.less (Nat.zero_le _)) (i0.less (Nat.zero_le _))).mono ?_
          rintro e w8 ⟨rfl, hb8⟩
          go_wp2
          go_ret
          exact ⟨rfl, hb9.trans (hb8.mono hb9.size)⟩
    · have hreg' : isReg rs = false := by simpa using hreg
      rw [hreg']
      rw [histV_no hreg'] at hI
      obtain ⟨AI, cI, rfl, hcI, hmI⟩ := hI.form
      clear hreg hreg'
      go_wp2
      go_ret
      exact ⟨rfl, hb3⟩

end Go.Proofs.Ytooglkdloaaomaa
