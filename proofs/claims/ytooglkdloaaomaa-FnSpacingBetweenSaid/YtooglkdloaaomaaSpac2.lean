/- Contracts: MinSpacingBetween, MarkSpacingBetween of the reference and of the program. No conditions. -/
import Derived.Test.YtooglkdloaaomaaGapsB
import Derived.Test.YtooglkdloaaomaaSpac1
namespace Go.Proofs.Ytooglkdloaaomaa
open Go.RowKit

theorem minStep_pos {m : Int} {r : Rc} (hr : okRc r = true) (hm : 0 ≤ m) : 1 ≤ minStep m r := by
  have h := areaR_bounds hr
  unfold minStep
  split <;> omega
theorem min_fold {rs : List Rc} : ∀ {m : Int}, okAll rs = true → 1 ≤ m → 1 ≤ rs.foldl minStep m := by
  induction rs with
  | nil => intro m _ h; exact h
  | cons r rs ih =>
    intro m hok hm
    rw [okAll, List.all_cons, Bool.and_eq_true] at hok
    exact ih hok.2 (minStep_pos hok.1 (by omega))
theorem minA_nz {rs : List Rc} (hok : okAll rs = true) (h : rs.length ≠ 0) : minA rs ≠ 0 := by
  cases rs with
  | nil => simp at h
  | cons r rs =>
    rw [okAll, List.all_cons, Bool.and_eq_true] at hok
    have := min_fold hok.2 (minStep_pos (m := 0) hok.1 (by omega))
    unfold minA
    rw [List.foldl_cons]
    omega
theorem union_canons (F G : Gr) : canon (cellsG [canon F, canon G].flatten) = canon (unionG F G) := by
  refine canon_congr fun i hi => ?_
  rw [show [canon F, canon G].flatten = canon F ++ canon G by simp, cellsG_append]
  unfold unionG
  rw [cells_canon F i hi, cells_canon G i hi]
def msbV (rs qs : List Rc) : Int := if isReg rs = true ∧ isReg qs = true then (if meetG (cellsG rs) (cellsG qs) = true then 0 else if (allBtw (cellsG rs) (cellsG qs)).length = 0 then -1 else minA (allBtw (cellsG rs) (cellsG qs))) else -1
def mkbG (rs qs : List Rc) (x : Int) : Gr := unionG (shortG (allBtw (cellsG rs) (cellsG qs)) x) (interG (cellsG rs) (cellsG qs))
def mkbV (rs qs : List Rc) (x : Int) : List Rc := if (isReg rs && isReg qs && inB 1 x 8) = true then canon (mkbG rs qs x) else []
theorem mkbV_length (rs qs : List Rc) (x : Int) : (mkbV rs qs x).length ≤ 1000000 := by
  unfold mkbV
  split
  · exact Nat.le_trans (canon_few _) (by omega)
  · simp

set_option maxHeartbeats 800000 in
set_option maxRecDepth 100000 in
theorem msb_impl (v : Value) (rs : List Rc) (u : Value) (qs : List Rc) (w : World) (hv : RL w 0 v rs) (hu : RL w 0 u qs) : Calls Try.prog 51 #[v, u] w fun e w' => e = .returned (.int .i64 (msbV rs qs)) ∧ Below w.heap.size w w' := by
  have t0 := Below.refl w.heap.size w
  have hall := Lib.hid (allBtw_ok (cellsG rs) (cellsG qs))
  by_cases h : isReg rs = true
  · by_cases h2 : isReg qs = true
    · have hok1 := Lib.hid (okAll_reg h)
      have hok2 := Lib.hid (okAll_reg h2)
      have em := meetL_G hok1.out hok2.out
      by_cases hm : meetG (cellsG rs) (cellsG qs) = true
      · rw [show msbV rs qs = 0 by unfold msbV; rw [if_pos ⟨h, h2⟩, if_pos hm]]
        go_enter Try.func51, Try.ntmps51
        go_wp2_with fail
        refine (isRegion_any v rs _ hv).mono ?_
        rintro e v1 ⟨rfl, hb⟩
        replace hv := hv.on hb
        replace hu := hu.on hb
        replace t0 := t0.trans (hb.mono t0.size)
        clear hb
        rw [h]
        go_wp2_with fail
        refine (isRegion_any u qs _ hu).mono ?_
        rintro e v2 ⟨rfl, hb⟩
        replace hv := hv.on hb
        replace hu := hu.on hb
        replace t0 := t0.trans (hb.mono t0.size)
        clear hb
        rw [h2]
        go_wp2_with fail
        refine (meet_any v u rs qs _ hv hu hok1.out hok2.out).mono ?_
        rintro e v3 ⟨rfl, hb⟩
        replace hv := hv.on hb
        replace hu := hu.on hb
        replace t0 := t0.trans (hb.mono t0.size)
        clear hb
        rw [em]
        rw [hm]
        go_wp2
        go_ret
        exact ⟨rfl, t0⟩
      · have hm' : meetG (cellsG rs) (cellsG qs) = false := by simpa using hm
        clear hm
        by_cases hl : (allBtw (cellsG rs) (cellsG qs)).length = 0
        · have hz : minA (allBtw (cellsG rs) (cellsG qs)) = 0 := by rw [List.length_eq_zero_iff.1 hl]; rfl
          rw [show msbV rs qs = -1 by unfold msbV; rw [if_pos ⟨h, h2⟩, if_neg (by rw [hm']; simp), if_pos hl]]
          go_enter Try.func51, Try.ntmps51
          go_wp2_with fail
          refine (isRegion_any v rs _ hv).mono ?_
          rintro e v1 ⟨rfl, hb⟩
          replace hv := hv.on hb
          replace hu := hu.on hb
          replace t0 := t0.trans (hb.mono t0.size)
          clear hb
          rw [h]
          go_wp2_with fail
          refine (isRegion_any u qs _ hu).mono ?_
          rintro e v2 ⟨rfl, hb⟩
          replace hv := hv.on hb
          replace hu := hu.on hb
          replace t0 := t0.trans (hb.mono t0.size)
          clear hb
          rw [h2]
          go_wp2_with fail
          refine (meet_any v u rs qs _ hv hu hok1.out hok2.out).mono ?_
          rintro e v3 ⟨rfl, hb⟩
          replace hv := hv.on hb
          replace hu := hu.on hb
          replace t0 := t0.trans (hb.mono t0.size)
          clear hb
          rw [em]
          rw [hm']
          go_wp2_with fail
          refine (gapsBetween_any v u rs qs _ hv hu).mono ?_
          rintro e v4 ⟨u4, rfl, hR, hb⟩
          replace hv := hv.on hb
          replace hu := hu.on hb
          replace hR := hR.less (t0.size)
          replace t0 := t0.trans (hb.mono t0.size)
          clear hb
          replace hR := hR.less (Nat.zero_le _)
          go_wp2_with fail
          refine (shortest_any u4 _ _ hR hall.out).mono ?_
          rintro e v5 ⟨rfl, hb⟩
          replace hv := hv.on hb
          replace hu := hu.on hb
          replace hR := hR.on hb
          replace t0 := t0.trans (hb.mono t0.size)
          clear hb
          go_wp2
          go_ret
          exact ⟨rfl, t0⟩
        · have hz := minA_nz hall.out hl
          rw [show msbV rs qs = minA (allBtw (cellsG rs) (cellsG qs)) by unfold msbV; rw [if_pos ⟨h, h2⟩, if_neg (by rw [hm']; simp), if_neg hl]]
          go_enter Try.func51, Try.ntmps51
          go_wp2_with fail
          refine (isRegion_any v rs _ hv).mono ?_
          rintro e v1 ⟨rfl, hb⟩
          replace hv := hv.on hb
          replace hu := hu.on hb
          replace t0 := t0.trans (hb.mono t0.size)
          clear hb
          rw [h]
          go_wp2_with fail
          refine (isRegion_any u qs _ hu).mono ?_
          rintro e v2 ⟨rfl, hb⟩
          replace hv := hv.on hb
          replace hu := hu.on hb
          replace t0 := t0.trans (hb.mono t0.size)
          clear hb
          rw [h2]
          go_wp2_with fail
          refine (meet_any v u rs qs _ hv hu hok1.out hok2.out).mono ?_
          rintro e v3 ⟨rfl, hb⟩
          replace hv := hv.on hb
          replace hu := hu.on hb
          replace t0 := t0.trans (hb.mono t0.size)
          clear hb
          rw [em]
          rw [hm']
          go_wp2_with fail
          refine (gapsBetween_any v u rs qs _ hv hu).mono ?_
          rintro e v4 ⟨u4, rfl, hR, hb⟩
          replace hv := hv.on hb
          replace hu := hu.on hb
          replace hR := hR.less (t0.size)
          replace t0 := t0.trans (hb.mono t0.size)
          clear hb
          replace hR := hR.less (Nat.zero_le _)
          go_wp2_with fail
          refine (shortest_any u4 _ _ hR hall.out).mono ?_
          rintro e v5 ⟨rfl, hb⟩
          replace hv := hv.on hb
          replace hu := hu.on hb
          replace hR := hR.on hb
          replace t0 := t0.trans (hb.mono t0.size)
          clear hb
          go_wp2
          go_ret
          exact ⟨rfl, t0⟩
    · have h2' : isReg qs = false := by simpa using h2
      clear h2
      rw [show msbV rs qs = -1 by unfold msbV; rw [if_neg (by rw [h2']; simp)]]
      go_enter Try.func51, Try.ntmps51
      go_wp2_with fail
      refine (isRegion_any v rs _ hv).mono ?_
      rintro e v1 ⟨rfl, hb⟩
      replace hv := hv.on hb
      replace hu := hu.on hb
      replace t0 := t0.trans (hb.mono t0.size)
      clear hb
      rw [h]
      go_wp2_with fail
      refine (isRegion_any u qs _ hu).mono ?_
      rintro e v2 ⟨rfl, hb⟩
      replace hv := hv.on hb
      replace hu := hu.on hb
      replace t0 := t0.trans (hb.mono t0.size)
      clear hb
      rw [h2']
      go_wp2
      go_ret
      exact ⟨rfl, t0⟩
  · have h' : isReg rs = false := by simpa using h
    clear h
    rw [show msbV rs qs = -1 by unfold msbV; rw [if_neg (by rw [h']; simp)]]
    go_enter Try.func51, Try.ntmps51
    go_wp2_with fail
    refine (isRegion_any v rs _ hv).mono ?_
    rintro e v1 ⟨rfl, hb⟩
    replace hv := hv.on hb
    replace hu := hu.on hb
    replace t0 := t0.trans (hb.mono t0.size)
    clear hb
    rw [h']
    go_wp2
    go_ret
    exact ⟨rfl, t0⟩

set_option maxHeartbeats 800000 in
set_option maxRecDepth 100000 in
theorem mkb_impl (v : Value) (rs : List Rc) (u : Value) (qs : List Rc) (x : Int) (w : World) (hv : RL w 0 v rs) (hu : RL w 0 u qs) : Calls Try.prog 49 #[v, u, .int .i64 x] w fun e w' => ∃ z, e = .returned z ∧ RL w' w.heap.size z (mkbV rs qs x) ∧ Below w.heap.size w w' := by
  have t0 := Below.refl w.heap.size w
  have hall := Lib.hid (allBtw_ok (cellsG rs) (cellsG qs))
  by_cases hc : chkV rs x = true
  · obtain ⟨h, hx⟩ := chkV_yes hc
    by_cases h2 : isReg qs = true
    · rw [show mkbV rs qs x = canon (mkbG rs qs x) by unfold mkbV; rw [if_pos (by rw [h, h2, hx]; rfl)]]
      go_enter Try.func49, Try.ntmps49
      go_wp2_with fail
      refine (checkable_any v rs x _ hv).mono ?_
      rintro e v1 ⟨rfl, hb⟩
      replace hv := hv.on hb
      replace hu := hu.on hb
      replace t0 := t0.trans (hb.mono t0.size)
      clear hb
      rw [hc]
      go_wp2_with fail
      refine (isRegion_any u qs _ hu).mono ?_
      rintro e v2 ⟨rfl, hb⟩
      replace hv := hv.on hb
      replace hu := hu.on hb
      replace t0 := t0.trans (hb.mono t0.size)
      clear hb
      rw [h2]
      go_wp2_with fail
      refine (gapsBetween_any v u rs qs _ hv hu).mono ?_
      rintro e v3 ⟨u4, rfl, hR, hb⟩
      replace hv := hv.on hb
      replace hu := hu.on hb
      replace hR := hR.less (t0.size)
      replace t0 := t0.trans (hb.mono t0.size)
      clear hb
      replace hR := hR.less (Nat.zero_le _)
      go_wp2_with fail
      refine (shorter_any u4 (allBtw (cellsG rs) (cellsG qs)) x _ hR hall.out).mono ?_
      rintro e v4 ⟨u5, rfl, hR5, hb⟩
      replace hv := hv.on hb
      replace hu := hu.on hb
      replace hR := hR.on hb
      replace hR5 := hR5.less (t0.size)
      replace t0 := t0.trans (hb.mono t0.size)
      clear hb
      replace hR5 := hR5.less (Nat.zero_le _)
      go_wp2_with fail
      refine (inter_any v u rs qs _ hv hu h h2).mono ?_
      rintro e v5 ⟨u6, rfl, hR6, hb⟩
      replace hv := hv.on hb
      replace hu := hu.on hb
      replace hR := hR.on hb
      replace hR5 := hR5.on hb
      replace hR6 := hR6.less (t0.size)
      replace t0 := t0.trans (hb.mono t0.size)
      clear hb
      replace hR6 := hR6.less (Nat.zero_le _)
      obtain ⟨A5, c5, rfl, -, -, -⟩ := hR5.form
      obtain ⟨A6, c6, rfl, -, -, -⟩ := hR6.form
      have t1 := t0.alloc t0.size (.cells #[.slice A5 (canon (shortG (allBtw (cellsG rs) (cellsG qs)) x)).length c5, .slice A6 (canon (interG (cellsG rs) (cellsG qs))).length c6] 24)
      go_wp2_with fail
      refine (unionAll_any _ _ _ (RLL.two hR5 hR6)).mono ?_
      rintro e w9 ⟨u7, rfl, hR7, hb⟩
      rw [union_canons] at hR7
      go_wp2
      go_ret
      exact ⟨_, rfl, hR7.less t1.size, t1.trans (hb.mono t1.size)⟩
    · have h2' : isReg qs = false := by simpa using h2
      clear h2
      rw [show mkbV rs qs x = [] by unfold mkbV; rw [if_neg (by rw [h2']; simp)]]
      go_enter Try.func49, Try.ntmps49
      go_wp2_with fail
      refine (checkable_any v rs x _ hv).mono ?_
      rintro e v1 ⟨rfl, hb⟩
      replace hv := hv.on hb
      replace hu := hu.on hb
      replace t0 := t0.trans (hb.mono t0.size)
      clear hb
      rw [hc]
      go_wp2_with fail
      refine (isRegion_any u qs _ hu).mono ?_
      rintro e v2 ⟨rfl, hb⟩
      replace hv := hv.on hb
      replace hu := hu.on hb
      replace t0 := t0.trans (hb.mono t0.size)
      clear hb
      rw [h2']
      go_wp2
      go_ret
      exact ⟨_, rfl, RL.nil _ _, t0⟩
  · have hc' : chkV rs x = false := by simpa using hc
    clear hc
    have hcc : (isReg rs && isReg qs && inB 1 x 8) = false := by unfold chkV at hc'; revert hc'; cases isReg rs <;> cases isReg qs <;> cases inB 1 x 8 <;> simp
    rw [show mkbV rs qs x = [] by unfold mkbV; rw [if_neg (by rw [hcc]; simp)]]
    go_enter Try.func49, Try.ntmps49
    go_wp2_with fail
    refine (checkable_any v rs x _ hv).mono ?_
    rintro e v1 ⟨rfl, hb⟩
    replace hv := hv.on hb
    replace hu := hu.on hb
    replace t0 := t0.trans (hb.mono t0.size)
    clear hb
    rw [hc']
    go_wp2
    go_ret
    exact ⟨_, rfl, RL.nil _ _, t0⟩

end Go.Proofs.Ytooglkdloaaomaa
