/- Contracts: the gaps of a set in rows or columns, as the program and the reference list them. No conditions. -/
import Derived.Test.YtbljapihmkmolaaGreatCombA
import Derived.Test.YtbljapihmkmolaaGreatAllRuns
import Derived.Test.YtbljapihmkmolaaGreatSets
import Derived.Test.YtbljapihmkmolaaGreatThruA
namespace Go.Proofs.YtbljapihmkmolaaGreat
open Go.RowKit

theorem inner_v {x0 y0 x1 y1 : Int} : innerR true ⟨x0, y0, x1, y1⟩ = decide (-40 < y0 ∧ y1 < 40) := rfl
theorem inner_h {x0 y0 x1 y1 : Int} : innerR false ⟨x0, y0, x1, y1⟩ = decide (-40 < x0 ∧ x1 < 40) := rfl

set_option maxHeartbeats 1600000 in
set_option maxRecDepth 100000 in
theorem gapsOf_v (g : Nat) (G : Gr) (w : World) (hG : GB w g 126 G) : Calls Tryz.prog 188 #[.pointer (some ⟨g, 0, none⟩), .bool true] w fun e w' => ∃ u, e = .returned u ∧ RL w' w.heap.size u (gapsG G true) ∧ Below w.heap.size w w' := by
  have Hlen := Lib.hid (runsG_length (notG G) true)
  have r0 : RL (w.alloc (.cells #[] 80)) w.heap.size (.slice (some ⟨w.heap.size, 0, none⟩) 0 0) [] := row_empty w _ _ rfl (Nat.le_refl _)
  have t0 : Below w.heap.size w (w.alloc (.cells #[] 80)) := (Below.refl _ _).alloc (Nat.le_refl _) _
  have hs0 : (w.alloc (.cells #[] 80)).heap.size = w.heap.size + 1 := by simp
  go_enter Tryz.func188, Tryz.ntmps188
  go_wp2_with fail
  refine (not_any g G _ (hG.alloc _)).mono ?_
  rintro e w1 ⟨q, rfl, hq, hN, hb1⟩
  replace r0 := r0.on hb1
  have hs1 := hb1.size
  rw [hs0] at hs1
  replace t0 := t0.trans (hb1.mono t0.size)
  clear hb1 hs0
  go_wp2_with fail
  refine (runsOf_any q true _ _ hN).mono ?_
  rintro e w2 ⟨u, rfl, hU, hb2⟩
  replace r0 := r0.on hb2
  have hs2 := hb2.size
  replace t0 := t0.trans (hb2.mono t0.size)
  clear hb2 hN
  have hS := Src.of hU
  obtain ⟨A, c, rfl, hc, hm, -⟩ := hU.form
  clear hU
  have hm' : (runsG (notG G) true).length ≤ 9223372036854775807 := by unfold maxLen at hm; omega
  have o0 : OutB (.slice (some ⟨w.heap.size, 0, none⟩) 0 0) w1.heap.size w2.heap.size := fun g hg => by
    simp [Value.ownBlock] at hg
    omega
  go_wp2
  go_loopw [5, 14] (fun ov iv wr => ∃ (k : Nat) (ps : List Rc), k ≤ (runsG (notG G) true).length ∧ iv = .int .i64 k ∧ RL wr w.heap.size ov ps ∧ Hid (ps = ((runsG (notG G) true).take k).filter (innerR true)) ∧ OutB ov w1.heap.size w2.heap.size ∧ Src wr w1.heap.size w2.heap.size (.slice A (runsG (notG G) true).length c) (runsG (notG G) true) ∧ w2.heap.size ≤ wr.heap.size ∧ Below w.heap.size w wr) (fun _ iv _ => (runsG (notG G) true).length - (intOf iv).toNat)
  case atStart => exact ⟨0, [], Nat.zero_le _, rfl, r0, Lib.hid rfl, o0, hS, Nat.le_refl _, t0⟩
  case round =>
    obtain ⟨k, ps, hk, rfl, hR, hps, ho, hS1, hsz, hb⟩ := hrel
    clear r0 o0 hS t0
    by_cases hlt : k < (runsG (notG G) true).length
    · obtain ⟨g', x0, y0, x1, y1, rfl, hr, hg', f0, f1, f2, f3⟩ := hS1.elem hlt
      have hl3 : ps.length ≤ 1000000 := by
        rw [hps.out]
        exact Nat.le_trans (filter_len k Hlen.out) (by omega)
      have tA := hb.alloc hb.size (.cells #[.int .i64 x0, .int .i64 y0, .int .i64 x1, .int .i64 y1] 80)
      by_cases hc : innerR true ⟨x0, y0, x1, y1⟩ = true
      · have Hn := Lib.hid (filter_yes hr hc)
        rw [inner_v, decide_eq_true_iff] at hc
        obtain ⟨hc1, hc2⟩ := hc
        clear hr
        have hR1 := hR.alloc (.cells #[.int .i64 x0, .int .i64 y0, .int .i64 x1, .int .i64 y1] 80)
        have HsA := Lib.hid (show (wr.alloc (.cells #[.int .i64 x0, .int .i64 y0, .int .i64 x1, .int .i64 y1] 80)).heap.size = wr.heap.size + 1 by simp)
        go_wp2_with (at_builtin; refine wpList_append_R_at rfl (.tmp 43) (.tmp 45) rfl w.heap.size _ ps rfl hR1 _ _ _ _ (by rw [HsA.out]; rfl) hl3 tA.size ?_)
        intro v1 w6 ho1 hg1 hb6 hat
        go_wp2
        refine ⟨⟨k + 1, _, by omega, by go_num, ho1, Lib.hid (by rw [hps.out, Hn.out]), ho.next (by have := HsA.out; omega) hat, (hS1.alloc _).kept ho hg1, ?_, tA.trans hb6⟩, by simp [intOf]; omega⟩
        have := hg1.size
        simp at this
        omega
      · have hc' : innerR true ⟨x0, y0, x1, y1⟩ = false := by simpa using hc
        have Hn := Lib.hid (filter_no hr hc')
        clear hc hr
        rw [inner_v, decide_eq_false_iff_not] at hc'
        by_cases hc1 : -40 < y0
        case' pos => have hc2 : 40 ≤ y1 := by omega
        case' neg => have hc3 : y0 ≤ -40 := by omega
        all_goals
          clear hc'
          go_wp2
          exact ⟨⟨k + 1, _, by omega, by go_num, hR.alloc _, Lib.hid (hps.out.trans Hn.out.symm), ho, hS1.alloc _, by simp; omega, tA⟩, by simp [intOf]; omega⟩
    · have he := Lib.hid (hps.out.trans (filter_all (by omega)))
      go_wp2
      go_ret
      refine ⟨_, rfl, ?_, hb⟩
      rw [he.out] at hR
      exact hR

set_option maxHeartbeats 1600000 in
set_option maxRecDepth 100000 in
theorem gapsOf_h (g : Nat) (G : Gr) (w : World) (hG : GB w g 126 G) : Calls Tryz.prog 188 #[.pointer (some ⟨g, 0, none⟩), .bool false] w fun e w' => ∃ u, e = .returned u ∧ RL w' w.heap.size u (gapsG G false) ∧ Below w.heap.size w w' := by
  have Hlen := Lib.hid (runsG_length (notG G) false)
  have r0 : RL (w.alloc (.cells #[] 80)) w.heap.size (.slice (some ⟨w.heap.size, 0, none⟩) 0 0) [] := row_empty w _ _ rfl (Nat.le_refl _)
  have t0 : Below w.heap.size w (w.alloc (.cells #[] 80)) := (Below.refl _ _).alloc (Nat.le_refl _) _
  have hs0 : (w.alloc (.cells #[] 80)).heap.size = w.heap.size + 1 := by simp
  go_enter Tryz.func188, Tryz.ntmps188
  go_wp2_with fail
  refine (not_any g G _ (hG.alloc _)).mono ?_
  rintro e w1 ⟨q, rfl, hq, hN, hb1⟩
  replace r0 := r0.on hb1
  have hs1 := hb1.size
  rw [hs0] at hs1
  replace t0 := t0.trans (hb1.mono t0.size)
  clear hb1 hs0
  go_wp2_with fail
  refine (runsOf_any q false _ _ hN).mono ?_
  rintro e w2 ⟨u, rfl, hU, hb2⟩
  replace r0 := r0.on hb2
  have hs2 := hb2.size
  replace t0 := t0.trans (hb2.mono t0.size)
  clear hb2 hN
  have hS := Src.of hU
  obtain ⟨A, c, rfl, hc, hm, -⟩ := hU.form
  clear hU
  have hm' : (runsG (notG G) false).length ≤ 9223372036854775807 := by unfold maxLen at hm; omega
  have o0 : OutB (.slice (some ⟨w.heap.size, 0, none⟩) 0 0) w1.heap.size w2.heap.size := fun g hg => by
    simp [Value.ownBlock] at hg
    omega
  go_wp2
  go_loopw [5, 14] (fun ov iv wr => ∃ (k : Nat) (ps : List Rc), k ≤ (runsG (notG G) false).length ∧ iv = .int .i64 k ∧ RL wr w.heap.size ov ps ∧ Hid (ps = ((runsG (notG G) false).take k).filter (innerR false)) ∧ OutB ov w1.heap.size w2.heap.size ∧ Src wr w1.heap.size w2.heap.size (.slice A (runsG (notG G) false).length c) (runsG (notG G) false) ∧ w2.heap.size ≤ wr.heap.size ∧ Below w.heap.size w wr) (fun _ iv _ => (runsG (notG G) false).length - (intOf iv).toNat)
  case atStart => exact ⟨0, [], Nat.zero_le _, rfl, r0, Lib.hid rfl, o0, hS, Nat.le_refl _, t0⟩
  case round =>
    obtain ⟨k, ps, hk, rfl, hR, hps, ho, hS1, hsz, hb⟩ := hrel
    clear r0 o0 hS t0
    by_cases hlt : k < (runsG (notG G) false).length
    · obtain ⟨g', x0, y0, x1, y1, rfl, hr, hg', f0, f1, f2, f3⟩ := hS1.elem hlt
      have hl3 : ps.length ≤ 1000000 := by
        rw [hps.out]
        exact Nat.le_trans (filter_len k Hlen.out) (by omega)
      have tA := hb.alloc hb.size (.cells #[.int .i64 x0, .int .i64 y0, .int .i64 x1, .int .i64 y1] 80)
      by_cases hc : innerR false ⟨x0, y0, x1, y1⟩ = true
      · have Hn := Lib.hid (filter_yes hr hc)
        rw [inner_h, decide_eq_true_iff] at hc
        obtain ⟨hc1, hc2⟩ := hc
        clear hr
        have hR1 := hR.alloc (.cells #[.int .i64 x0, .int .i64 y0, .int .i64 x1, .int .i64 y1] 80)
        have HsA := Lib.hid (show (wr.alloc (.cells #[.int .i64 x0, .int .i64 y0, .int .i64 x1, .int .i64 y1] 80)).heap.size = wr.heap.size + 1 by simp)
        go_wp2_with (at_builtin; refine wpList_append_R_at rfl (.tmp 43) (.tmp 45) rfl w.heap.size _ ps rfl hR1 _ _ _ _ (by rw [HsA.out]; rfl) hl3 tA.size ?_)
        intro v1 w6 ho1 hg1 hb6 hat
        go_wp2
        refine ⟨⟨k + 1, _, by omega, by go_num, ho1, Lib.hid (by rw [hps.out, Hn.out]), ho.next (by have := HsA.out; omega) hat, (hS1.alloc _).kept ho hg1, ?_, tA.trans hb6⟩, by simp [intOf]; omega⟩
        have := hg1.size
        simp at this
        omega
      · have hc' : innerR false ⟨x0, y0, x1, y1⟩ = false := by simpa using hc
        have Hn := Lib.hid (filter_no hr hc')
        clear hc hr
        rw [inner_h, decide_eq_false_iff_not] at hc'
        by_cases hc1 : -40 < x0
        case' pos => have hc2 : 40 ≤ x1 := by omega
        case' neg => have hc3 : x0 ≤ -40 := by omega
        all_goals
          clear hc'
          go_wp2
          exact ⟨⟨k + 1, _, by omega, by go_num, hR.alloc _, Lib.hid (hps.out.trans Hn.out.symm), ho, hS1.alloc _, by simp; omega, tA⟩, by simp [intOf]; omega⟩
    · have he := Lib.hid (hps.out.trans (filter_all (by omega)))
      go_wp2
      go_ret
      refine ⟨_, rfl, ?_, hb⟩
      rw [he.out] at hR
      exact hR

/-- gapsOf. -/
theorem gapsOf_any (g : Nat) (vert : Bool) (G : Gr) (w : World) (hG : GB w g 126 G) : Calls Tryz.prog 188 #[.pointer (some ⟨g, 0, none⟩), .bool vert] w fun e w' => ∃ u, e = .returned u ∧ RL w' w.heap.size u (gapsG G vert) ∧ Below w.heap.size w w' := by
  cases vert
  · exact gapsOf_h g G w hG
  · exact gapsOf_v g G w hG

set_option maxRecDepth 100000 in
/-- allGaps. -/
theorem allGaps_any (v : Value) (rs : List Rc) (w : World) (hv : RL w 0 v rs) : Calls Tryz.prog 165 #[v] w fun e w' => ∃ u, e = .returned u ∧ RL w' w.heap.size u (allGaps (cellsG rs)) ∧ Below w.heap.size w w' := by
  have h1 := gapsG_length (cellsG rs) false
  have h2 := gapsG_length (cellsG rs) true
  go_enter Tryz.func165, Tryz.ntmps165
  go_wp2_with fail
  refine (cellsOf_any v rs _ hv).mono ?_
  rintro e w0 ⟨g, rfl, hg, hG, hb0⟩
  have hB0 := hb0.size
  go_wp2_with fail
  refine (gapsOf_any g false (cellsG rs) _ hG).mono ?_
  rintro e w1 ⟨u1, rfl, hR1, hb1⟩
  go_wp2_with fail
  refine (gapsOf_any g true (cellsG rs) _ (hG.on hb1)).mono ?_
  rintro e w2 ⟨u2, rfl, hR2, hb2⟩
  have hb := hb1.trans (hb2.mono hb1.size)
  go_wp2_with (at_builtin; refine wpList_append_RR rfl (.tmp 7) (.tmp 9) rfl w0.heap.size w1.heap.size _ _ _ _ rfl (hR1.on hb2) rfl hR2 (by omega) hb.size ?_; intro v' w3 hR3 hb3)
  go_ret
  exact ⟨_, rfl, hR3.less hB0, hb0.trans ((hb.trans hb3).mono hB0)⟩

set_option maxHeartbeats 800000 in
set_option maxRecDepth 100000 in
theorem l18Ends_v (x0 y0 x1 y1 : Int) (w : World) (hx : -1000 ≤ x0 ∧ x0 ≤ 1000 ∧ -1000 ≤ y0 ∧ y0 ≤ 1000) : Calls Tryz.prog 185 #[.agg #[.int .i64 x0, .int .i64 y0, .int .i64 x1, .int .i64 y1], .bool true] w fun e w' => e = .returned (.tuple #[.agg #[.int .i64 (x0), .int .i64 (y0 - 1)], .agg #[.int .i64 (x0), .int .i64 (y1)]]) ∧ Below w.heap.size w w' := by
  have z0 := ((Bk.new w 80 #[.int .i64 x0, .int .i64 y0, .int .i64 x1, .int .i64 y1]).alloc (.cells #[.int .i64 0, .int .i64 0] 175)).alloc (.cells #[.int .i64 0, .int .i64 0] 175)
  have e1 : (w.alloc (.cells #[.int .i64 x0, .int .i64 y0, .int .i64 x1, .int .i64 y1] 80)).heap.size = w.heap.size + 1 := by simp
  have e2 : ((w.alloc (.cells #[.int .i64 x0, .int .i64 y0, .int .i64 x1, .int .i64 y1] 80)).alloc (.cells #[.int .i64 0, .int .i64 0] 175)).heap.size = w.heap.size + 1 + 1 := by simp
  have zp := (Bk.new (w.alloc (.cells #[.int .i64 x0, .int .i64 y0, .int .i64 x1, .int .i64 y1] 80)) 175 #[.int .i64 0, .int .i64 0]).alloc (.cells #[.int .i64 0, .int .i64 0] 175)
  have zq := Bk.new ((w.alloc (.cells #[.int .i64 x0, .int .i64 y0, .int .i64 x1, .int .i64 y1] 80)).alloc (.cells #[.int .i64 0, .int .i64 0] 175)) 175 #[.int .i64 0, .int .i64 0]
  rw [e1] at zp
  rw [e2] at zq
  clear e1 e2
  have t0 := (((Below.refl w.heap.size w).alloc (Nat.le_refl _) (.cells #[.int .i64 x0, .int .i64 y0, .int .i64 x1, .int .i64 y1] 80)).alloc (by simp) (.cells #[.int .i64 0, .int .i64 0] 175)).alloc (by simp; omega) (.cells #[.int .i64 0, .int .i64 0] 175)
  obtain ⟨f0, f1, f2, f3⟩ := box4 z0
  obtain ⟨p0, p1⟩ := box2 zp
  obtain ⟨q0, q1⟩ := box2 zq
  have a0 := zp.frozen 0
  have a1 := zp.frozen 1
  have b0 := zq.frozen 0
  have b1 := zq.frozen 1
  go_enter Tryz.func185, Tryz.ntmps185
  go_wp2
  go_region
  go_wp2
  refine bodyPost_ret (v := .tuple #[.agg #[.int .i64 (x0), .int .i64 (y0 - 1)], .agg #[.int .i64 (x0), .int .i64 (y1)]]) (by simp [results, Tryz.results185, go_sem]) rfl ⟨rfl, ?_⟩
  exact ((((Below.refl w.heap.size w).alloc (Nat.le_refl _) _).alloc (by simp) _).alloc (by simp; omega) _).drew

set_option maxHeartbeats 800000 in
set_option maxRecDepth 100000 in
theorem l18Ends_h (x0 y0 x1 y1 : Int) (w : World) (hx : -1000 ≤ x0 ∧ x0 ≤ 1000 ∧ -1000 ≤ y0 ∧ y0 ≤ 1000) : Calls Tryz.prog 185 #[.agg #[.int .i64 x0, .int .i64 y0, .int .i64 x1, .int .i64 y1], .bool false] w fun e w' => e = .returned (.tuple #[.agg #[.int .i64 (x0 - 1), .int .i64 (y0)], .agg #[.int .i64 (x1), .int .i64 (y0)]]) ∧ Below w.heap.size w w' := by
  have z0 := ((Bk.new w 80 #[.int .i64 x0, .int .i64 y0, .int .i64 x1, .int .i64 y1]).alloc (.cells #[.int .i64 0, .int .i64 0] 175)).alloc (.cells #[.int .i64 0, .int .i64 0] 175)
  have e1 : (w.alloc (.cells #[.int .i64 x0, .int .i64 y0, .int .i64 x1, .int .i64 y1] 80)).heap.size = w.heap.size + 1 := by simp
  have e2 : ((w.alloc (.cells #[.int .i64 x0, .int .i64 y0, .int .i64 x1, .int .i64 y1] 80)).alloc (.cells #[.int .i64 0, .int .i64 0] 175)).heap.size = w.heap.size + 1 + 1 := by simp
  have zp := (Bk.new (w.alloc (.cells #[.int .i64 x0, .int .i64 y0, .int .i64 x1, .int .i64 y1] 80)) 175 #[.int .i64 0, .int .i64 0]).alloc (.cells #[.int .i64 0, .int .i64 0] 175)
  have zq := Bk.new ((w.alloc (.cells #[.int .i64 x0, .int .i64 y0, .int .i64 x1, .int .i64 y1] 80)).alloc (.cells #[.int .i64 0, .int .i64 0] 175)) 175 #[.int .i64 0, .int .i64 0]
  rw [e1] at zp
  rw [e2] at zq
  clear e1 e2
  have t0 := (((Below.refl w.heap.size w).alloc (Nat.le_refl _) (.cells #[.int .i64 x0, .int .i64 y0, .int .i64 x1, .int .i64 y1] 80)).alloc (by simp) (.cells #[.int .i64 0, .int .i64 0] 175)).alloc (by simp; omega) (.cells #[.int .i64 0, .int .i64 0] 175)
  obtain ⟨f0, f1, f2, f3⟩ := box4 z0
  obtain ⟨p0, p1⟩ := box2 zp
  obtain ⟨q0, q1⟩ := box2 zq
  have a0 := zp.frozen 0
  have a1 := zp.frozen 1
  have b0 := zq.frozen 0
  have b1 := zq.frozen 1
  go_enter Tryz.func185, Tryz.ntmps185
  go_wp2
  go_region
  go_wp2
  refine bodyPost_ret (v := .tuple #[.agg #[.int .i64 (x0 - 1), .int .i64 (y0)], .agg #[.int .i64 (x1), .int .i64 (y0)]]) (by simp [results, Tryz.results185, go_sem]) rfl ⟨rfl, ?_⟩
  exact ((((Below.refl w.heap.size w).alloc (Nat.le_refl _) _).alloc (by simp) _).alloc (by simp; omega) _).drew

theorem ends_v (G H : Gr) (x0 y0 x1 y1 : Int) : endsG G H true ⟨x0, y0, x1, y1⟩ = ((hasG G (x0) (y0 - 1) && hasG H (x0) (y1)) || (hasG H (x0) (y0 - 1) && hasG G (x0) (y1))) := rfl

set_option maxHeartbeats 3200000 in
set_option maxRecDepth 100000 in
theorem between_v (v u : Value) (G H : Gr) (w : World) (hG : GS w 0 v G) (hH : GS w 0 u H) : Calls Tryz.prog 157 #[v, u, .bool true] w fun e w' => ∃ z, e = .returned z ∧ RL w' w.heap.size z (btwG G H true) ∧ Below w.heap.size w w' := by
  have Hlen := Lib.hid (runsG_length (notG (unionG G H)) true)
  have Hok := Lib.hid (runsG_ok (notG (unionG G H)) true)
  have hG' := hG
  have hH' := hH
  obtain ⟨g, c, rfl, -, hg⟩ := hG
  obtain ⟨h, d, rfl, -, hh⟩ := hH
  have hgl := hg.lt
  have hhl := hh.lt
  have hmk := run_make_6400
  have g0 := GB.made w 4
  have hg0 := hg.alloc (.cells noCells 4)
  have hh0 := hh.alloc (.cells noCells 4)
  have b0 : Below w.heap.size w (w.alloc (.cells noCells 4)) := (Below.refl _ _).alloc (Nat.le_refl _) _
  go_enter Tryz.func157, Tryz.ntmps157
  go_wp2
  clear hmk
  go_loopw [8] (fun iv wr => ∃ i : Nat, i ≤ 6400 ∧ iv = .int .i64 i ∧ GB wr w.heap.size 4 (partG (unionG G H) i) ∧ GB wr g 4 G ∧ GB wr h 4 H ∧ Below w.heap.size w wr) (fun iv _ => 6400 - (intOf iv).toNat)
  case atStart => exact ⟨0, by omega, rfl, by rw [partG_zero]; exact g0, hg0, hh0, b0⟩
  case round =>
    obtain ⟨i, hi, rfl, hO, hG1, hH1, hb⟩ := hrel
    clear g0 hg0 hh0 b0
    by_cases hlt : i < 6400
    · have hi0 : (0 : Int) ≤ (i : Int) ∧ (i : Int) < 6400 := by omega
      have cx := hG1.cell hlt
      have cy := hH1.cell hlt
      have co := hO.cell hlt
      have hz := hO.frozen i
      have hst := hO.store hlt (unionG G H i)
      rw [partG_step] at hst
      have Hst := Lib.hid hst
      clear hst hG' hH'
      by_cases hb0 : G i = true
      · have hd : unionG G H i = true := by unfold unionG; rw [hb0]; rfl
        rw [hd] at Hst
        rw [hb0] at cx
        clear hd hb0
        go_wp2
        exact ⟨⟨i + 1, by omega, by go_num, Hst.out, hG1.other (p := ⟨w.heap.size, _, none⟩) (show g ≠ w.heap.size by omega) _, hH1.other (p := ⟨w.heap.size, _, none⟩) (show h ≠ w.heap.size by omega) _, hb.setCell (p := ⟨w.heap.size, _, none⟩) (Nat.le_refl _) _⟩, by simp [intOf]; omega⟩
      · have hb1 : G i = false := by simpa using hb0
        have hd : unionG G H i = H i := by unfold unionG; rw [hb1]; rfl
        rw [hd] at Hst
        rw [hb1] at cx
        clear hd hb0 hb1
        go_wp2
        exact ⟨⟨i + 1, by omega, by go_num, Hst.out, hG1.other (p := ⟨w.heap.size, _, none⟩) (show g ≠ w.heap.size by omega) _, hH1.other (p := ⟨w.heap.size, _, none⟩) (show h ≠ w.heap.size by omega) _, hb.setCell (p := ⟨w.heap.size, _, none⟩) (Nat.le_refl _) _⟩, by simp [intOf]; omega⟩
    · have hie : i = 6400 := by omega
      rw [hie] at hO
      clear hG1 hH1
      go_wp2_with fail
      refine (l18Outside_any _ _ _ ⟨w.heap.size, _, rfl, Nat.zero_le _, hO.same (partG_all _)⟩).mono ?_
      rintro e w1 ⟨u1, rfl, hN, hb1⟩
      replace hb := hb.trans (hb1.mono hb.size)
      go_wp2_with fail
      refine (l17Runs_any u1 _ true _ (hN.less (Nat.zero_le _))).mono ?_
      rintro e w2 ⟨u2, rfl, hU, hb2⟩
      have hS := (Src.of hU).alloc (.cells #[] 80)
      obtain ⟨A, c2, rfl, hc2, hm, -⟩ := hU.form
      clear hU
      have hm' : (runsG (notG (unionG G H)) true).length ≤ 9223372036854775807 := by unfold maxLen at hm; omega
      have hs1 := hb.size
      have hs2 := hb2.size
      replace hb := hb.trans (hb2.mono hb.size)
      have r0 : RL (w2.alloc (.cells #[] 80)) w.heap.size (.slice (some ⟨w2.heap.size, 0, none⟩) 0 0) [] := row_empty w2 _ _ rfl hb.size
      have t0 := hb.alloc hb.size (.cells #[] 80)
      have o0 : OutB (.slice (some ⟨w2.heap.size, 0, none⟩) 0 0) w1.heap.size w2.heap.size := fun k hk => by
        simp [Value.ownBlock] at hk
        omega
      clear hb hb1 hb2 hN hO
      go_wp2
      go_loopw [10, 11] (fun ov iv wr => ∃ (k : Nat) (ps : List Rc), k ≤ (runsG (notG (unionG G H)) true).length ∧ iv = .int .i64 k ∧ RL wr w.heap.size ov ps ∧ Hid (ps = ((runsG (notG (unionG G H)) true).take k).filter (endsG G H true)) ∧ OutB ov w1.heap.size w2.heap.size ∧ Src wr w1.heap.size w2.heap.size (.slice A (runsG (notG (unionG G H)) true).length c2) (runsG (notG (unionG G H)) true) ∧ w2.heap.size ≤ wr.heap.size ∧ Below w.heap.size w wr) (fun _ iv _ => (runsG (notG (unionG G H)) true).length - (intOf iv).toNat)
      case atStart => exact ⟨0, [], Nat.zero_le _, rfl, r0, Lib.hid rfl, o0, hS, by simp, t0⟩
      case round =>
        obtain ⟨k, ps, hk, rfl, hR, hps, ho, hS1, hsz, hb⟩ := hrel
        clear r0 o0 hS t0
        by_cases hlt : k < (runsG (notG (unionG G H)) true).length
        · obtain ⟨g', x0, y0, x1, y1, rfl, hr, hg', f0, f1, f2, f3⟩ := hS1.elem hlt
          have hl3 : ps.length ≤ 1000000 := by
            rw [hps.out]
            exact Nat.le_trans (filter_len k Hlen.out) (by omega)
          have hrok := (okRc_iff _).1 (okAll_get Hok.out hr)
          dsimp only at hrok
          have Hr := Lib.hid hr
          by_cases hc : endsG G H true ⟨x0, y0, x1, y1⟩ = true
          · have Hn := Lib.hid (filter_yes hr hc)
            clear hr
            rw [ends_v] at hc
            have hc2 : (hasG G (x0) (y0 - 1) = true ∧ hasG H (x0) (y1) = true) ∨ ((hasG G (x0) (y0 - 1) = true ∧ hasG H (x0) (y1) = false) ∧ (hasG H (x0) (y0 - 1) = true ∧ hasG G (x0) (y1) = true)) ∨ (hasG G (x0) (y0 - 1) = false ∧ (hasG H (x0) (y0 - 1) = true ∧ hasG G (x0) (y1) = true)) := by
              revert hc
              cases hasG G (x0) (y0 - 1) <;> cases hasG H (x0) (y1) <;> cases hasG H (x0) (y0 - 1) <;> cases hasG G (x0) (y1) <;> simp
            clear hc
            rcases hc2 with ⟨ha, hb1⟩ | ⟨⟨ha, hb1⟩, hb0, ha0⟩ | ⟨ha, hb0, ha0⟩
            · go_wp2_with fail
              refine (l18Ends_v x0 y0 x1 y1 _ (by omega)).mono ?_
              rintro e w3 ⟨rfl, hb3⟩
              have t3 := hb.trans (hb3.mono hb.size)
              have zp := (Bk.new w3 175 #[.int .i64 (x0), .int .i64 (y0 - 1)]).alloc (.cells #[.int .i64 (x0), .int .i64 (y1)] 175)
              have zq := Bk.new (w3.alloc (.cells #[.int .i64 (x0), .int .i64 (y0 - 1)] 175)) 175 #[.int .i64 (x0), .int .i64 (y1)]
              have ez : (w3.alloc (.cells #[.int .i64 (x0), .int .i64 (y0 - 1)] 175)).heap.size = w3.heap.size + 1 := by simp
              rw [ez] at zq
              clear ez
              obtain ⟨p0, p1⟩ := box2 zp
              obtain ⟨q0, q1⟩ := box2 zq
              have t4 := (t3.alloc t3.size (.cells #[.int .i64 (x0), .int .i64 (y0 - 1)] 175)).alloc (by have := t3.size; simp; omega) (.cells #[.int .i64 (x0), .int .i64 (y1)] 175)
              have hG4 := hG'.on t4
              have hH4 := hH'.on t4
              have hS4 := ((hS1.on hb3).alloc (.cells #[.int .i64 (x0), .int .i64 (y0 - 1)] 175)).alloc (.cells #[.int .i64 (x0), .int .i64 (y1)] 175)
              obtain ⟨f0, f1, f2, f3⟩ := hS4.at4 Hr.out
              have HsW := Lib.hid (show ((w3.alloc (.cells #[.int .i64 (x0), .int .i64 (y0 - 1)] 175)).alloc (.cells #[.int .i64 (x0), .int .i64 (y1)] 175)).heap.size = w3.heap.size + 1 + 1 by simp)
              go_wp2_with fail
              refine (l17Cell_any _ _ _ _ _ hG4).mono ?_
              rintro e _ ⟨rfl, rfl⟩
              go_wp2_with fail
              refine (l17Cell_any _ _ _ _ _ hH4).mono ?_
              rintro e _ ⟨rfl, rfl⟩
              clear p0 p1 q0 q1 zp zq hG4 hH4
              have hR4 := ((hR.on hb3).alloc (.cells #[.int .i64 (x0), .int .i64 (y0 - 1)] 175)).alloc (.cells #[.int .i64 (x0), .int .i64 (y1)] 175)
              go_wp2_with (at_builtin; refine wpList_append_R_at rfl (.tmp 86) (.tmp 91) rfl w.heap.size _ ps rfl hR4 _ _ _ _ (by rw [HsW.out]; rfl) hl3 t4.size ?_)
              intro v1 w6 ho1 hg1 hb6 hat
              go_wp2
              have hsz3 := hb3.size
              have hsz6 := hg1.size
              rw [HsW.out] at hsz6
              exact ⟨⟨k + 1, _, by omega, by go_num, ho1, Lib.hid (by rw [hps.out, Hn.out]), ho.next (by have := HsW.out; omega) hat, hS4.kept ho hg1, by omega, t4.trans hb6⟩, by simp [intOf]; omega⟩
            · go_wp2_with fail
              refine (l18Ends_v x0 y0 x1 y1 _ (by omega)).mono ?_
              rintro e w3 ⟨rfl, hb3⟩
              have t3 := hb.trans (hb3.mono hb.size)
              have zp := (Bk.new w3 175 #[.int .i64 (x0), .int .i64 (y0 - 1)]).alloc (.cells #[.int .i64 (x0), .int .i64 (y1)] 175)
              have zq := Bk.new (w3.alloc (.cells #[.int .i64 (x0), .int .i64 (y0 - 1)] 175)) 175 #[.int .i64 (x0), .int .i64 (y1)]
              have ez : (w3.alloc (.cells #[.int .i64 (x0), .int .i64 (y0 - 1)] 175)).heap.size = w3.heap.size + 1 := by simp
              rw [ez] at zq
              clear ez
              obtain ⟨p0, p1⟩ := box2 zp
              obtain ⟨q0, q1⟩ := box2 zq
              have t4 := (t3.alloc t3.size (.cells #[.int .i64 (x0), .int .i64 (y0 - 1)] 175)).alloc (by have := t3.size; simp; omega) (.cells #[.int .i64 (x0), .int .i64 (y1)] 175)
              have hG4 := hG'.on t4
              have hH4 := hH'.on t4
              have hS4 := ((hS1.on hb3).alloc (.cells #[.int .i64 (x0), .int .i64 (y0 - 1)] 175)).alloc (.cells #[.int .i64 (x0), .int .i64 (y1)] 175)
              obtain ⟨f0, f1, f2, f3⟩ := hS4.at4 Hr.out
              have HsW := Lib.hid (show ((w3.alloc (.cells #[.int .i64 (x0), .int .i64 (y0 - 1)] 175)).alloc (.cells #[.int .i64 (x0), .int .i64 (y1)] 175)).heap.size = w3.heap.size + 1 + 1 by simp)
              go_wp2_with fail
              refine (l17Cell_any _ _ _ _ _ hG4).mono ?_
              rintro e _ ⟨rfl, rfl⟩
              go_wp2_with fail
              refine (l17Cell_any _ _ _ _ _ hH4).mono ?_
              rintro e _ ⟨rfl, rfl⟩
              go_wp2_with fail
              refine (l17Cell_any _ _ _ _ _ hH4).mono ?_
              rintro e _ ⟨rfl, rfl⟩
              go_wp2_with fail
              refine (l17Cell_any _ _ _ _ _ hG4).mono ?_
              rintro e _ ⟨rfl, rfl⟩
              clear p0 p1 q0 q1 zp zq hG4 hH4
              have hR4 := ((hR.on hb3).alloc (.cells #[.int .i64 (x0), .int .i64 (y0 - 1)] 175)).alloc (.cells #[.int .i64 (x0), .int .i64 (y1)] 175)
              go_wp2_with (at_builtin; refine wpList_append_R_at rfl (.tmp 86) (.tmp 91) rfl w.heap.size _ ps rfl hR4 _ _ _ _ (by rw [HsW.out]; rfl) hl3 t4.size ?_)
              intro v1 w6 ho1 hg1 hb6 hat
              go_wp2
              have hsz3 := hb3.size
              have hsz6 := hg1.size
              rw [HsW.out] at hsz6
              exact ⟨⟨k + 1, _, by omega, by go_num, ho1, Lib.hid (by rw [hps.out, Hn.out]), ho.next (by have := HsW.out; omega) hat, hS4.kept ho hg1, by omega, t4.trans hb6⟩, by simp [intOf]; omega⟩
            · go_wp2_with fail
              refine (l18Ends_v x0 y0 x1 y1 _ (by omega)).mono ?_
              rintro e w3 ⟨rfl, hb3⟩
              have t3 := hb.trans (hb3.mono hb.size)
              have zp := (Bk.new w3 175 #[.int .i64 (x0), .int .i64 (y0 - 1)]).alloc (.cells #[.int .i64 (x0), .int .i64 (y1)] 175)
              have zq := Bk.new (w3.alloc (.cells #[.int .i64 (x0), .int .i64 (y0 - 1)] 175)) 175 #[.int .i64 (x0), .int .i64 (y1)]
              have ez : (w3.alloc (.cells #[.int .i64 (x0), .int .i64 (y0 - 1)] 175)).heap.size = w3.heap.size + 1 := by simp
              rw [ez] at zq
              clear ez
              obtain ⟨p0, p1⟩ := box2 zp
              obtain ⟨q0, q1⟩ := box2 zq
              have t4 := (t3.alloc t3.size (.cells #[.int .i64 (x0), .int .i64 (y0 - 1)] 175)).alloc (by have := t3.size; simp; omega) (.cells #[.int .i64 (x0), .int .i64 (y1)] 175)
              have hG4 := hG'.on t4
              have hH4 := hH'.on t4
              have hS4 := ((hS1.on hb3).alloc (.cells #[.int .i64 (x0), .int .i64 (y0 - 1)] 175)).alloc (.cells #[.int .i64 (x0), .int .i64 (y1)] 175)
              obtain ⟨f0, f1, f2, f3⟩ := hS4.at4 Hr.out
              have HsW := Lib.hid (show ((w3.alloc (.cells #[.int .i64 (x0), .int .i64 (y0 - 1)] 175)).alloc (.cells #[.int .i64 (x0), .int .i64 (y1)] 175)).heap.size = w3.heap.size + 1 + 1 by simp)
              go_wp2_with fail
              refine (l17Cell_any _ _ _ _ _ hG4).mono ?_
              rintro e _ ⟨rfl, rfl⟩
              go_wp2_with fail
              refine (l17Cell_any _ _ _ _ _ hH4).mono ?_
              rintro e _ ⟨rfl, rfl⟩
              go_wp2_with fail
              refine (l17Cell_any _ _ _ _ _ hG4).mono ?_
              rintro e _ ⟨rfl, rfl⟩
              clear p0 p1 q0 q1 zp zq hG4 hH4
              have hR4 := ((hR.on hb3).alloc (.cells #[.int .i64 (x0), .int .i64 (y0 - 1)] 175)).alloc (.cells #[.int .i64 (x0), .int .i64 (y1)] 175)
              go_wp2_with (at_builtin; refine wpList_append_R_at rfl (.tmp 86) (.tmp 91) rfl w.heap.size _ ps rfl hR4 _ _ _ _ (by rw [HsW.out]; rfl) hl3 t4.size ?_)
              intro v1 w6 ho1 hg1 hb6 hat
              go_wp2
              have hsz3 := hb3.size
              have hsz6 := hg1.size
              rw [HsW.out] at hsz6
              exact ⟨⟨k + 1, _, by omega, by go_num, ho1, Lib.hid (by rw [hps.out, Hn.out]), ho.next (by have := HsW.out; omega) hat, hS4.kept ho hg1, by omega, t4.trans hb6⟩, by simp [intOf]; omega⟩
          · have hcn : endsG G H true ⟨x0, y0, x1, y1⟩ = false := by simpa using hc
            have Hn := Lib.hid (filter_no hr hcn)
            clear hr hc
            rw [ends_v] at hcn
            have hc2 : ((hasG G (x0) (y0 - 1) = true ∧ hasG H (x0) (y1) = false) ∧ (hasG H (x0) (y0 - 1) = true ∧ hasG G (x0) (y1) = false)) ∨ ((hasG G (x0) (y0 - 1) = true ∧ hasG H (x0) (y1) = false) ∧ hasG H (x0) (y0 - 1) = false) ∨ (hasG G (x0) (y0 - 1) = false ∧ (hasG H (x0) (y0 - 1) = true ∧ hasG G (x0) (y1) = false)) ∨ (hasG G (x0) (y0 - 1) = false ∧ hasG H (x0) (y0 - 1) = false) := by
              revert hcn
              cases hasG G (x0) (y0 - 1) <;> cases hasG H (x0) (y1) <;> cases hasG H (x0) (y0 - 1) <;> cases hasG G (x0) (y1) <;> simp
            clear hcn
            rcases hc2 with ⟨⟨ha, hb1⟩, hb0, ha0⟩ | ⟨⟨ha, hb1⟩, hb0⟩ | ⟨ha, hb0, ha0⟩ | ⟨ha, hb0⟩
            · go_wp2_with fail
              refine (l18Ends_v x0 y0 x1 y1 _ (by omega)).mono ?_
              rintro e w3 ⟨rfl, hb3⟩
              have t3 := hb.trans (hb3.mono hb.size)
              have zp := (Bk.new w3 175 #[.int .i64 (x0), .int .i64 (y0 - 1)]).alloc (.cells #[.int .i64 (x0), .int .i64 (y1)] 175)
              have zq := Bk.new (w3.alloc (.cells #[.int .i64 (x0), .int .i64 (y0 - 1)] 175)) 175 #[.int .i64 (x0), .int .i64 (y1)]
              have ez : (w3.alloc (.cells #[.int .i64 (x0), .int .i64 (y0 - 1)] 175)).heap.size = w3.heap.size + 1 := by simp
              rw [ez] at zq
              clear ez
              obtain ⟨p0, p1⟩ := box2 zp
              obtain ⟨q0, q1⟩ := box2 zq
              have t4 := (t3.alloc t3.size (.cells #[.int .i64 (x0), .int .i64 (y0 - 1)] 175)).alloc (by have := t3.size; simp; omega) (.cells #[.int .i64 (x0), .int .i64 (y1)] 175)
              have hG4 := hG'.on t4
              have hH4 := hH'.on t4
              go_wp2_with fail
              refine (l17Cell_any _ _ _ _ _ hG4).mono ?_
              rintro e _ ⟨rfl, rfl⟩
              go_wp2_with fail
              refine (l17Cell_any _ _ _ _ _ hH4).mono ?_
              rintro e _ ⟨rfl, rfl⟩
              go_wp2_with fail
              refine (l17Cell_any _ _ _ _ _ hH4).mono ?_
              rintro e _ ⟨rfl, rfl⟩
              go_wp2_with fail
              refine (l17Cell_any _ _ _ _ _ hG4).mono ?_
              rintro e _ ⟨rfl, rfl⟩
              clear p0 p1 q0 q1 zp zq hG4 hH4
              go_wp2
              have hsz3 := hb3.size
              exact ⟨⟨k + 1, _, by omega, by go_num, ((hR.on hb3).alloc (.cells #[.int .i64 (x0), .int .i64 (y0 - 1)] 175)).alloc (.cells #[.int .i64 (x0), .int .i64 (y1)] 175), Lib.hid (hps.out.trans Hn.out.symm), ho, ((hS1.on hb3).alloc (.cells #[.int .i64 (x0), .int .i64 (y0 - 1)] 175)).alloc (.cells #[.int .i64 (x0), .int .i64 (y1)] 175), by simp; omega, t4⟩, by simp [intOf]; omega⟩
            · go_wp2_with fail
              refine (l18Ends_v x0 y0 x1 y1 _ (by omega)).mono ?_
              rintro e w3 ⟨rfl, hb3⟩
              have t3 := hb.trans (hb3.mono hb.size)
              have zp := (Bk.new w3 175 #[.int .i64 (x0), .int .i64 (y0 - 1)]).alloc (.cells #[.int .i64 (x0), .int .i64 (y1)] 175)
              have zq := Bk.new (w3.alloc (.cells #[.int .i64 (x0), .int .i64 (y0 - 1)] 175)) 175 #[.int .i64 (x0), .int .i64 (y1)]
              have ez : (w3.alloc (.cells #[.int .i64 (x0), .int .i64 (y0 - 1)] 175)).heap.size = w3.heap.size + 1 := by simp
              rw [ez] at zq
              clear ez
              obtain ⟨p0, p1⟩ := box2 zp
              obtain ⟨q0, q1⟩ := box2 zq
              have t4 := (t3.alloc t3.size (.cells #[.int .i64 (x0), .int .i64 (y0 - 1)] 175)).alloc (by have := t3.size; simp; omega) (.cells #[.int .i64 (x0), .int .i64 (y1)] 175)
              have hG4 := hG'.on t4
              have hH4 := hH'.on t4
              go_wp2_with fail
              refine (l17Cell_any _ _ _ _ _ hG4).mono ?_
              rintro e _ ⟨rfl, rfl⟩
              go_wp2_with fail
              refine (l17Cell_any _ _ _ _ _ hH4).mono ?_
              rintro e _ ⟨rfl, rfl⟩
              go_wp2_with fail
              refine (l17Cell_any _ _ _ _ _ hH4).mono ?_
              rintro e _ ⟨rfl, rfl⟩
              clear p0 p1 q0 q1 zp zq hG4 hH4
              go_wp2
              have hsz3 := hb3.size
              exact ⟨⟨k + 1, _, by omega, by go_num, ((hR.on hb3).alloc (.cells #[.int .i64 (x0), .int .i64 (y0 - 1)] 175)).alloc (.cells #[.int .i64 (x0), .int .i64 (y1)] 175), Lib.hid (hps.out.trans Hn.out.symm), ho, ((hS1.on hb3).alloc (.cells #[.int .i64 (x0), .int .i64 (y0 - 1)] 175)).alloc (.cells #[.int .i64 (x0), .int .i64 (y1)] 175), by simp; omega, t4⟩, by simp [intOf]; omega⟩
            · go_wp2_with fail
              refine (l18Ends_v x0 y0 x1 y1 _ (by omega)).mono ?_
              rintro e w3 ⟨rfl, hb3⟩
              have t3 := hb.trans (hb3.mono hb.size)
              have zp := (Bk.new w3 175 #[.int .i64 (x0), .int .i64 (y0 - 1)]).alloc (.cells #[.int .i64 (x0), .int .i64 (y1)] 175)
              have zq := Bk.new (w3.alloc (.cells #[.int .i64 (x0), .int .i64 (y0 - 1)] 175)) 175 #[.int .i64 (x0), .int .i64 (y1)]
              have ez : (w3.alloc (.cells #[.int .i64 (x0), .int .i64 (y0 - 1)] 175)).heap.size = w3.heap.size + 1 := by simp
              rw [ez] at zq
              clear ez
              obtain ⟨p0, p1⟩ := box2 zp
              obtain ⟨q0, q1⟩ := box2 zq
              have t4 := (t3.alloc t3.size (.cells #[.int .i64 (x0), .int .i64 (y0 - 1)] 175)).alloc (by have := t3.size; simp; omega) (.cells #[.int .i64 (x0), .int .i64 (y1)] 175)
              have hG4 := hG'.on t4
              have hH4 := hH'.on t4
              go_wp2_with fail
              refine (l17Cell_any _ _ _ _ _ hG4).mono ?_
              rintro e _ ⟨rfl, rfl⟩
              go_wp2_with fail
              refine (l17Cell_any _ _ _ _ _ hH4).mono ?_
              rintro e _ ⟨rfl, rfl⟩
              go_wp2_with fail
              refine (l17Cell_any _ _ _ _ _ hG4).mono ?_
              rintro e _ ⟨rfl, rfl⟩
              clear p0 p1 q0 q1 zp zq hG4 hH4
              go_wp2
              have hsz3 := hb3.size
              exact ⟨⟨k + 1, _, by omega, by go_num, ((hR.on hb3).alloc (.cells #[.int .i64 (x0), .int .i64 (y0 - 1)] 175)).alloc (.cells #[.int .i64 (x0), .int .i64 (y1)] 175), Lib.hid (hps.out.trans Hn.out.symm), ho, ((hS1.on hb3).alloc (.cells #[.int .i64 (x0), .int .i64 (y0 - 1)] 175)).alloc (.cells #[.int .i64 (x0), .int .i64 (y1)] 175), by simp; omega, t4⟩, by simp [intOf]; omega⟩
            · go_wp2_with fail
              refine (l18Ends_v x0 y0 x1 y1 _ (by omega)).mono ?_
              rintro e w3 ⟨rfl, hb3⟩
              have t3 := hb.trans (hb3.mono hb.size)
              have zp := (Bk.new w3 175 #[.int .i64 (x0), .int .i64 (y0 - 1)]).alloc (.cells #[.int .i64 (x0), .int .i64 (y1)] 175)
              have zq := Bk.new (w3.alloc (.cells #[.int .i64 (x0), .int .i64 (y0 - 1)] 175)) 175 #[.int .i64 (x0), .int .i64 (y1)]
              have ez : (w3.alloc (.cells #[.int .i64 (x0), .int .i64 (y0 - 1)] 175)).heap.size = w3.heap.size + 1 := by simp
              rw [ez] at zq
              clear ez
              obtain ⟨p0, p1⟩ := box2 zp
              obtain ⟨q0, q1⟩ := box2 zq
              have t4 := (t3.alloc t3.size (.cells #[.int .i64 (x0), .int .i64 (y0 - 1)] 175)).alloc (by have := t3.size; simp; omega) (.cells #[.int .i64 (x0), .int .i64 (y1)] 175)
              have hG4 := hG'.on t4
              have hH4 := hH'.on t4
              go_wp2_with fail
              refine (l17Cell_any _ _ _ _ _ hG4).mono ?_
              rintro e _ ⟨rfl, rfl⟩
              go_wp2_with fail
              refine (l17Cell_any _ _ _ _ _ hH4).mono ?_
              rintro e _ ⟨rfl, rfl⟩
              clear p0 p1 q0 q1 zp zq hG4 hH4
              go_wp2
              have hsz3 := hb3.size
              exact ⟨⟨k + 1, _, by omega, by go_num, ((hR.on hb3).alloc (.cells #[.int .i64 (x0), .int .i64 (y0 - 1)] 175)).alloc (.cells #[.int .i64 (x0), .int .i64 (y1)] 175), Lib.hid (hps.out.trans Hn.out.symm), ho, ((hS1.on hb3).alloc (.cells #[.int .i64 (x0), .int .i64 (y0 - 1)] 175)).alloc (.cells #[.int .i64 (x0), .int .i64 (y1)] 175), by simp; omega, t4⟩, by simp [intOf]; omega⟩
        · have he := Lib.hid (hps.out.trans (filter_all (by omega)))
          go_wp2
          go_ret
          refine ⟨_, rfl, ?_, hb⟩
          rw [he.out] at hR
          exact hR

theorem ends_h (G H : Gr) (x0 y0 x1 y1 : Int) : endsG G H false ⟨x0, y0, x1, y1⟩ = ((hasG G (x0 - 1) (y0) && hasG H (x1) (y0)) || (hasG H (x0 - 1) (y0) && hasG G (x1) (y0))) := rfl

set_option maxHeartbeats 3200000 in
set_option maxRecDepth 100000 in
theorem between_h (v u : Value) (G H : Gr) (w : World) (hG : GS w 0 v G) (hH : GS w 0 u H) : Calls Tryz.prog 157 #[v, u, .bool false] w fun e w' => ∃ z, e = .returned z ∧ RL w' w.heap.size z (btwG G H false) ∧ Below w.heap.size w w' := by
  have Hlen := Lib.hid (runsG_length (notG (unionG G H)) false)
  have Hok := Lib.hid (runsG_ok (notG (unionG G H)) false)
  have hG' := hG
  have hH' := hH
  obtain ⟨g, c, rfl, -, hg⟩ := hG
  obtain ⟨h, d, rfl, -, hh⟩ := hH
  have hgl := hg.lt
  have hhl := hh.lt
  have hmk := run_make_6400
  have g0 := GB.made w 4
  have hg0 := hg.alloc (.cells noCells 4)
  have hh0 := hh.alloc (.cells noCells 4)
  have b0 : Below w.heap.size w (w.alloc (.cells noCells 4)) := (Below.refl _ _).alloc (Nat.le_refl _) _
  go_enter Tryz.func157, Tryz.ntmps157
  go_wp2
  clear hmk
  go_loopw [8] (fun iv wr => ∃ i : Nat, i ≤ 6400 ∧ iv = .int .i64 i ∧ GB wr w.heap.size 4 (partG (unionG G H) i) ∧ GB wr g 4 G ∧ GB wr h 4 H ∧ Below w.heap.size w wr) (fun iv _ => 6400 - (intOf iv).toNat)
  case atStart => exact ⟨0, by omega, rfl, by rw [partG_zero]; exact g0, hg0, hh0, b0⟩
  case round =>
    obtain ⟨i, hi, rfl, hO, hG1, hH1, hb⟩ := hrel
    clear g0 hg0 hh0 b0
    by_cases hlt : i < 6400
    · have hi0 : (0 : Int) ≤ (i : Int) ∧ (i : Int) < 6400 := by omega
      have cx := hG1.cell hlt
      have cy := hH1.cell hlt
      have co := hO.cell hlt
      have hz := hO.frozen i
      have hst := hO.store hlt (unionG G H i)
      rw [partG_step] at hst
      have Hst := Lib.hid hst
      clear hst hG' hH'
      by_cases hb0 : G i = true
      · have hd : unionG G H i = true := by unfold unionG; rw [hb0]; rfl
        rw [hd] at Hst
        rw [hb0] at cx
        clear hd hb0
        go_wp2
        exact ⟨⟨i + 1, by omega, by go_num, Hst.out, hG1.other (p := ⟨w.heap.size, _, none⟩) (show g ≠ w.heap.size by omega) _, hH1.other (p := ⟨w.heap.size, _, none⟩) (show h ≠ w.heap.size by omega) _, hb.setCell (p := ⟨w.heap.size, _, none⟩) (Nat.le_refl _) _⟩, by simp [intOf]; omega⟩
      · have hb1 : G i = false := by simpa using hb0
        have hd : unionG G H i = H i := by unfold unionG; rw [hb1]; rfl
        rw [hd] at Hst
        rw [hb1] at cx
        clear hd hb0 hb1
        go_wp2
        exact ⟨⟨i + 1, by omega, by go_num, Hst.out, hG1.other (p := ⟨w.heap.size, _, none⟩) (show g ≠ w.heap.size by omega) _, hH1.other (p := ⟨w.heap.size, _, none⟩) (show h ≠ w.heap.size by omega) _, hb.setCell (p := ⟨w.heap.size, _, none⟩) (Nat.le_refl _) _⟩, by simp [intOf]; omega⟩
    · have hie : i = 6400 := by omega
      rw [hie] at hO
      clear hG1 hH1
      go_wp2_with fail
      refine (l18Outside_any _ _ _ ⟨w.heap.size, _, rfl, Nat.zero_le _, hO.same (partG_all _)⟩).mono ?_
      rintro e w1 ⟨u1, rfl, hN, hb1⟩
      replace hb := hb.trans (hb1.mono hb.size)
      go_wp2_with fail
      refine (l17Runs_any u1 _ false _ (hN.less (Nat.zero_le _))).mono ?_
      rintro e w2 ⟨u2, rfl, hU, hb2⟩
      have hS := (Src.of hU).alloc (.cells #[] 80)
      obtain ⟨A, c2, rfl, hc2, hm, -⟩ := hU.form
      clear hU
      have hm' : (runsG (notG (unionG G H)) false).length ≤ 9223372036854775807 := by unfold maxLen at hm; omega
      have hs1 := hb.size
      have hs2 := hb2.size
      replace hb := hb.trans (hb2.mono hb.size)
      have r0 : RL (w2.alloc (.cells #[] 80)) w.heap.size (.slice (some ⟨w2.heap.size, 0, none⟩) 0 0) [] := row_empty w2 _ _ rfl hb.size
      have t0 := hb.alloc hb.size (.cells #[] 80)
      have o0 : OutB (.slice (some ⟨w2.heap.size, 0, none⟩) 0 0) w1.heap.size w2.heap.size := fun k hk => by
        simp [Value.ownBlock] at hk
        omega
      clear hb hb1 hb2 hN hO
      go_wp2
      go_loopw [10, 11] (fun ov iv wr => ∃ (k : Nat) (ps : List Rc), k ≤ (runsG (notG (unionG G H)) false).length ∧ iv = .int .i64 k ∧ RL wr w.heap.size ov ps ∧ Hid (ps = ((runsG (notG (unionG G H)) false).take k).filter (endsG G H false)) ∧ OutB ov w1.heap.size w2.heap.size ∧ Src wr w1.heap.size w2.heap.size (.slice A (runsG (notG (unionG G H)) false).length c2) (runsG (notG (unionG G H)) false) ∧ w2.heap.size ≤ wr.heap.size ∧ Below w.heap.size w wr) (fun _ iv _ => (runsG (notG (unionG G H)) false).length - (intOf iv).toNat)
      case atStart => exact ⟨0, [], Nat.zero_le _, rfl, r0, Lib.hid rfl, o0, hS, by simp, t0⟩
      case round =>
        obtain ⟨k, ps, hk, rfl, hR, hps, ho, hS1, hsz, hb⟩ := hrel
        clear r0 o0 hS t0
        by_cases hlt : k < (runsG (notG (unionG G H)) false).length
        · obtain ⟨g', x0, y0, x1, y1, rfl, hr, hg', f0, f1, f2, f3⟩ := hS1.elem hlt
          have hl3 : ps.length ≤ 1000000 := by
            rw [hps.out]
            exact Nat.le_trans (filter_len k Hlen.out) (by omega)
          have hrok := (okRc_iff _).1 (okAll_get Hok.out hr)
          dsimp only at hrok
          have Hr := Lib.hid hr
          by_cases hc : endsG G H false ⟨x0, y0, x1, y1⟩ = true
          · have Hn := Lib.hid (filter_yes hr hc)
            clear hr
            rw [ends_h] at hc
            have hc2 : (hasG G (x0 - 1) (y0) = true ∧ hasG H (x1) (y0) = true) ∨ ((hasG G (x0 - 1) (y0) = true ∧ hasG H (x1) (y0) = false) ∧ (hasG H (x0 - 1) (y0) = true ∧ hasG G (x1) (y0) = true)) ∨ (hasG G (x0 - 1) (y0) = false ∧ (hasG H (x0 - 1) (y0) = true ∧ hasG G (x1) (y0) = true)) := by
              revert hc
              cases hasG G (x0 - 1) (y0) <;> cases hasG H (x1) (y0) <;> cases hasG H (x0 - 1) (y0) <;> cases hasG G (x1) (y0) <;> simp
            clear hc
            rcases hc2 with ⟨ha, hb1⟩ | ⟨⟨ha, hb1⟩, hb0, ha0⟩ | ⟨ha, hb0, ha0⟩
            · go_wp2_with fail
              refine (l18Ends_h x0 y0 x1 y1 _ (by omega)).mono ?_
              rintro e w3 ⟨rfl, hb3⟩
              have t3 := hb.trans (hb3.mono hb.size)
              have zp := (Bk.new w3 175 #[.int .i64 (x0 - 1), .int .i64 (y0)]).alloc (.cells #[.int .i64 (x1), .int .i64 (y0)] 175)
              have zq := Bk.new (w3.alloc (.cells #[.int .i64 (x0 - 1), .int .i64 (y0)] 175)) 175 #[.int .i64 (x1), .int .i64 (y0)]
              have ez : (w3.alloc (.cells #[.int .i64 (x0 - 1), .int .i64 (y0)] 175)).heap.size = w3.heap.size + 1 := by simp
              rw [ez] at zq
              clear ez
              obtain ⟨p0, p1⟩ := box2 zp
              obtain ⟨q0, q1⟩ := box2 zq
              have t4 := (t3.alloc t3.size (.cells #[.int .i64 (x0 - 1), .int .i64 (y0)] 175)).alloc (by have := t3.size; simp; omega) (.cells #[.int .i64 (x1), .int .i64 (y0)] 175)
              have hG4 := hG'.on t4
              have hH4 := hH'.on t4
              have hS4 := ((hS1.on hb3).alloc (.cells #[.int .i64 (x0 - 1), .int .i64 (y0)] 175)).alloc (.cells #[.int .i64 (x1), .int .i64 (y0)] 175)
              obtain ⟨f0, f1, f2, f3⟩ := hS4.at4 Hr.out
              have HsW := Lib.hid (show ((w3.alloc (.cells #[.int .i64 (x0 - 1), .int .i64 (y0)] 175)).alloc (.cells #[.int .i64 (x1), .int .i64 (y0)] 175)).heap.size = w3.heap.size + 1 + 1 by simp)
              go_wp2_with fail
              refine (l17Cell_any _ _ _ _ _ hG4).mono ?_
              rintro e _ ⟨rfl, rfl⟩
              go_wp2_with fail
              refine (l17Cell_any _ _ _ _ _ hH4).mono ?_
              rintro e _ ⟨rfl, rfl⟩
              clear p0 p1 q0 q1 zp zq hG4 hH4
              have hR4 := ((hR.on hb3).alloc (.cells #[.int .i64 (x0 - 1), .int .i64 (y0)] 175)).alloc (.cells #[.int .i64 (x1), .int .i64 (y0)] 175)
              go_wp2_with (at_builtin; refine wpList_append_R_at rfl (.tmp 86) (.tmp 91) rfl w.heap.size _ ps rfl hR4 _ _ _ _ (by rw [HsW.out]; rfl) hl3 t4.size ?_)
              intro v1 w6 ho1 hg1 hb6 hat
              go_wp2
              have hsz3 := hb3.size
              have hsz6 := hg1.size
              rw [HsW.out] at hsz6
              exact ⟨⟨k + 1, _, by omega, by go_num, ho1, Lib.hid (by rw [hps.out, Hn.out]), ho.next (by have := HsW.out; omega) hat, hS4.kept ho hg1, by omega, t4.trans hb6⟩, by simp [intOf]; omega⟩
            · go_wp2_with fail
              refine (l18Ends_h x0 y0 x1 y1 _ (by omega)).mono ?_
              rintro e w3 ⟨rfl, hb3⟩
              have t3 := hb.trans (hb3.mono hb.size)
              have zp := (Bk.new w3 175 #[.int .i64 (x0 - 1), .int .i64 (y0)]).alloc (.cells #[.int .i64 (x1), .int .i64 (y0)] 175)
              have zq := Bk.new (w3.alloc (.cells #[.int .i64 (x0 - 1), .int .i64 (y0)] 175)) 175 #[.int .i64 (x1), .int .i64 (y0)]
              have ez : (w3.alloc (.cells #[.int .i64 (x0 - 1), .int .i64 (y0)] 175)).heap.size = w3.heap.size + 1 := by simp
              rw [ez] at zq
              clear ez
              obtain ⟨p0, p1⟩ := box2 zp
              obtain ⟨q0, q1⟩ := box2 zq
              have t4 := (t3.alloc t3.size (.cells #[.int .i64 (x0 - 1), .int .i64 (y0)] 175)).alloc (by have := t3.size; simp; omega) (.cells #[.int .i64 (x1), .int .i64 (y0)] 175)
              have hG4 := hG'.on t4
              have hH4 := hH'.on t4
              have hS4 := ((hS1.on hb3).alloc (.cells #[.int .i64 (x0 - 1), .int .i64 (y0)] 175)).alloc (.cells #[.int .i64 (x1), .int .i64 (y0)] 175)
              obtain ⟨f0, f1, f2, f3⟩ := hS4.at4 Hr.out
              have HsW := Lib.hid (show ((w3.alloc (.cells #[.int .i64 (x0 - 1), .int .i64 (y0)] 175)).alloc (.cells #[.int .i64 (x1), .int .i64 (y0)] 175)).heap.size = w3.heap.size + 1 + 1 by simp)
              go_wp2_with fail
              refine (l17Cell_any _ _ _ _ _ hG4).mono ?_
              rintro e _ ⟨rfl, rfl⟩
              go_wp2_with fail
              refine (l17Cell_any _ _ _ _ _ hH4).mono ?_
              rintro e _ ⟨rfl, rfl⟩
              go_wp2_with fail
              refine (l17Cell_any _ _ _ _ _ hH4).mono ?_
              rintro e _ ⟨rfl, rfl⟩
              go_wp2_with fail
              refine (l17Cell_any _ _ _ _ _ hG4).mono ?_
              rintro e _ ⟨rfl, rfl⟩
              clear p0 p1 q0 q1 zp zq hG4 hH4
              have hR4 := ((hR.on hb3).alloc (.cells #[.int .i64 (x0 - 1), .int .i64 (y0)] 175)).alloc (.cells #[.int .i64 (x1), .int .i64 (y0)] 175)
              go_wp2_with (at_builtin; refine wpList_append_R_at rfl (.tmp 86) (.tmp 91) rfl w.heap.size _ ps rfl hR4 _ _ _ _ (by rw [HsW.out]; rfl) hl3 t4.size ?_)
              intro v1 w6 ho1 hg1 hb6 hat
              go_wp2
              have hsz3 := hb3.size
              have hsz6 := hg1.size
              rw [HsW.out] at hsz6
              exact ⟨⟨k + 1, _, by omega, by go_num, ho1, Lib.hid (by rw [hps.out, Hn.out]), ho.next (by have := HsW.out; omega) hat, hS4.kept ho hg1, by omega, t4.trans hb6⟩, by simp [intOf]; omega⟩
            · go_wp2_with fail
              refine (l18Ends_h x0 y0 x1 y1 _ (by omega)).mono ?_
              rintro e w3 ⟨rfl, hb3⟩
              have t3 := hb.trans (hb3.mono hb.size)
              have zp := (Bk.new w3 175 #[.int .i64 (x0 - 1), .int .i64 (y0)]).alloc (.cells #[.int .i64 (x1), .int .i64 (y0)] 175)
              have zq := Bk.new (w3.alloc (.cells #[.int .i64 (x0 - 1), .int .i64 (y0)] 175)) 175 #[.int .i64 (x1), .int .i64 (y0)]
              have ez : (w3.alloc (.cells #[.int .i64 (x0 - 1), .int .i64 (y0)] 175)).heap.size = w3.heap.size + 1 := by simp
              rw [ez] at zq
              clear ez
              obtain ⟨p0, p1⟩ := box2 zp
              obtain ⟨q0, q1⟩ := box2 zq
              have t4 := (t3.alloc t3.size (.cells #[.int .i64 (x0 - 1), .int .i64 (y0)] 175)).alloc (by have := t3.size; simp; omega) (.cells #[.int .i64 (x1), .int .i64 (y0)] 175)
              have hG4 := hG'.on t4
              have hH4 := hH'.on t4
              have hS4 := ((hS1.on hb3).alloc (.cells #[.int .i64 (x0 - 1), .int .i64 (y0)] 175)).alloc (.cells #[.int .i64 (x1), .int .i64 (y0)] 175)
              obtain ⟨f0, f1, f2, f3⟩ := hS4.at4 Hr.out
              have HsW := Lib.hid (show ((w3.alloc (.cells #[.int .i64 (x0 - 1), .int .i64 (y0)] 175)).alloc (.cells #[.int .i64 (x1), .int .i64 (y0)] 175)).heap.size = w3.heap.size + 1 + 1 by simp)
              go_wp2_with fail
              refine (l17Cell_any _ _ _ _ _ hG4).mono ?_
              rintro e _ ⟨rfl, rfl⟩
              go_wp2_with fail
              refine (l17Cell_any _ _ _ _ _ hH4).mono ?_
              rintro e _ ⟨rfl, rfl⟩
              go_wp2_with fail
              refine (l17Cell_any _ _ _ _ _ hG4).mono ?_
              rintro e _ ⟨rfl, rfl⟩
              clear p0 p1 q0 q1 zp zq hG4 hH4
              have hR4 := ((hR.on hb3).alloc (.cells #[.int .i64 (x0 - 1), .int .i64 (y0)] 175)).alloc (.cells #[.int .i64 (x1), .int .i64 (y0)] 175)
              go_wp2_with (at_builtin; refine wpList_append_R_at rfl (.tmp 86) (.tmp 91) rfl w.heap.size _ ps rfl hR4 _ _ _ _ (by rw [HsW.out]; rfl) hl3 t4.size ?_)
              intro v1 w6 ho1 hg1 hb6 hat
              go_wp2
              have hsz3 := hb3.size
              have hsz6 := hg1.size
              rw [HsW.out] at hsz6
              exact ⟨⟨k + 1, _, by omega, by go_num, ho1, Lib.hid (by rw [hps.out, Hn.out]), ho.next (by have := HsW.out; omega) hat, hS4.kept ho hg1, by omega, t4.trans hb6⟩, by simp [intOf]; omega⟩
          · have hcn : endsG G H false ⟨x0, y0, x1, y1⟩ = false := by simpa using hc
            have Hn := Lib.hid (filter_no hr hcn)
            clear hr hc
            rw [ends_h] at hcn
            have hc2 : ((hasG G (x0 - 1) (y0) = true ∧ hasG H (x1) (y0) = false) ∧ (hasG H (x0 - 1) (y0) = true ∧ hasG G (x1) (y0) = false)) ∨ ((hasG G (x0 - 1) (y0) = true ∧ hasG H (x1) (y0) = false) ∧ hasG H (x0 - 1) (y0) = false) ∨ (hasG G (x0 - 1) (y0) = false ∧ (hasG H (x0 - 1) (y0) = true ∧ hasG G (x1) (y0) = false)) ∨ (hasG G (x0 - 1) (y0) = false ∧ hasG H (x0 - 1) (y0) = false) := by
              revert hcn
              cases hasG G (x0 - 1) (y0) <;> cases hasG H (x1) (y0) <;> cases hasG H (x0 - 1) (y0) <;> cases hasG G (x1) (y0) <;> simp
            clear hcn
            rcases hc2 with ⟨⟨ha, hb1⟩, hb0, ha0⟩ | ⟨⟨ha, hb1⟩, hb0⟩ | ⟨ha, hb0, ha0⟩ | ⟨ha, hb0⟩
            · go_wp2_with fail
              refine (l18Ends_h x0 y0 x1 y1 _ (by omega)).mono ?_
              rintro e w3 ⟨rfl, hb3⟩
              have t3 := hb.trans (hb3.mono hb.size)
              have zp := (Bk.new w3 175 #[.int .i64 (x0 - 1), .int .i64 (y0)]).alloc (.cells #[.int .i64 (x1), .int .i64 (y0)] 175)
              have zq := Bk.new (w3.alloc (.cells #[.int .i64 (x0 - 1), .int .i64 (y0)] 175)) 175 #[.int .i64 (x1), .int .i64 (y0)]
              have ez : (w3.alloc (.cells #[.int .i64 (x0 - 1), .int .i64 (y0)] 175)).heap.size = w3.heap.size + 1 := by simp
              rw [ez] at zq
              clear ez
              obtain ⟨p0, p1⟩ := box2 zp
              obtain ⟨q0, q1⟩ := box2 zq
              have t4 := (t3.alloc t3.size (.cells #[.int .i64 (x0 - 1), .int .i64 (y0)] 175)).alloc (by have := t3.size; simp; omega) (.cells #[.int .i64 (x1), .int .i64 (y0)] 175)
              have hG4 := hG'.on t4
              have hH4 := hH'.on t4
              go_wp2_with fail
              refine (l17Cell_any _ _ _ _ _ hG4).mono ?_
              rintro e _ ⟨rfl, rfl⟩
              go_wp2_with fail
              refine (l17Cell_any _ _ _ _ _ hH4).mono ?_
              rintro e _ ⟨rfl, rfl⟩
              go_wp2_with fail
              refine (l17Cell_any _ _ _ _ _ hH4).mono ?_
              rintro e _ ⟨rfl, rfl⟩
              go_wp2_with fail
              refine (l17Cell_any _ _ _ _ _ hG4).mono ?_
              rintro e _ ⟨rfl, rfl⟩
              clear p0 p1 q0 q1 zp zq hG4 hH4
              go_wp2
              have hsz3 := hb3.size
              exact ⟨⟨k + 1, _, by omega, by go_num, ((hR.on hb3).alloc (.cells #[.int .i64 (x0 - 1), .int .i64 (y0)] 175)).alloc (.cells #[.int .i64 (x1), .int .i64 (y0)] 175), Lib.hid (hps.out.trans Hn.out.symm), ho, ((hS1.on hb3).alloc (.cells #[.int .i64 (x0 - 1), .int .i64 (y0)] 175)).alloc (.cells #[.int .i64 (x1), .int .i64 (y0)] 175), by simp; omega, t4⟩, by simp [intOf]; omega⟩
            · go_wp2_with fail
              refine (l18Ends_h x0 y0 x1 y1 _ (by omega)).mono ?_
              rintro e w3 ⟨rfl, hb3⟩
              have t3 := hb.trans (hb3.mono hb.size)
              have zp := (Bk.new w3 175 #[.int .i64 (x0 - 1), .int .i64 (y0)]).alloc (.cells #[.int .i64 (x1), .int .i64 (y0)] 175)
              have zq := Bk.new (w3.alloc (.cells #[.int .i64 (x0 - 1), .int .i64 (y0)] 175)) 175 #[.int .i64 (x1), .int .i64 (y0)]
              have ez : (w3.alloc (.cells #[.int .i64 (x0 - 1), .int .i64 (y0)] 175)).heap.size = w3.heap.size + 1 := by simp
              rw [ez] at zq
              clear ez
              obtain ⟨p0, p1⟩ := box2 zp
              obtain ⟨q0, q1⟩ := box2 zq
              have t4 := (t3.alloc t3.size (.cells #[.int .i64 (x0 - 1), .int .i64 (y0)] 175)).alloc (by have := t3.size; simp; omega) (.cells #[.int .i64 (x1), .int .i64 (y0)] 175)
              have hG4 := hG'.on t4
              have hH4 := hH'.on t4
              go_wp2_with fail
              refine (l17Cell_any _ _ _ _ _ hG4).mono ?_
              rintro e _ ⟨rfl, rfl⟩
              go_wp2_with fail
              refine (l17Cell_any _ _ _ _ _ hH4).mono ?_
              rintro e _ ⟨rfl, rfl⟩
              go_wp2_with fail
              refine (l17Cell_any _ _ _ _ _ hH4).mono ?_
              rintro e _ ⟨rfl, rfl⟩
              clear p0 p1 q0 q1 zp zq hG4 hH4
              go_wp2
              have hsz3 := hb3.size
              exact ⟨⟨k + 1, _, by omega, by go_num, ((hR.on hb3).alloc (.cells #[.int .i64 (x0 - 1), .int .i64 (y0)] 175)).alloc (.cells #[.int .i64 (x1), .int .i64 (y0)] 175), Lib.hid (hps.out.trans Hn.out.symm), ho, ((hS1.on hb3).alloc (.cells #[.int .i64 (x0 - 1), .int .i64 (y0)] 175)).alloc (.cells #[.int .i64 (x1), .int .i64 (y0)] 175), by simp; omega, t4⟩, by simp [intOf]; omega⟩
            · go_wp2_with fail
              refine (l18Ends_h x0 y0 x1 y1 _ (by omega)).mono ?_
              rintro e w3 ⟨rfl, hb3⟩
              have t3 := hb.trans (hb3.mono hb.size)
              have zp := (Bk.new w3 175 #[.int .i64 (x0 - 1), .int .i64 (y0)]).alloc (.cells #[.int .i64 (x1), .int .i64 (y0)] 175)
              have zq := Bk.new (w3.alloc (.cells #[.int .i64 (x0 - 1), .int .i64 (y0)] 175)) 175 #[.int .i64 (x1), .int .i64 (y0)]
              have ez : (w3.alloc (.cells #[.int .i64 (x0 - 1), .int .i64 (y0)] 175)).heap.size = w3.heap.size + 1 := by simp
              rw [ez] at zq
              clear ez
              obtain ⟨p0, p1⟩ := box2 zp
              obtain ⟨q0, q1⟩ := box2 zq
              have t4 := (t3.alloc t3.size (.cells #[.int .i64 (x0 - 1), .int .i64 (y0)] 175)).alloc (by have := t3.size; simp; omega) (.cells #[.int .i64 (x1), .int .i64 (y0)] 175)
              have hG4 := hG'.on t4
              have hH4 := hH'.on t4
              go_wp2_with fail
              refine (l17Cell_any _ _ _ _ _ hG4).mono ?_
              rintro e _ ⟨rfl, rfl⟩
              go_wp2_with fail
              refine (l17Cell_any _ _ _ _ _ hH4).mono ?_
              rintro e _ ⟨rfl, rfl⟩
              go_wp2_with fail
              refine (l17Cell_any _ _ _ _ _ hG4).mono ?_
              rintro e _ ⟨rfl, rfl⟩
              clear p0 p1 q0 q1 zp zq hG4 hH4
              go_wp2
              have hsz3 := hb3.size
              exact ⟨⟨k + 1, _, by omega, by go_num, ((hR.on hb3).alloc (.cells #[.int .i64 (x0 - 1), .int .i64 (y0)] 175)).alloc (.cells #[.int .i64 (x1), .int .i64 (y0)] 175), Lib.hid (hps.out.trans Hn.out.symm), ho, ((hS1.on hb3).alloc (.cells #[.int .i64 (x0 - 1), .int .i64 (y0)] 175)).alloc (.cells #[.int .i64 (x1), .int .i64 (y0)] 175), by simp; omega, t4⟩, by simp [intOf]; omega⟩
            · go_wp2_with fail
              refine (l18Ends_h x0 y0 x1 y1 _ (by omega)).mono ?_
              rintro e w3 ⟨rfl, hb3⟩
              have t3 := hb.trans (hb3.mono hb.size)
              have zp := (Bk.new w3 175 #[.int .i64 (x0 - 1), .int .i64 (y0)]).alloc (.cells #[.int .i64 (x1), .int .i64 (y0)] 175)
              have zq := Bk.new (w3.alloc (.cells #[.int .i64 (x0 - 1), .int .i64 (y0)] 175)) 175 #[.int .i64 (x1), .int .i64 (y0)]
              have ez : (w3.alloc (.cells #[.int .i64 (x0 - 1), .int .i64 (y0)] 175)).heap.size = w3.heap.size + 1 := by simp
              rw [ez] at zq
              clear ez
              obtain ⟨p0, p1⟩ := box2 zp
              obtain ⟨q0, q1⟩ := box2 zq
              have t4 := (t3.alloc t3.size (.cells #[.int .i64 (x0 - 1), .int .i64 (y0)] 175)).alloc (by have := t3.size; simp; omega) (.cells #[.int .i64 (x1), .int .i64 (y0)] 175)
              have hG4 := hG'.on t4
              have hH4 := hH'.on t4
              go_wp2_with fail
              refine (l17Cell_any _ _ _ _ _ hG4).mono ?_
              rintro e _ ⟨rfl, rfl⟩
              go_wp2_with fail
              refine (l17Cell_any _ _ _ _ _ hH4).mono ?_
              rintro e _ ⟨rfl, rfl⟩
              clear p0 p1 q0 q1 zp zq hG4 hH4
              go_wp2
              have hsz3 := hb3.size
              exact ⟨⟨k + 1, _, by omega, by go_num, ((hR.on hb3).alloc (.cells #[.int .i64 (x0 - 1), .int .i64 (y0)] 175)).alloc (.cells #[.int .i64 (x1), .int .i64 (y0)] 175), Lib.hid (hps.out.trans Hn.out.symm), ho, ((hS1.on hb3).alloc (.cells #[.int .i64 (x0 - 1), .int .i64 (y0)] 175)).alloc (.cells #[.int .i64 (x1), .int .i64 (y0)] 175), by simp; omega, t4⟩, by simp [intOf]; omega⟩
        · have he := Lib.hid (hps.out.trans (filter_all (by omega)))
          go_wp2
          go_ret
          refine ⟨_, rfl, ?_, hb⟩
          rw [he.out] at hR
          exact hR

/-- l18Between. -/
theorem l18Between_any (v u : Value) (G H : Gr) (vert : Bool) (w : World) (hG : GS w 0 v G) (hH : GS w 0 u H) : Calls Tryz.prog 157 #[v, u, .bool vert] w fun e w' => ∃ z, e = .returned z ∧ RL w' w.heap.size z (btwG G H vert) ∧ Below w.heap.size w w' := by
  cases vert
  · exact between_h v u G H w hG hH
  · exact between_v v u G H w hG hH

set_option maxRecDepth 100000 in
/-- l18All. -/
theorem l18All_any (v u : Value) (G H : Gr) (w : World) (hG : GS w 0 v G) (hH : GS w 0 u H) : Calls Tryz.prog 107 #[v, u] w fun e w' => ∃ z, e = .returned z ∧ RL w' w.heap.size z (allBtw G H) ∧ Below w.heap.size w w' := by
  have h1 := btwG_length G H false
  have h2 := btwG_length G H true
  go_enter Tryz.func107, Tryz.ntmps107
  go_wp2_with fail
  refine (l18Between_any v u G H false _ hG hH).mono ?_
  rintro e w1 ⟨u1, rfl, hR1, hb1⟩
  go_wp2_with fail
  refine (l18Between_any v u G H true _ (hG.on hb1) (hH.on hb1)).mono ?_
  rintro e w2 ⟨u2, rfl, hR2, hb2⟩
  have hb := hb1.trans (hb2.mono hb1.size)
  go_wp2_with (at_builtin; refine wpList_append_RR rfl (.tmp 7) (.tmp 10) rfl w.heap.size w1.heap.size _ _ _ _ rfl (hR1.on hb2) rfl hR2 (by omega) hb.size ?_; intro v' w3 hR3 hb3)
  go_ret
  exact ⟨_, rfl, hR3, hb.trans hb3⟩

end Go.Proofs.YtbljapihmkmolaaGreat
