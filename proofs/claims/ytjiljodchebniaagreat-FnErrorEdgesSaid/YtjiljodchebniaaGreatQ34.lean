/- Contracts: the gaps of a set in rows or columns, as the program and the reference list them. No conditions. -/
import Derived.Test.YtjiljodchebniaaGreatQ06
import Derived.Test.YtjiljodchebniaaGreatQ04
import Derived.Test.YtjiljodchebniaaGreatQ11
import Derived.Test.YtjiljodchebniaaGreatQ08

namespace Go.Proofs.YtjiljodchebniaaGreat
open Go.RowKit

theorem inner_v {x0 y0 x1 y1 : Int} : innerR true ⟨x0, y0, x1, y1⟩ = decide (-40 < y0 ∧ y1 < 40) := rfl
theorem inner_h {x0 y0 x1 y1 : Int} : innerR false ⟨x0, y0, x1, y1⟩ = decide (-40 < x0 ∧ x1 < 40) := rfl

set_option maxHeartbeats 1600000 in
set_option maxRecDepth 100000 in
theorem gapsOf_v (g : Nat) (G : Gr) (w : World) (hG : GB w g 89 G) : Calls Tryz.prog 141 #[.pointer (some ⟨g, 0, none⟩), .bool true] w fun e w' => ∃ u, e = .returned u ∧ RL w' w.heap.size u (gapsG G true) ∧ Below w.heap.size w w' := by
  have Hlen := Lib.hid (runsG_length (notG G) true)
  have r0 : RL (w.alloc (.cells #[] 75)) w.heap.size (.slice (some ⟨w.heap.size, 0, none⟩) 0 0) [] := row_empty w _ _ rfl (Nat.le_refl _)
  have t0 : Below w.heap.size w (w.alloc (.cells #[] 75)) := (Below.refl _ _).alloc (Nat.le_refl _) _
  have hs0 : (w.alloc (.cells #[] 75)).heap.size = w.heap.size + 1 := by simp
  go_enter Tryz.func141, Tryz.ntmps141
  go_wp2_with fail
  refine (not_any g G _ (hG.alloc _)).mono ?_
  rintro e w1 ⟨q, rfl, hq, hN, hb1⟩
  replace r0 := r0.on hb1
  have hs1 := hb1.size
  rw [hs0] at hs1
  replace t0 := t0.trans (hb1.mono t0.size)
  clear hb1 hs0
  go_wp2_with fail
  refine (runsOf_any q true _ _ hN).mono ?_
  rintro e w2 ⟨u, rfl, hU, hb2⟩
  replace r0 := r0.on hb2
  have hs2 := hb2.size
  replace t0 := t0.trans (hb2.mono t0.size)
  clear hb2 hN
  have hS := Src.of hU
  obtain ⟨A, c, rfl, hc, hm, -⟩ := hU.form
  clear hU
  have hm' : (runsG (notG G) true).length ≤ 9223372036854775807 := by unfold maxLen at hm; omega
  have o0 : OutB (.slice (some ⟨w.heap.size, 0, none⟩) 0 0) w1.heap.size w2.heap.size := fun g hg => by
    simp [Value.ownBlock] at hg
    omega
  go_wp2
  go_loopw [5, 14] (fun ov iv wr => ∃ (k : Nat) (ps : List Rc), k ≤ (runsG (notG G) true).length ∧ iv = .int .i64 k ∧ RL wr w.heap.size ov ps ∧ Hid (ps = ((runsG (notG G) true).take k).filter (innerR true)) ∧ OutB ov w1.heap.size w2.heap.size ∧ Src wr w1.heap.size w2.heap.size (.slice A (runsG (notG G) true).length c) (runsG (notG G) true) ∧ w2.heap.size ≤ wr.heap.size ∧ Below w.heap.size w wr) (fun _ iv _ => (runsG (notG G) true).length - (intOf iv).toNat)
  case atStart => exact ⟨0, [], Nat.zero_le _, rfl, r0, Lib.hid rfl, o0, hS, Nat.le_refl _, t0⟩
  case round =>
    obtain ⟨k, ps, hk, rfl, hR, hps, ho, hS1, hsz, hb⟩ := hrel
    clear r0 o0 hS t0
    by_cases hlt : k < (runsG (notG G) true).length
    · obtain ⟨g', x0, y0, x1, y1, rfl, hr, hg', f0, f1, f2, f3⟩ := hS1.elem hlt
      have hl3 : ps.length ≤ 1000000 := by
        rw [hps.out]
        exact Nat.le_trans (filter_len k Hlen.out) (by omega)
      have tA := hb.alloc hb.size (.cells #[.int .i64 x0, .int .i64 y0, .int .i64 x1, .int .i64 y1] 75)
      by_cases hc : innerR true ⟨x0, y0, x1, y1⟩ = true
      · have Hn := Lib.hid (filter_yes hr hc)
        rw [inner_v, decide_eq_true_iff] at hc
        obtain ⟨hc1, hc2⟩ := hc
        clear hr
        have hR1 := hR.alloc (.cells #[.int .i64 x0, .int .i64 y0, .int .i64 x1, .int .i64 y1] 75)
        have HsA := Lib.hid (show (wr.alloc (.cells #[.int .i64 x0, .int .i64 y0, .int .i64 x1, .int .i64 y1] 75)).heap.size = wr.heap.size + 1 by simp)
        go_wp2_with (at_builtin; refine wpList_append_R_at rfl (.tmp 43) (.tmp 45) rfl w.heap.size _ ps rfl hR1 _ _ _ _ (by rw [HsA.out]; rfl) hl3 tA.size ?_)
        intro v1 w6 ho1 hg1 hb6 hat
        go_wp2
        refine ⟨⟨k + 1, _, by omega, by go_num, ho1, Lib.hid (by rw [hps.out, Hn.out]), ho.next (by have := HsA.out; omega) hat, (hS1.alloc _).kept ho hg1, ?_, tA.trans hb6⟩, by simp [intOf]; omega⟩
        have := hg1.size
        simp at this
        omega
      · have hc' : innerR true ⟨x0, y0, x1, y1⟩ = false := by simpa using hc
        have Hn := Lib.hid (filter_no hr hc')
        clear hc hr
        rw [inner_v, decide_eq_false_iff_not] at hc'
        by_cases hc1 : -40 < y0
        case' pos => have hc2 : 40 ≤ y1 := by omega
        case' neg => have hc3 : y0 ≤ -40 := by omega
        all_goals
          clear hc'
          go_wp2
          exact ⟨⟨k + 1, _, by omega, by go_num, hR.alloc _, Lib.hid (hps.out.trans Hn.out.symm), ho, hS1.alloc _, by simp; omega, tA⟩, by simp [intOf]; omega⟩
    · have he := Lib.hid (hps.out.trans (filter_all (by omega)))
      go_wp2
      go_ret
      refine ⟨_, rfl, ?_, hb⟩
      rw [he.out] at hR
      exact hR

set_option maxHeartbeats 1600000 in
set_option maxRecDepth 100000 in
theorem gapsOf_h (g : Nat) (G : Gr) (w : World) (hG : GB w g 89 G) : Calls Tryz.prog 141 #[.pointer (some ⟨g, 0, none⟩), .bool false] w fun e w' => ∃ u, e = .returned u ∧ RL w' w.heap.size u (gapsG G false) ∧ Below w.heap.size w w' := by
  have Hlen := Lib.hid (runsG_length (notG G) false)
  have r0 : RL (w.alloc (.cells #[] 75)) w.heap.size (.slice (some ⟨w.heap.size, 0, none⟩) 0 0) [] := row_empty w _ _ rfl (Nat.le_refl _)
  have t0 : Below w.heap.size w (w.alloc (.cells #[] 75)) := (Below.refl _ _).alloc (Nat.le_refl _) _
  have hs0 : (w.alloc (.cells #[] 75)).heap.size = w.heap.size + 1 := by simp
  go_enter Tryz.func141, Tryz.ntmps141
  go_wp2_with fail
  refine (not_any g G _ (hG.alloc _)).mono ?_
  rintro e w1 ⟨q, rfl, hq, hN, hb1⟩
  replace r0 := r0.on hb1
  have hs1 := hb1.size
  rw [hs0] at hs1
  replace t0 := t0.trans (hb1.mono t0.size)
  clear hb1 hs0
  go_wp2_with fail
  refine (runsOf_any q false _ _ hN).mono ?_
  rintro e w2 ⟨u, rfl, hU, hb2⟩
  replace r0 := r0.on hb2
  have hs2 := hb2.size
  replace t0 := t0.trans (hb2.mono t0.size)
  clear hb2 hN
  have hS := Src.of hU
  obtain ⟨A, c, rfl, hc, hm, -⟩ := hU.form
  clear hU
  have hm' : (runsG (notG G) false).length ≤ 9223372036854775807 := by unfold maxLen at hm; omega
  have o0 : OutB (.slice (some ⟨w.heap.size, 0, none⟩) 0 0) w1.heap.size w2.heap.size := fun g hg => by
    simp [Value.ownBlock] at hg
    omega
  go_wp2
  go_loopw [5, 14] (fun ov iv wr => ∃ (k : Nat) (ps : List Rc), k ≤ (runsG (notG G) false).length ∧ iv = .int .i64 k ∧ RL wr w.heap.size ov ps ∧ Hid (ps = ((runsG (notG G) false).take k).filter (innerR false)) ∧ OutB ov w1.heap.size w2.heap.size ∧ Src wr w1.heap.size w2.heap.size (.slice A (runsG (notG G) false).length c) (runsG (notG G) false) ∧ w2.heap.size ≤ wr.heap.size ∧ Below w.heap.size w wr) (fun _ iv _ => (runsG (notG G) false).length - (intOf iv).toNat)
  case atStart => exact ⟨0, [], Nat.zero_le _, rfl, r0, Lib.hid rfl, o0, hS, Nat.le_refl _, t0⟩
  case round =>
    obtain ⟨k, ps, hk, rfl, hR, hps, ho, hS1, hsz, hb⟩ := hrel
    clear r0 o0 hS t0
    by_cases hlt : k < (runsG (notG G) false).length
    · obtain ⟨g', x0, y0, x1, y1, rfl, hr, hg', f0, f1, f2, f3⟩ := hS1.elem hlt
      have hl3 : ps.length ≤ 1000000 := by
        rw [hps.out]
        exact Nat.le_trans (filter_len k Hlen.out) (by omega)
      have tA := hb.alloc hb.size (.cells #[.int .i64 x0, .int .i64 y0, .int .i64 x1, .int .i64 y1] 75)
      by_cases hc : innerR false ⟨x0, y0, x1, y1⟩ = true
      · have Hn := Lib.hid (filter_yes hr hc)
        rw [inner_h, decide_eq_true_iff] at hc
        obtain ⟨hc1, hc2⟩ := hc
        clear hr
        have hR1 := hR.alloc (.cells #[.int .i64 x0, .int .i64 y0, .int .i64 x1, .int .i64 y1] 75)
        have HsA := Lib.hid (show (wr.alloc (.cells #[.int .i64 x0, .int .i64 y0, .int .i64 x1, .int .i64 y1] 75)).heap.size = wr.heap.size + 1 by simp)
        go_wp2_with (at_builtin; refine wpList_append_R_at rfl (.tmp 43) (.tmp 45) rfl w.heap.size _ ps rfl hR1 _ _ _ _ (by rw [HsA.out]; rfl) hl3 tA.size ?_)
        intro v1 w6 ho1 hg1 hb6 hat
        go_wp2
        refine ⟨⟨k + 1, _, by omega, by go_num, ho1, Lib.hid (by rw [hps.out, Hn.out]), ho.next (by have := HsA.out; omega) hat, (hS1.alloc _).kept ho hg1, ?_, tA.trans hb6⟩, by simp [intOf]; omega⟩
        have := hg1.size
        simp at this
        omega
      · have hc' : innerR false ⟨x0, y0, x1, y1⟩ = false := by simpa using hc
        have Hn := Lib.hid (filter_no hr hc')
        clear hc hr
        rw [inner_h, decide_eq_false_iff_not] at hc'
        by_cases hc1 : -40 < x0
        case' pos => have hc2 : 40 ≤ x1 := by omega
        case' neg => have hc3 : x0 ≤ -40 := by omega
        all_goals
          clear hc'
          go_wp2
          exact ⟨⟨k + 1, _, by omega, by go_num, hR.alloc _, Lib.hid (hps.out.trans Hn.out.symm), ho, hS1.alloc _, by simp; omega, tA⟩, by simp [intOf]; omega⟩
    · have he := Lib.hid (hps.out.trans (filter_all (by omega)))
      go_wp2
      go_ret
      refine ⟨_, rfl, ?_, hb⟩
      rw [he.out] at hR
      exact hR

/-- gapsOf. -/
theorem gapsOf_any (g : Nat) (vert : Bool) (G : Gr) (w : World) (hG : GB w g 89 G) : Calls Tryz.prog 141 #[.pointer (some ⟨g, 0, none⟩), .bool vert] w fun e w' => ∃ u, e = .returned u ∧ RL w' w.heap.size u (gapsG G vert) ∧ Below w.heap.size w w' := by
  cases vert
  · exact gapsOf_h g G w hG
  · exact gapsOf_v g G w hG

set_option maxRecDepth 100000 in
/-- allGaps. -/
theorem allGaps_any (v : Value) (rs : List Rc) (w : World) (hv : RL w 0 v rs) : Calls Tryz.prog 113 #[v] w fun e w' => ∃ u, e = .returned u ∧ RL w' w.heap.size u (allGaps (cellsG rs)) ∧ Below w.heap.size w w' := by
  have h1 := gapsG_length (cellsG rs) false
  have h2 := gapsG_length (cellsG rs) true
  go_enter Tryz.func113, Tryz.ntmps113
  go_wp2_with fail
  refine (cellsOf_any v rs _ hv).mono ?_
  rintro e w0 ⟨g, rfl, hg, hG, hb0⟩
  have hB0 := hb0.size
  go_wp2_with fail
  refine (gapsOf_any g false (cellsG rs) _ hG).mono ?_
  rintro e w1 ⟨u1, rfl, hR1, hb1⟩
  go_wp2_with fail
  refine (gapsOf_any g true (cellsG rs) _ (hG.on hb1)).mono ?_
  rintro e w2 ⟨u2, rfl, hR2, hb2⟩
  have hb := hb1.trans (hb2.mono hb1.size)
  go_wp2_with (at_builtin; refine wpList_append_RR rfl (.tmp 7) (.tmp 9) rfl w0.heap.size w1.heap.size _ _ _ _ rfl (hR1.on hb2) rfl hR2 (by omega) hb.size ?_; intro v' w3 hR3 hb3)
  go_ret
  exact ⟨_, rfl, hR3.less hB0, hb0.trans ((hb.trans hb3).mono hB0)⟩

theorem ends_v (G H : Gr) (x0 y0 x1 y1 : Int) : endsG G H true ⟨x0, y0, x1, y1⟩ = ((hasG G (x0) (y0 - 1) && hasG H (x0) (y1)) || (hasG H (x0) (y0 - 1) && hasG G (x0) (y1))) := rfl

theorem ends_h (G H : Gr) (x0 y0 x1 y1 : Int) : endsG G H false ⟨x0, y0, x1, y1⟩ = ((hasG G (x0 - 1) (y0) && hasG H (x1) (y0)) || (hasG H (x0 - 1) (y0) && hasG G (x1) (y0))) := rfl

end Go.Proofs.YtjiljodchebniaaGreat
