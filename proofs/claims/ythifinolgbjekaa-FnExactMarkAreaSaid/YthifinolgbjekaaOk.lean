/- Contracts: is a list a region? The program's IsRegion and the reference's l03Ok give the same answer. No conditions. -/
import Derived.Test.YthifinolgbjekaaRegion
import Derived.Test.YthifinolgbjekaaAreaMath
namespace Go.Proofs.Ythifinolgbjekaa
open Go.RowKit

theorem isReg_eq (rs : List Rc) : isReg rs = (validL rs && eqL (canon (cellsG rs)) rs) := rfl
theorem isReg_no {rs : List Rc} (h : validL rs = false) : isReg rs = false := by rw [isReg_eq, h, Bool.false_and]
theorem isReg_yes {rs : List Rc} (h : validL rs = true) : isReg rs = eqL (canon (cellsG rs)) rs := by rw [isReg_eq, h, Bool.true_and]
theorem isReg_big {rs : List Rc} (h : ¬ sumA rs ≤ 6400) : isReg rs = false := by
  rw [Bool.eq_false_iff]
  intro hc
  rw [isReg_iff] at hc
  have := sumA_canon (cellsG rs)
  rw [hc.2.2] at this
  exact h this

set_option maxHeartbeats 400000 in
/-- IsRegion. -/
theorem isRegion_any (v : Value) (rs : List Rc) (w : World) (hv : RL w 0 v rs) : Calls Try.prog 53 #[v] w fun e w' => e = .returned (.bool (isReg rs)) ∧ Below w.heap.size w w' := by
  by_cases hval : validL rs = true
  · go_enter Try.func53, Try.ntmps53
    go_wp2_with (first
      | (go_at_call 95; refine (validRects_any v rs _ hv).mono ?_; rintro e w1 ⟨rfl, hb1⟩)
      | (go_at_call 73; refine (cellsOf_any v rs _ (hv.on hb1)).mono ?_; rintro e w2 ⟨g, rfl, hg, hG, hb2⟩)
      | (go_at_call 60; refine (region_any g _ _ hG).mono ?_; rintro e w3 ⟨u, rfl, hR, hb3⟩)
      | (go_at_call 96; refine (slicesEqual_any u v _ rs _ (hR.less (Nat.zero_le _)) (((hv.on hb1).on hb2).on hb3)).mono ?_; rintro e w4 ⟨rfl, hb4⟩))
    go_ret
    refine ⟨ret_bool (isReg_yes hval).symm, ?_⟩
    have s1 := hb1.size
    have s2 := hb2.size
    have s3 := hb3.size
    exact ((hb1.trans (hb2.mono s1)).trans (hb3.mono (by omega))).trans (hb4.mono (by omega))
  · have hval' : validL rs = false := by simpa using hval
    clear hval
    go_enter Try.func53, Try.ntmps53
    go_wp2_with (go_at_call 95; refine (validRects_any v rs _ hv).mono ?_; rintro e w1 ⟨rfl, hb1⟩)
    go_ret
    exact ⟨ret_bool (isReg_no hval').symm, hb1⟩

set_option maxHeartbeats 400000 in
set_option maxRecDepth 100000 in
/-- l03Ok. -/
theorem l03Ok_any (v : Value) (rs : List Rc) (w : World) (hv : RL w 0 v rs) : Calls Try.prog 45 #[v] w fun e w' => e = .returned (.bool (isReg rs)) ∧ Below w.heap.size w w' := by
  by_cases hval : validL rs = true
  · have h2 := (validL_iff rs).1 hval
    obtain ⟨hl, hok⟩ := h2
    have Hok := Lib.hid hok
    clear hok
    obtain ⟨A, c, rfl, hc, hm, -⟩ := hv.form
    go_enter Try.func45, Try.ntmps45
    go_wp2_with (go_at_call 88; refine (l03Valid_any _ rs _ hv).mono ?_; rintro e w1 ⟨rfl, hb1⟩)
    go_loopw [3, 4] (fun sv iv wr => ∃ k : Nat, k ≤ rs.length ∧ iv = .int .i64 k ∧ sv = .int .i64 (sumA (rs.take k)) ∧ Below w.heap.size w wr) (fun _ iv _ => rs.length - (intOf iv).toNat)
    case atStart => exact ⟨0, Nat.zero_le _, rfl, rfl, hb1⟩
    case round =>
      obtain ⟨k, hk, rfl, rfl, hb⟩ := hrel
      have hs := sumA_bounds (rs := rs.take k) (by rw [List.all_eq_true]; exact fun r hr => List.all_eq_true.1 Hok.out r (List.mem_of_mem_take hr))
      have hlt' := List.length_take_le k rs
      by_cases hlt : k < rs.length
      · obtain ⟨g, x0, y0, x1, y1, rfl, hr, hg, f0, f1, f2, f3⟩ := (hv.on hb).elem hlt
        have hrok := okAll_get Hok.out hr
        have ha := areaR_bounds hrok
        have Hr := Lib.hid hr
        have Hrok := Lib.hid hrok
        clear hr hrok
        go_wp2_with (go_at_call 89; refine (area_spec ⟨x0, y0, x1, y1⟩ Hrok.out _).mono ?_; rintro e w2 ⟨rfl, hb2⟩)
        refine ⟨⟨k + 1, by omega, by go_num, by rw [sumA_take_succ Hr.out], hb.trans (hb2.mono hb.size)⟩, by simp [intOf]; omega⟩
      · have hkn : k = rs.length := by omega
        have ht : rs.take k = rs := List.take_of_length_le (by omega)
        rw [ht] at hs ⊢
        clear ht hlt'
        by_cases hbig : sumA rs ≤ 6400
        · go_wp2_with (first
            | (go_at_call 46; refine (l03Bits_any _ rs _ (hv.on hb) Hok.out).mono ?_; rintro e w2 ⟨u2, rfl, hG, hb2⟩)
            | (go_at_call 51; refine (l03Canon_any u2 _ _ (hG.less (Nat.zero_le _))).mono ?_; rintro e w3 ⟨u3, rfl, hR, hb3⟩)
            | (go_at_call 90; refine (l03Same_any u3 _ _ rs _ (hR.less (Nat.zero_le _)) (((hv.on hb).on hb2).on hb3)).mono ?_; rintro e w4 ⟨rfl, hb4⟩))
          go_ret
          refine ⟨ret_bool (isReg_yes hval).symm, ?_⟩
          have s1 := hb.size
          have s2 := hb2.size
          have s3 := hb3.size
          exact ((hb.trans (hb2.mono s1)).trans (hb3.mono (by omega))).trans (hb4.mono (by omega))
        · have hd : decide (sumA rs ≤ 6400) = false := by simpa using hbig
          have Hbig := Lib.hid hbig
          clear hbig
          go_wp2
          go_ret
          exact ⟨ret_bool (isReg_big (by have := Hbig.out; omega)).symm, hb⟩
  · have hval' : validL rs = false := by simpa using hval
    clear hval
    go_enter Try.func45, Try.ntmps45
    go_wp2_with (go_at_call 88; refine (l03Valid_any v rs _ hv).mono ?_; rintro e w1 ⟨rfl, hb1⟩)
    go_ret
    exact ⟨ret_bool (isReg_no hval').symm, hb1⟩

end Go.Proofs.Ythifinolgbjekaa
