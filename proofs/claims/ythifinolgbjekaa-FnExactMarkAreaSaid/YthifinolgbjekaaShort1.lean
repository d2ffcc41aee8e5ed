/- Contracts: lengths of runs, the least, the first that is short; of the reference and of the program. Condition: the rectangles are valid. -/
import Derived.Test.YthifinolgbjekaaShortMath
import Derived.Test.YthifinolgbjekaaOk
namespace Go.Proofs.Ythifinolgbjekaa
open Go.RowKit

theorem l17Length_any (r : Rc) (h : okRc r = true) (w : World) : Calls Try.prog 49 #[r.val] w fun e w' => e = .returned (.int .i64 (areaR r)) ∧ Below w.heap.size w w' := by
  have hb := areaR_bounds h
  have hh := (okRc_iff r).1 h
  obtain ⟨x0, y0, x1, y1⟩ := r
  unfold Rc.val
  unfold areaR at hb ⊢
  dsimp only at hb hh ⊢
  go_enter Try.func49, Try.ntmps49
  go_wp2
  go_ret
  exact ⟨rfl, (Below.refl _ _).alloc (Nat.le_refl _) _⟩
theorem runLength_any (r : Rc) (h : okRc r = true) (w : World) : Calls Try.prog 63 #[r.val] w fun e w' => e = .returned (.int .i64 (areaR r)) ∧ Below w.heap.size w w' := by
  obtain ⟨x0, y0, x1, y1⟩ := r
  unfold Rc.val
  dsimp only
  go_enter Try.func63, Try.ntmps63
  go_wp2_with (go_at_call 57; refine (area_impl ⟨x0, y0, x1, y1⟩ h _).mono ?_; rintro e w1 ⟨rfl, hb1⟩)
  go_ret
  exact ⟨rfl, ((Below.refl _ _).alloc (Nat.le_refl _) _).trans (hb1.mono (by simp))⟩
theorem l17Distance_any (x : Int) (w : World) : Calls Try.prog 68 #[.int .i64 x] w fun e w' => e = .returned (.bool (inB 1 x 8)) ∧ w = w' := by
  go_enter Try.func68, Try.ntmps68
  go_wp2
  all_goals
    go_ret
    refine ⟨ret_bool ?_, rfl⟩
    rw [Bool.eq_iff_iff]
    simp [inB, *] <;> omega
/-- r is a region and x a distance. -/
def chkV (rs : List Rc) (x : Int) : Bool := isReg rs && inB 1 x 8
theorem chkV_yes {rs : List Rc} {x : Int} (h : chkV rs x = true) : isReg rs = true ∧ inB 1 x 8 = true := by simpa [chkV] using h
theorem chkV_no {rs : List Rc} {x : Int} (h : isReg rs = false) : chkV rs x = false := by simp [chkV, h]
theorem chkV_of {rs : List Rc} {x : Int} (h : isReg rs = true) : chkV rs x = inB 1 x 8 := by simp [chkV, h]
theorem checkable_any (v : Value) (rs : List Rc) (x : Int) (w : World) (hv : RL w 0 v rs) : Calls Try.prog 70 #[v, .int .i64 x] w fun e w' => e = .returned (.bool (chkV rs x)) ∧ Below w.heap.size w w' := by
  by_cases h : isReg rs = true
  case' pos => have Hr := Lib.hid (chkV_of (x := x) h)
  case' neg =>
    have h' : isReg rs = false := by simpa using h
    clear h
    have Hr := Lib.hid (chkV_no (x := x) h')
  all_goals
    go_enter Try.func70, Try.ntmps70
    go_wp2_with (first | (go_at_call 53; refine (isRegion_any v rs _ hv).mono ?_; rintro e w1 ⟨rfl, hb1⟩) | (go_at_call 54; refine (within_any _ _ _ _).mono ?_; rintro e w' ⟨rfl, rfl⟩))
    go_ret
    exact ⟨ret_bool Hr.out.symm, hb1⟩

theorem okAll_at {rs : List Rc} (h : okAll rs = true) {k : Nat} {r : Rc} (hr : rs[k]? = some r) : okRc r = true := by
  rw [okAll, List.all_eq_true] at h
  exact h r (List.mem_of_getElem? hr)

set_option maxHeartbeats 400000 in
set_option maxRecDepth 100000 in
/-- l17Shortest. -/
theorem l17Shortest_any (v : Value) (rs : List Rc) (w : World) (hv : RL w 0 v rs) (hok : okAll rs = true) : Calls Try.prog 64 #[v] w fun e w' => e = .returned (.int .i64 (minA rs)) ∧ Below w.heap.size w w' := by
  obtain ⟨A, c, rfl, hc, hm, -⟩ := hv.form
  have Hok := Lib.hid hok
  clear hok
  have hm' : rs.length ≤ 9223372036854775807 := by unfold maxLen at hm; omega
  go_enter Try.func64, Try.ntmps64
  go_wp2
  go_loopw [3, 4] (fun bv i wr => ∃ k : Nat, k ≤ rs.length ∧ i = .int .i64 k ∧ bv = .int .i64 (minA (rs.take k)) ∧ Below w.heap.size w wr) (fun _ i _ => rs.length - (intOf i).toNat)
  case atStart => exact ⟨0, Nat.zero_le _, rfl, rfl, Below.refl _ _⟩
  case round =>
    obtain ⟨k, hk, rfl, rfl, hb⟩ := hrel
    by_cases hlt : k < rs.length
    · obtain ⟨g, x0, y0, x1, y1, rfl, hr, hg, f0, f1, f2, f3⟩ := (hv.on hb).elem hlt
      have Hr := Lib.hid hr
      have hok := okAll_at Hok.out hr
      clear hr
      by_cases h0 : k = 0
      · subst h0
        have He := Lib.hid (min_yes Hr.out (.inl rfl))
        simp only [Nat.zero_mul, Nat.zero_add] at f0 f1 f2 f3
        go_wp2_with (go_at_call 49; refine (l17Length_any ⟨x0, y0, x1, y1⟩ hok _).mono ?_; rintro e w1 ⟨rfl, hb1⟩)
        exact ⟨⟨0 + 1, by omega, by go_num, by rw [He.out], hb.trans (hb1.mono hb.size)⟩, by simp [intOf]; omega⟩
      · have hp := minA_take_pos Hok.out h0 hlt
        have h0' : ((k : Int) == 0) = false := by simp; omega
        by_cases hmn : areaR ⟨x0, y0, x1, y1⟩ < minA (rs.take k)
        · have He := Lib.hid (min_yes Hr.out (.inr hmn))
          go_wp2_with (go_at_call 49; refine (l17Length_any ⟨x0, y0, x1, y1⟩ hok _).mono ?_; rintro e w1 ⟨rfl, hb1⟩)
          exact ⟨⟨k + 1, by omega, by go_num, by rw [He.out], hb.trans (hb1.mono hb.size)⟩, by simp [intOf]; omega⟩
        · have He := Lib.hid (min_no Hr.out (by omega) hmn)
          go_wp2_with (go_at_call 49; refine (l17Length_any ⟨x0, y0, x1, y1⟩ hok _).mono ?_; rintro e w1 ⟨rfl, hb1⟩)
          exact ⟨⟨k + 1, by omega, by go_num, by rw [He.out], hb.trans (hb1.mono hb.size)⟩, by simp [intOf]; omega⟩
    · go_wp2
      go_ret
      have : k = rs.length := by omega
      subst this
      rw [List.take_length]
      exact ⟨rfl, hb⟩

set_option maxHeartbeats 400000 in
set_option maxRecDepth 100000 in
/-- shortest. -/
theorem shortest_any (v : Value) (rs : List Rc) (w : World) (hv : RL w 0 v rs) (hok : okAll rs = true) : Calls Try.prog 66 #[v] w fun e w' => e = .returned (.int .i64 (minA rs)) ∧ Below w.heap.size w w' := by
  obtain ⟨A, c, rfl, hc, hm, -⟩ := hv.form
  have Hok := Lib.hid hok
  clear hok
  have hm' : rs.length ≤ 9223372036854775807 := by unfold maxLen at hm; omega
  go_enter Try.func66, Try.ntmps66
  go_wp2
  go_loopw [3, 8] (fun bv i wr => ∃ k : Nat, k ≤ rs.length ∧ i = .int .i64 k ∧ bv = .int .i64 (minA (rs.take k)) ∧ Below w.heap.size w wr) (fun _ i _ => rs.length - (intOf i).toNat)
  case atStart => exact ⟨0, Nat.zero_le _, rfl, rfl, Below.refl _ _⟩
  case round =>
    obtain ⟨k, hk, rfl, rfl, hb⟩ := hrel
    by_cases hlt : k < rs.length
    · obtain ⟨g, x0, y0, x1, y1, rfl, hr, hg, f0, f1, f2, f3⟩ := (hv.on hb).elem hlt
      have Hr := Lib.hid hr
      have hok := okAll_at Hok.out hr
      clear hr
      have hbA := hb.alloc hb.size (.cells #[.int .i64 x0, .int .i64 y0, .int .i64 x1, .int .i64 y1] 37)
      have hBx := Bk.new wr 37 #[.int .i64 x0, .int .i64 y0, .int .i64 x1, .int .i64 y1]
      by_cases h0 : minA (rs.take k) = 0
      · have h0' : (minA (rs.take k) == 0) = true := by simp [h0]
        have He := Lib.hid (min_yes Hr.out (.inl h0))
        go_wp2_with (go_at_call 63; refine (runLength_any ⟨x0, y0, x1, y1⟩ hok _).mono ?_; rintro e w1 ⟨rfl, hb1⟩)
        exact ⟨⟨k + 1, by omega, by go_num, by rw [He.out], hbA.trans (hb1.mono hbA.size)⟩, by simp [intOf]; omega⟩
      · have h0' : (minA (rs.take k) == 0) = false := by simp [h0]
        by_cases hmn : areaR ⟨x0, y0, x1, y1⟩ < minA (rs.take k)
        · have He := Lib.hid (min_yes Hr.out (.inr hmn))
          go_wp2_with (go_at_call 63; refine (runLength_any ⟨x0, y0, x1, y1⟩ hok _).mono ?_; rintro e w1 ⟨rfl, hb1⟩; have hbA := hbA.trans (hb1.mono hbA.size); have hBx := hBx.on hb1; obtain ⟨c0, c1, c2, c3⟩ := box4 hBx)
          exact ⟨⟨k + 1, by omega, by go_num, by rw [He.out], hbA⟩, by simp [intOf]; omega⟩
        · have He := Lib.hid (min_no Hr.out h0 hmn)
          go_wp2_with (go_at_call 63; refine (runLength_any ⟨x0, y0, x1, y1⟩ hok _).mono ?_; rintro e w1 ⟨rfl, hb1⟩)
          exact ⟨⟨k + 1, by omega, by go_num, by rw [He.out], hbA.trans (hb1.mono hbA.size)⟩, by simp [intOf]; omega⟩
    · go_wp2
      go_ret
      have : k = rs.length := by omega
      subst this
      rw [List.take_length]
      exact ⟨rfl, hb⟩

end Go.Proofs.Ythifinolgbjekaa
