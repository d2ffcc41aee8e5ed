/- Contracts: lengths of runs, the least, the first that is short; of the reference and of the program. Condition: the rectangles are valid. Contracts: l17Fill, l17Mark, shorter. Condition: the rectangles are valid. Contracts: HorizontalRuns and VerticalRuns of the reference and of the program. No conditions. Contracts: MinWidth of the reference and of the program. No conditions. Contracts: MarkWidth and IsWideEnough of the reference and of the program. No conditions. Contracts: l17First, firstShorter, WidthWitness of the reference and of the program. No conditions. Contracts: firstShorter, WidthWitness of the reference and of the program. No conditions. -/
import Derived.Test.YtooglkdloaaomaaMathA
import Derived.Test.YtooglkdloaaomaaCanonA
import Derived.Test.YtooglkdloaaomaaAllRuns
namespace Go.Proofs.Ytooglkdloaaomaa
open Go.RowKit

theorem l17Length_any (r : Rc) (h : okRc r = true) (w : World) : Calls Try.prog 150 #[r.val] w fun e w' => e = .returned (.int .i64 (areaR r)) ∧ Below w.heap.size w w' := by
  have hb := areaR_bounds h
  have hh := (okRc_iff r).1 h
  obtain ⟨x0, y0, x1, y1⟩ := r
  unfold Rc.val
  unfold areaR at hb ⊢
  dsimp only at hb hh ⊢
  go_enter Try.func150, Try.ntmps150
  go_wp2
  go_ret
  exact ⟨rfl, (Below.refl _ _).alloc (Nat.le_refl _) _⟩
theorem runLength_any (r : Rc) (h : okRc r = true) (w : World) : Calls Try.prog 83 #[r.val] w fun e w' => e = .returned (.int .i64 (areaR r)) ∧ Below w.heap.size w w' := by
  obtain ⟨x0, y0, x1, y1⟩ := r
  unfold Rc.val
  dsimp only
  go_enter Try.func83, Try.ntmps83
  go_wp2_with (go_at_call 74; refine (area_impl ⟨x0, y0, x1, y1⟩ h _).mono ?_; rintro e w1 ⟨rfl, hb1⟩)
  go_ret
  exact ⟨rfl, ((Below.refl _ _).alloc (Nat.le_refl _) _).trans (hb1.mono (by simp))⟩
theorem l17Distance_any (x : Int) (w : World) : Calls Try.prog 118 #[.int .i64 x] w fun e w' => e = .returned (.bool (inB 1 x 8)) ∧ w = w' := by
  go_enter Try.func118, Try.ntmps118
  go_wp2
  all_goals
    go_ret
    refine ⟨ret_bool ?_, rfl⟩
    rw [Bool.eq_iff_iff]
    simp [inB, *] <;> omega
/-- r is a region and x a distance. -/
def chkV (rs : List Rc) (x : Int) : Bool := isReg rs && inB 1 x 8
theorem chkV_yes {rs : List Rc} {x : Int} (h : chkV rs x = true) : isReg rs = true ∧ inB 1 x 8 = true := by simpa [chkV] using h
theorem chkV_no {rs : List Rc} {x : Int} (h : isReg rs = false) : chkV rs x = false := by simp [chkV, h]
theorem chkV_of {rs : List Rc} {x : Int} (h : isReg rs = true) : chkV rs x = inB 1 x 8 := by simp [chkV, h]
theorem checkable_any (v : Value) (rs : List Rc) (x : Int) (w : World) (hv : RL w 0 v rs) : Calls Try.prog 95 #[v, .int .i64 x] w fun e w' => e = .returned (.bool (chkV rs x)) ∧ Below w.heap.size w w' := by
  by_cases h : isReg rs = true
  case' pos => have Hr := Lib.hid (chkV_of (x := x) h)
  case' neg =>
    have h' : isReg rs = false := by simpa using h
    clear h
    have Hr := Lib.hid (chkV_no (x := x) h')
  all_goals
    go_enter Try.func95, Try.ntmps95
    go_wp2_with (first | (go_at_call 71; refine (isRegion_any v rs _ hv).mono ?_; rintro e w1 ⟨rfl, hb1⟩) | (go_at_call 72; refine (within_any _ _ _ _).mono ?_; rintro e w' ⟨rfl, rfl⟩))
    go_ret
    exact ⟨ret_bool Hr.out.symm, hb1⟩

theorem okAll_at {rs : List Rc} (h : okAll rs = true) {k : Nat} {r : Rc} (hr : rs[k]? = some r) : okRc r = true := by
  rw [okAll, List.all_eq_true] at h
  exact h r (List.mem_of_getElem? hr)

set_option maxHeartbeats 400000 in
set_option maxRecDepth 100000 in
/-- l17Shortest. -/
theorem l17Shortest_any (v : Value) (rs : List Rc) (w : World) (hv : RL w 0 v rs) (hok : okAll rs = true) : Calls Try.prog 108 #[v] w fun e w' => e = .returned (.int .i64 (minA rs)) ∧ Below w.heap.size w w' := by
  obtain ⟨A, c, rfl, hc, hm, -⟩ := hv.form
  have Hok := Lib.hid hok
  clear hok
  have hm' : rs.length ≤ 9223372036854775807 := by unfold maxLen at hm; omega
  go_enter Try.func108, Try.ntmps108
  go_wp2
  go_loopw [3, 4] (fun bv i wr => ∃ k : Nat, k ≤ rs.length ∧ i = .int .i64 k ∧ bv = .int .i64 (minA (rs.take k)) ∧ Below w.heap.size w wr) (fun _ i _ => rs.length - (intOf i).toNat)
  case atStart => exact ⟨0, Nat.zero_le _, rfl, rfl, Below.refl _ _⟩
  case round =>
    obtain ⟨k, hk, rfl, rfl, hb⟩ := hrel
    by_cases hlt : k < rs.length
    · obtain ⟨g, x0, y0, x1, y1, rfl, hr, hg, f0, f1, f2, f3⟩ := (hv.on hb).elem hlt
      have Hr := Lib.hid hr
      have hok := okAll_at Hok.out hr
      clear hr
      by_cases h0 : k = 0
      · subst h0
        have He := Lib.hid (min_yes Hr.out (.inl rfl))
        simp only [Nat.zero_mul, Nat.zero_add] at f0 f1 f2 f3
        go_wp2_with (go_at_call 150; refine (l17Length_any ⟨x0, y0, x1, y1⟩ hok _).mono ?_; rintro e w1 ⟨rfl, hb1⟩)
        exact ⟨⟨0 + 1, by omega, by go_num, by rw [He.out], hb.trans (hb1.mono hb.size)⟩, by simp [intOf]; omega⟩
      · have hp := minA_take_pos Hok.out h0 hlt
        have h0' : ((k : Int) == 0) = false := by simp; omega
        by_cases hmn : areaR ⟨x0, y0, x1, y1⟩ < minA (rs.take k)
        · have He := Lib.hid (min_yes Hr.out (.inr hmn))
          go_wp2_with (go_at_call 150; refine (l17Length_any ⟨x0, y0, x1, y1⟩ hok _).mono ?_; rintro e w1 ⟨rfl, hb1⟩)
          exact ⟨⟨k + 1, by omega, by go_num, by rw [He.out], hb.trans (hb1.mono hb.size)⟩, by simp [intOf]; omega⟩
        · have He := Lib.hid (min_no Hr.out (by omega) hmn)
          go_wp2_with (go_at_call 150; refine (l17Length_any ⟨x0, y0, x1, y1⟩ hok _).mono ?_; rintro e w1 ⟨rfl, hb1⟩)
          exact ⟨⟨k + 1, by omega, by go_num, by rw [He.out], hb.trans (hb1.mono hb.size)⟩, by simp [intOf]; omega⟩
    · go_wp2
      go_ret
      have : k = rs.length := by omega
      subst this
      rw [List.take_length]
      exact ⟨rfl, hb⟩

set_option maxHeartbeats 400000 in
set_option maxRecDepth 100000 in
/-- shortest. -/
theorem shortest_any (v : Value) (rs : List Rc) (w : World) (hv : RL w 0 v rs) (hok : okAll rs = true) : Calls Try.prog 97 #[v] w fun e w' => e = .returned (.int .i64 (minA rs)) ∧ Below w.heap.size w w' := by
  obtain ⟨A, c, rfl, hc, hm, -⟩ := hv.form
  have Hok := Lib.hid hok
  clear hok
  have hm' : rs.length ≤ 9223372036854775807 := by unfold maxLen at hm; omega
  go_enter Try.func97, Try.ntmps97
  go_wp2
  go_loopw [3, 8] (fun bv i wr => ∃ k : Nat, k ≤ rs.length ∧ i = .int .i64 k ∧ bv = .int .i64 (minA (rs.take k)) ∧ Below w.heap.size w wr) (fun _ i _ => rs.length - (intOf i).toNat)
  case atStart => exact ⟨0, Nat.zero_le _, rfl, rfl, Below.refl _ _⟩
  case round =>
    obtain ⟨k, hk, rfl, rfl, hb⟩ := hrel
    by_cases hlt : k < rs.length
    · obtain ⟨g, x0, y0, x1, y1, rfl, hr, hg, f0, f1, f2, f3⟩ := (hv.on hb).elem hlt
      have Hr := Lib.hid hr
      have hok := okAll_at Hok.out hr
      clear hr
      have hbA := hb.alloc hb.size (.cells #[.int .i64 x0, .int .i64 y0, .int .i64 x1, .int .i64 y1] 32)
      have hBx := Bk.new wr 32 #[.int .i64 x0, .int .i64 y0, .int .i64 x1, .int .i64 y1]
      by_cases h0 : minA (rs.take k) = 0
      · have h0' : (minA (rs.take k) == 0) = true := by simp [h0]
        have He := Lib.hid (min_yes Hr.out (.inl h0))
        go_wp2_with (go_at_call 83; refine (runLength_any ⟨x0, y0, x1, y1⟩ hok _).mono ?_; rintro e w1 ⟨rfl, hb1⟩)
        exact ⟨⟨k + 1, by omega, by go_num, by rw [He.out], hbA.trans (hb1.mono hbA.size)⟩, by simp [intOf]; omega⟩
      · have h0' : (minA (rs.take k) == 0) = false := by simp [h0]
        by_cases hmn : areaR ⟨x0, y0, x1, y1⟩ < minA (rs.take k)
        · have He := Lib.hid (min_yes Hr.out (.inr hmn))
          go_wp2_with (go_at_call 83; refine (runLength_any ⟨x0, y0, x1, y1⟩ hok _).mono ?_; rintro e w1 ⟨rfl, hb1⟩; have hbA := hbA.trans (hb1.mono hbA.size); have hBx := hBx.on hb1; obtain ⟨c0, c1, c2, c3⟩ := box4 hBx)
          exact ⟨⟨k + 1, by omega, by go_num, by rw [He.out], hbA⟩, by simp [intOf]; omega⟩
        · have He := Lib.hid (min_no Hr.out h0 hmn)
          go_wp2_with (go_at_call 83; refine (runLength_any ⟨x0, y0, x1, y1⟩ hok _).mono ?_; rintro e w1 ⟨rfl, hb1⟩)
          exact ⟨⟨k + 1, by omega, by go_num, by rw [He.out], hbA.trans (hb1.mono hbA.size)⟩, by simp [intOf]; omega⟩
    · go_wp2
      go_ret
      have : k = rs.length := by omega
      subst this
      rw [List.take_length]
      exact ⟨rfl, hb⟩

end Go.Proofs.Ytooglkdloaaomaa

namespace Go.Proofs.Ytooglkdloaaomaa
open Go.RowKit

set_option maxHeartbeats 800000 in
set_option maxRecDepth 100000 in
/-- l17Fill. -/
theorem l17Fill_any (g c : Nat) (G : Gr) (r : Rc) (w : World) (hG : GB w g 4 G) (hok : okRc r = true) :
    Calls Try.prog 157 #[.slice (some ⟨g, 0, none⟩) 6400 c, r.val] w fun e w' => e = .returned (.slice (some ⟨g, 0, none⟩) 6400 c) ∧ GB w' g 4 (orR G r) ∧ w.grownBy w' (some g) := by
  obtain ⟨x0, y0, x1, y1⟩ := r
  have hval := (okRc_iff _).1 hok
  unfold Rc.val
  dsimp only at hval ⊢
  clear hok
  have hgl := hG.lt
  have g0 := hG.alloc (.cells #[.int .i64 x0, .int .i64 y0, .int .i64 x1, .int .i64 y1] 32)
  have b0 : Bk (w.alloc (.cells #[.int .i64 x0, .int .i64 y0, .int .i64 x1, .int .i64 y1] 32)) w.heap.size 32 #[.int .i64 x0, .int .i64 y0, .int .i64 x1, .int .i64 y1] := Bk.new w _ _
  have o0 : w.grownBy (w.alloc (.cells #[.int .i64 x0, .int .i64 y0, .int .i64 x1, .int .i64 y1] 32)) (some g) := World.grownBy_alloc w _ _
  go_enter Try.func157, Try.ntmps157
  go_wp2
  go_loopw [5] (fun yv wi => ∃ y : Int, y0 ≤ y ∧ y ≤ y1 ∧ yv = .int .i64 y ∧ GB wi g 4 (orR G ⟨x0, y0, x1, y⟩) ∧ Bk wi w.heap.size 32 #[.int .i64 x0, .int .i64 y0, .int .i64 x1, .int .i64 y1] ∧ w.grownBy wi (some g)) (fun yv _ => (40 - intOf yv).toNat)
  case atStart => exact ⟨y0, by omega, by omega, rfl, by rw [orR_empty _ _ (.inr (Int.le_refl _))]; exact g0, b0, o0⟩
  case round =>
    obtain ⟨y, hy0, hy1, rfl, hG', hB', hO'⟩ := hrel
    clear g0 b0 o0
    obtain ⟨f0, f1, f2, f3⟩ := box4 hB'
    by_cases hy : y < y1
    · go_wp2
      go_loopw [6] (fun xv wj => ∃ x : Int, x0 ≤ x ∧ x ≤ x1 ∧ xv = .int .i64 x ∧ GB wj g 4 (orR (orR G ⟨x0, y0, x1, y⟩) ⟨x0, y, x, y + 1⟩) ∧ Bk wj w.heap.size 32 #[.int .i64 x0, .int .i64 y0, .int .i64 x1, .int .i64 y1] ∧ w.grownBy wj (some g)) (fun xv _ => (40 - intOf xv).toNat)
      case atStart => exact ⟨x0, by omega, by omega, rfl, by rw [orR_empty _ ⟨x0, y, x0, y + 1⟩ (.inl (Int.le_refl _))]; exact hG', hB', hO'⟩
      case round =>
        obtain ⟨x, hx0, hx1, rfl, hG2, hB2, hO2⟩ := hrel
        clear f0 f1 f2 f3 hG' hB' hO'
        obtain ⟨f0, f1, f2, f3⟩ := box4 hB2
        by_cases hx : x < x1
        · have hon : onC x y = true := (onC_iff x y).2 (by omega)
          have hc := hG2.ix_ hon
          have hz := hG2.frozen (ix x y).toNat
          have hi : 0 ≤ ix x y ∧ ix x y < 6400 := by unfold ix; omega
          have Hon := Lib.hid hon
          clear hon
          go_wp2_with (go_at_call 141; refine (l17At_any x y (by omega) _).mono ?_; rintro e w1 ⟨rfl, rfl⟩)
          refine ⟨⟨x + 1, by omega, by omega, rfl, ?_, hB2.other (by show w.heap.size ≠ g; omega) _, only_store hO2 _ _⟩, by simp [intOf]; omega⟩
          exact (hG2.store (by omega) true).cong (orR_step (by omega) hx0 Hon.out)
        · go_wp2
          have hxe : x = x1 := by omega
          refine ⟨⟨y + 1, by omega, by omega, rfl, ?_, hB2, hO2⟩, by simp [intOf]; omega⟩
          rw [hxe] at hG2
          exact hG2.cong (orR_row _ _ _ _ _ hy0)
    · go_wp2
      go_ret
      have hye : y = y1 := by omega
      rw [hye] at hG'
      exact ⟨rfl, hG', hO'⟩

set_option maxHeartbeats 800000 in
set_option maxRecDepth 100000 in
/-- l17Mark. -/
theorem l17Mark_any (v : Value) (rs : List Rc) (d : Int) (w : World) (hv : RL w 0 v rs) (hok : okAll rs = true) : Calls Try.prog 119 #[v, .int .i64 d] w fun e w' => ∃ u, e = .returned u ∧ GS w' w.heap.size u (shortG rs d) ∧ Below w.heap.size w w' := by
  obtain ⟨A, c, rfl, hc, hm, -⟩ := hv.form
  have Hok := Lib.hid hok
  clear hok
  have hm' : rs.length ≤ 9223372036854775807 := by unfold maxLen at hm; omega
  have hmk := run_make_6400
  have g0 := GB.made w 4
  have b0 : Below w.heap.size w (w.alloc (.cells noCells 4)) := (Below.refl _ _).alloc (Nat.le_refl _) _
  go_enter Try.func119, Try.ntmps119
  go_wp2
  clear hmk
  go_loopw [5, 6] (fun o i wr => ∃ k : Nat, k ≤ rs.length ∧ i = .int .i64 k ∧ o = .slice (some ⟨w.heap.size, 0, none⟩) 6400 6400 ∧ GB wr w.heap.size 4 (shortG (rs.take k) d) ∧ Below w.heap.size w wr) (fun _ i _ => rs.length - (intOf i).toNat)
  case atStart => exact ⟨0, Nat.zero_le _, rfl, rfl, g0, b0⟩
  case round =>
    obtain ⟨k, hk, rfl, rfl, hG, hb⟩ := hrel
    clear g0 b0
    by_cases hlt : k < rs.length
    · obtain ⟨g, x0, y0, x1, y1, rfl, hr, hg, f0, f1, f2, f3⟩ := (hv.on hb).elem hlt
      have Hr := Lib.hid hr
      have hok := okAll_at Hok.out hr
      clear hr
      by_cases hd : areaR ⟨x0, y0, x1, y1⟩ < d
      · have He := Lib.hid (short_yes Hr.out hd)
        go_wp2_with (first | (go_at_call 150; refine (l17Length_any ⟨x0, y0, x1, y1⟩ hok _).mono ?_; rintro e w1 ⟨rfl, hb1⟩; have hG1 := hG.on hb1; obtain ⟨f0', f1', f2', f3'⟩ := ((hv.on hb).on hb1).four Hr.out)
                           | (go_at_call 157; refine (l17Fill_any _ _ _ ⟨x0, y0, x1, y1⟩ _ hG1 hok).mono ?_; rintro e w2 ⟨rfl, hG2, hO2⟩))
        refine ⟨⟨k + 1, by omega, by go_num, rfl, hG2.cong He.out.symm, only_far (hb.trans (hb1.mono hb.size)) hO2 (Nat.le_trans hb.size hb1.size) (Nat.le_refl _)⟩, by simp [intOf]; omega⟩
      · have He := Lib.hid (short_no Hr.out hd)
        go_wp2_with (go_at_call 150; refine (l17Length_any ⟨x0, y0, x1, y1⟩ hok _).mono ?_; rintro e w1 ⟨rfl, hb1⟩; have hG1 := hG.on hb1)
        refine ⟨⟨k + 1, by omega, by go_num, rfl, hG1.cong He.out.symm, hb.trans (hb1.mono hb.size)⟩, by simp [intOf]; omega⟩
    · go_wp2
      go_ret
      have : k = rs.length := by omega
      subst this
      rw [List.take_length] at hG
      exact ⟨_, rfl, ⟨_, _, rfl, Nat.le_refl _, hG⟩, hb⟩

set_option maxHeartbeats 800000 in
set_option maxRecDepth 100000 in
/-- shorter. -/
theorem shorter_any (v : Value) (rs : List Rc) (d : Int) (w : World) (hv : RL w 0 v rs) (hok : okAll rs = true) : Calls Try.prog 96 #[v, .int .i64 d] w fun e w' => ∃ u, e = .returned u ∧ RL w' w.heap.size u (canon (shortG rs d)) ∧ Below w.heap.size w w' := by
  obtain ⟨A, c, rfl, hc, hm, -⟩ := hv.form
  have Hok := Lib.hid hok
  clear hok
  have hm' : rs.length ≤ 9223372036854775807 := by unfold maxLen at hm; omega
  have g0 := GB.zero w 77
  have b0 : Below w.heap.size w (w.alloc (.cells Try.zeroCells77 77)) := (Below.refl _ _).alloc (Nat.le_refl _) _
  go_enter Try.func96, Try.ntmps96
  go_wp2
  go_loopw [12] (fun i wr => ∃ k : Nat, k ≤ rs.length ∧ i = .int .i64 k ∧ GB wr w.heap.size 77 (shortG (rs.take k) d) ∧ Below w.heap.size w wr) (fun i _ => rs.length - (intOf i).toNat)
  case atStart => exact ⟨0, Nat.zero_le _, rfl, g0, b0⟩
  case round =>
    obtain ⟨k, hk, rfl, hG, hb⟩ := hrel
    clear g0 b0
    by_cases hlt : k < rs.length
    · obtain ⟨g, x0, y0, x1, y1, rfl, hr, hg, f0, f1, f2, f3⟩ := (hv.on hb).elem hlt
      have Hr := Lib.hid hr
      have hok := okAll_at Hok.out hr
      clear hr
      have hbA := hb.alloc hb.size (.cells #[.int .i64 x0, .int .i64 y0, .int .i64 x1, .int .i64 y1] 32)
      have hBx := Bk.new wr 32 #[.int .i64 x0, .int .i64 y0, .int .i64 x1, .int .i64 y1]
      have hGA := hG.alloc (.cells #[.int .i64 x0, .int .i64 y0, .int .i64 x1, .int .i64 y1] 32)
      by_cases hd : areaR ⟨x0, y0, x1, y1⟩ < d
      · have He := Lib.hid (short_yes Hr.out hd)
        go_wp2_with (first | (go_at_call 83; refine (runLength_any ⟨x0, y0, x1, y1⟩ hok _).mono ?_; rintro e w1 ⟨rfl, hb1⟩; have hG1 := hGA.on hb1; obtain ⟨c0, c1, c2, c3⟩ := box4 (hBx.on hb1))
                           | (go_at_call 75; refine (put_any _ _ ⟨x0, y0, x1, y1⟩ _ hG1).mono ?_; rintro e w2 ⟨rfl, hG2, hO2⟩))
        refine ⟨⟨k + 1, by omega, by go_num, hG2.cong He.out.symm, only_far (hbA.trans (hb1.mono hbA.size)) hO2 (Nat.le_trans hbA.size hb1.size) (Nat.le_refl _)⟩, by simp [intOf]; omega⟩
      · have He := Lib.hid (short_no Hr.out hd)
        go_wp2_with (go_at_call 83; refine (runLength_any ⟨x0, y0, x1, y1⟩ hok _).mono ?_; rintro e w1 ⟨rfl, hb1⟩; have hG1 := hGA.on hb1)
        refine ⟨⟨k + 1, by omega, by go_num, hG1.cong He.out.symm, hbA.trans (hb1.mono hbA.size)⟩, by simp [intOf]; omega⟩
    · have hke : k = rs.length := by omega
      rw [hke, List.take_length] at hG
      go_wp2_with (go_at_call 77; refine (region_any _ _ _ hG).mono ?_; rintro e w1 ⟨u1, rfl, hR, hb1⟩)
      go_ret
      exact ⟨_, rfl, hR.less hb.size, hb.trans (hb1.mono hb.size)⟩

end Go.Proofs.Ytooglkdloaaomaa

namespace Go.Proofs.Ytooglkdloaaomaa
open Go.RowKit

/-- The runs of a region. -/
def runsV (vert : Bool) (rs : List Rc) : List Rc := if isReg rs = true then runsG (cellsG rs) vert else []
theorem runsV_yes {vert : Bool} {rs : List Rc} (h : isReg rs = true) : runsV vert rs = runsG (cellsG rs) vert := if_pos h
theorem runsV_no {vert : Bool} {rs : List Rc} (h : isReg rs = false) : runsV vert rs = [] := if_neg (by rw [h]; simp)
theorem runsV_length (vert : Bool) (rs : List Rc) : (runsV vert rs).length ≤ 1000000 := by
  unfold runsV
  split
  · exact Nat.le_trans (runsG_length _ _) (by omega)
  · simp
theorem okAll_reg {rs : List Rc} (h : isReg rs = true) : okAll rs = true := ((isReg_iff rs).1 h).2.1

theorem hruns_impl (v : Value) (rs : List Rc) (w : World) (hv : RL w 0 v rs) : Calls Try.prog 25 #[v] w fun e w' => ∃ u, e = .returned u ∧ RL w' w.heap.size u (runsV false rs) ∧ Below w.heap.size w w' := by
  by_cases h : isReg rs = true
  · rw [runsV_yes h]
    go_enter Try.func25, Try.ntmps25
    go_wp2_with (first | (go_at_call 71; refine (isRegion_any v rs _ hv).mono ?_; rintro e w1 ⟨rfl, hb1⟩; have hv1 := hv.on hb1)
                       | (go_at_call 84; refine (cellsOf_any v rs _ hv1).mono ?_; rintro e w2 ⟨g, rfl, hg, hG, hb2⟩)
                       | (go_at_call 85; refine (runsOf_any g false (cellsG rs) _ hG).mono ?_; rintro e w3 ⟨u3, rfl, hR, hb3⟩))
    go_ret
    have hs : w.heap.size ≤ w2.heap.size := Nat.le_trans hb1.size hb2.size
    exact ⟨_, rfl, hR.less hs, (hb1.trans (hb2.mono hb1.size)).trans (hb3.mono hs)⟩
  · have h' : isReg rs = false := by simpa using h
    clear h
    rw [runsV_no h']
    go_enter Try.func25, Try.ntmps25
    go_wp2_with (go_at_call 71; refine (isRegion_any v rs _ hv).mono ?_; rintro e w1 ⟨rfl, hb1⟩)
    go_ret
    exact ⟨_, rfl, RL.nil _ _, hb1⟩

theorem vruns_impl (v : Value) (rs : List Rc) (w : World) (hv : RL w 0 v rs) : Calls Try.prog 26 #[v] w fun e w' => ∃ u, e = .returned u ∧ RL w' w.heap.size u (runsV true rs) ∧ Below w.heap.size w w' := by
  by_cases h : isReg rs = true
  · rw [runsV_yes h]
    go_enter Try.func26, Try.ntmps26
    go_wp2_with (first | (go_at_call 71; refine (isRegion_any v rs _ hv).mono ?_; rintro e w1 ⟨rfl, hb1⟩; have hv1 := hv.on hb1)
                       | (go_at_call 84; refine (cellsOf_any v rs _ hv1).mono ?_; rintro e w2 ⟨g, rfl, hg, hG, hb2⟩)
                       | (go_at_call 85; refine (runsOf_any g true (cellsG rs) _ hG).mono ?_; rintro e w3 ⟨u3, rfl, hR, hb3⟩))
    go_ret
    have hs : w.heap.size ≤ w2.heap.size := Nat.le_trans hb1.size hb2.size
    exact ⟨_, rfl, hR.less hs, (hb1.trans (hb2.mono hb1.size)).trans (hb3.mono hs)⟩
  · have h' : isReg rs = false := by simpa using h
    clear h
    rw [runsV_no h']
    go_enter Try.func26, Try.ntmps26
    go_wp2_with (go_at_call 71; refine (isRegion_any v rs _ hv).mono ?_; rintro e w1 ⟨rfl, hb1⟩)
    go_ret
    exact ⟨_, rfl, RL.nil _ _, hb1⟩

end Go.Proofs.Ytooglkdloaaomaa

namespace Go.Proofs.Ytooglkdloaaomaa
open Go.RowKit

/-- The least width of a region. -/
def minV (rs : List Rc) : Int := if isReg rs = true then minA (allG (cellsG rs)) else -1
theorem minV_yes {rs : List Rc} (h : isReg rs = true) : minV rs = minA (allG (cellsG rs)) := if_pos h
theorem minV_no {rs : List Rc} (h : isReg rs = false) : minV rs = -1 := if_neg (by rw [h]; simp)

theorem minw_impl (v : Value) (rs : List Rc) (w : World) (hv : RL w 0 v rs) : Calls Try.prog 40 #[v] w fun e w' => e = .returned (.int .i64 (minV rs)) ∧ Below w.heap.size w w' := by
  by_cases h : isReg rs = true
  · rw [minV_yes h]
    have hall := allG_ok (cellsG rs)
    go_enter Try.func40, Try.ntmps40
    go_wp2_with (first | (go_at_call 71; refine (isRegion_any v rs _ hv).mono ?_; rintro e w1 ⟨rfl, hb1⟩; have hv1 := hv.on hb1)
                       | (go_at_call 82; refine (allRuns_any v rs _ hv1).mono ?_; rintro e w3 ⟨u3, rfl, hR, hb3⟩)
                       | (go_at_call 97; refine (shortest_any u3 _ _ (hR.less (Nat.zero_le _)) hall).mono ?_; rintro e w4 ⟨rfl, hb4⟩))
    go_ret
    have t3 := hb1.trans (hb3.mono hb1.size)
    exact ⟨rfl, t3.trans (hb4.mono t3.size)⟩
  · have h' : isReg rs = false := by simpa using h
    clear h
    rw [minV_no h']
    go_enter Try.func40, Try.ntmps40
    go_wp2_with (go_at_call 71; refine (isRegion_any v rs _ hv).mono ?_; rintro e w1 ⟨rfl, hb1⟩)
    go_ret
    exact ⟨rfl, hb1⟩

end Go.Proofs.Ytooglkdloaaomaa

namespace Go.Proofs.Ytooglkdloaaomaa
open Go.RowKit

/-- The cells of the runs that are too short. -/
def markV (rs : List Rc) (x : Int) : List Rc := if chkV rs x = true then canon (shortG (allG (cellsG rs)) x) else []
theorem markV_yes {rs : List Rc} {x : Int} (h : chkV rs x = true) : markV rs x = canon (shortG (allG (cellsG rs)) x) := if_pos h
theorem markV_no {rs : List Rc} {x : Int} (h : chkV rs x = false) : markV rs x = [] := if_neg (by rw [h]; simp)
theorem markV_length (rs : List Rc) (x : Int) : (markV rs x).length ≤ 1000000 := by
  unfold markV
  split
  · exact Nat.le_trans (canon_length _) (by omega)
  · simp

set_option maxRecDepth 100000 in
theorem markw_spec (v : Value) (rs : List Rc) (x : Int) (w : World) (hv : RL w 0 v rs) : Calls Try.prog 61 #[v, .int .i64 x] w fun e w' => ∃ u, e = .returned u ∧ RL w' w.heap.size u (markV rs x) ∧ Below w.heap.size w w' := by
  by_cases h : isReg rs = true
  · by_cases hx : inB 1 x 8 = true
    · rw [markV_yes ((chkV_of h).trans hx)]
      have hok := okAll_reg h
      have hall := allG_ok (cellsG rs)
      go_enter Try.func61, Try.ntmps61
      go_wp2_with (first | (go_at_call 78; refine (l03Ok_any v rs _ hv).mono ?_; rintro e w1 ⟨rfl, hb1⟩; have hv1 := hv.on hb1) | (go_at_call 118; refine (l17Distance_any x _).mono ?_; rintro e w0 ⟨rfl, rfl⟩)
                         | (go_at_call 81; refine (l03Bits_any v rs _ hv1 hok).mono ?_; rintro e w2 ⟨u2, rfl, hG, hb2⟩)
                         | (go_at_call 120; refine (l17All_any u2 (cellsG rs) _ (GS.less hG (Nat.zero_le _))).mono ?_; rintro e w3 ⟨u3, rfl, hR, hb3⟩)
                         | (go_at_call 119; refine (l17Mark_any u3 _ x _ (hR.less (Nat.zero_le _)) hall).mono ?_; rintro e w4 ⟨u4, rfl, hG4, hb4⟩)
                         | (go_at_call 86; refine (l03Canon_any u4 _ _ (GS.less hG4 (Nat.zero_le _))).mono ?_; rintro e w5 ⟨u5, rfl, hR5, hb5⟩))
      go_ret
      have t2 := hb1.trans (hb2.mono hb1.size)
      have t3 := t2.trans (hb3.mono t2.size)
      have t4 := t3.trans (hb4.mono t3.size)
      exact ⟨_, rfl, hR5.less t4.size, t4.trans (hb5.mono t4.size)⟩
    · have hx' : inB 1 x 8 = false := by simpa using hx
      clear hx
      rw [markV_no ((chkV_of h).trans hx')]
      go_enter Try.func61, Try.ntmps61
      go_wp2_with (first | (go_at_call 78; refine (l03Ok_any v rs _ hv).mono ?_; rintro e w1 ⟨rfl, hb1⟩; have hv1 := hv.on hb1) | (go_at_call 118; refine (l17Distance_any x _).mono ?_; rintro e w0 ⟨rfl, rfl⟩))
      go_ret
      exact ⟨_, rfl, row_empty _ _ _ rfl hb1.size, hb1.alloc hb1.size _⟩
  · have h' : isReg rs = false := by simpa using h
    clear h
    rw [markV_no (chkV_no h')]
    go_enter Try.func61, Try.ntmps61
    go_wp2_with (go_at_call 78; refine (l03Ok_any v rs _ hv).mono ?_; rintro e w1 ⟨rfl, hb1⟩; have hv1 := hv.on hb1)
    go_ret
    exact ⟨_, rfl, row_empty _ _ _ rfl hb1.size, hb1.alloc hb1.size _⟩

set_option maxRecDepth 100000 in
theorem markw_impl (v : Value) (rs : List Rc) (x : Int) (w : World) (hv : RL w 0 v rs) : Calls Try.prog 39 #[v, .int .i64 x] w fun e w' => ∃ u, e = .returned u ∧ RL w' w.heap.size u (markV rs x) ∧ Below w.heap.size w w' := by
  by_cases h : chkV rs x = true
  · rw [markV_yes h]
    have hall := allG_ok (cellsG rs)
    go_enter Try.func39, Try.ntmps39
    go_wp2_with (first | (go_at_call 95; refine (checkable_any v rs x _ hv).mono ?_; rintro e w1 ⟨rfl, hb1⟩; have hv1 := hv.on hb1)
                       | (go_at_call 82; refine (allRuns_any v rs _ hv1).mono ?_; rintro e w3 ⟨u3, rfl, hR, hb3⟩)
                       | (go_at_call 96; refine (shorter_any u3 _ x _ (hR.less (Nat.zero_le _)) hall).mono ?_; rintro e w4 ⟨u4, rfl, hR4, hb4⟩))
    go_ret
    have t3 := hb1.trans (hb3.mono hb1.size)
    exact ⟨_, rfl, hR4.less t3.size, t3.trans (hb4.mono t3.size)⟩
  · have h' : chkV rs x = false := by simpa using h
    clear h
    rw [markV_no h']
    go_enter Try.func39, Try.ntmps39
    go_wp2_with (go_at_call 95; refine (checkable_any v rs x _ hv).mono ?_; rintro e w1 ⟨rfl, hb1⟩)
    go_ret
    exact ⟨_, rfl, RL.nil _ _, hb1⟩

/-- Nothing is too short. -/
def wideV (rs : List Rc) (x : Int) : Bool := chkV rs x && (((markV rs x).length : Int) == 0)
theorem wideV_yes {rs : List Rc} {x : Int} (h : chkV rs x = true) : wideV rs x = (((markV rs x).length : Int) == 0) := by simp [wideV, h]
theorem wideV_no {rs : List Rc} {x : Int} (h : chkV rs x = false) : wideV rs x = false := by simp [wideV, h]

set_option maxRecDepth 100000 in
theorem wide_impl (v : Value) (rs : List Rc) (x : Int) (w : World) (hv : RL w 0 v rs) : Calls Try.prog 38 #[v, .int .i64 x] w fun e w' => e = .returned (.bool (wideV rs x)) ∧ Below w.heap.size w w' := by
  by_cases h : chkV rs x = true
  · have He := Lib.hid (wideV_yes h)
    go_enter Try.func38, Try.ntmps38
    go_wp2_with (first | (go_at_call 95; refine (checkable_any v rs x _ hv).mono ?_; rintro e w1 ⟨rfl, hb1⟩; have hv1 := hv.on hb1)
                       | (go_at_call 39; refine (markw_impl v rs x _ hv1).mono ?_; rintro e w2 ⟨u2, rfl, hR, hb2⟩; obtain ⟨A, c, rfl, hc, hm, -⟩ := hR.form))
    go_ret
    exact ⟨ret_bool He.out.symm, hb1.trans (hb2.mono hb1.size)⟩
  · have h' : chkV rs x = false := by simpa using h
    clear h
    have He := Lib.hid (wideV_no h')
    go_enter Try.func38, Try.ntmps38
    go_wp2_with (go_at_call 95; refine (checkable_any v rs x _ hv).mono ?_; rintro e w1 ⟨rfl, hb1⟩)
    go_ret
    exact ⟨ret_bool He.out.symm, hb1⟩

end Go.Proofs.Ytooglkdloaaomaa

namespace Go.Proofs.Ytooglkdloaaomaa
open Go.RowKit

/-- A witness, or none. -/
def witX (o : Option Rc) : Rc := o.getD ⟨0, 0, 0, 0⟩
def witB (o : Option Rc) : Bool := o.isSome
def witV (o : Option Rc) : Value := .tuple #[.agg #[.int .i64 (witX o).x0, .int .i64 (witX o).y0, .int .i64 (witX o).x1, .int .i64 (witX o).y1], .bool (witB o)]

/-- Four stores into a block of four. -/
theorem stored4 {w : World} {b : Nat} {t : TypeId} {a0 a1 a2 a3 : Value} (h : Bk w b t #[a0, a1, a2, a3]) (x0 x1 x2 x3 : Value) :
    (w.setCell ⟨b, 0, none⟩ x0).cell? ⟨b, 0, none⟩ = some x0 ∧ ((w.setCell ⟨b, 0, none⟩ x0).setCell ⟨b, 1, none⟩ x1).cell? ⟨b, 1, none⟩ = some x1 ∧
    (((w.setCell ⟨b, 0, none⟩ x0).setCell ⟨b, 1, none⟩ x1).setCell ⟨b, 2, none⟩ x2).cell? ⟨b, 2, none⟩ = some x2 ∧
    ((((w.setCell ⟨b, 0, none⟩ x0).setCell ⟨b, 1, none⟩ x1).setCell ⟨b, 2, none⟩ x2).setCell ⟨b, 3, none⟩ x3).cell? ⟨b, 3, none⟩ = some x3 :=
  ⟨(h.store 0 x0).cell 0, ((h.store 0 x0).store 1 x1).cell 1, (((h.store 0 x0).store 1 x1).store 2 x2).cell 2, ((((h.store 0 x0).store 1 x1).store 2 x2).store 3 x3).cell 3⟩

end Go.Proofs.Ytooglkdloaaomaa

namespace Go.Proofs.Ytooglkdloaaomaa
open Go.RowKit

set_option maxHeartbeats 400000 in
set_option maxRecDepth 100000 in
/-- firstShorter. -/
theorem firstShorter_any (v : Value) (rs : List Rc) (d : Int) (w : World) (hv : RL w 0 v rs) (hok : okAll rs = true) : Calls Try.prog 98 #[v, .int .i64 d] w fun e w' => e = .returned (witV (firstA rs d)) ∧ Below w.heap.size w w' := by
  obtain ⟨A, c, rfl, hc, hm, -⟩ := hv.form
  have Hok := Lib.hid hok
  clear hok
  have hm' : rs.length ≤ 9223372036854775807 := by unfold maxLen at hm; omega
  have z0 := Bk.new w 32 #[.int .i64 0, .int .i64 0, .int .i64 0, .int .i64 0]
  have b0 : Below w.heap.size w (w.alloc (.cells #[.int .i64 0, .int .i64 0, .int .i64 0, .int .i64 0] 32)) := (Below.refl _ _).alloc (Nat.le_refl _) _
  have Hf := Lib.hid (first_start rs d)
  go_enter Try.func98, Try.ntmps98
  go_wp2
  go_loopw [10] (fun i wr => ∃ k : Nat, k ≤ rs.length ∧ i = .int .i64 k ∧ Hid (firstA (rs.drop k) d = firstA rs d) ∧ Bk wr w.heap.size 32 #[.int .i64 0, .int .i64 0, .int .i64 0, .int .i64 0] ∧ Below w.heap.size w wr) (fun i _ => rs.length - (intOf i).toNat)
  case atStart => exact ⟨0, Nat.zero_le _, rfl, Hf, z0, b0⟩
  case round =>
    obtain ⟨k, hk, rfl, hf, hz, hb⟩ := hrel
    clear z0 b0 Hf
    by_cases hlt : k < rs.length
    · obtain ⟨g, x0, y0, x1, y1, rfl, hr, hg, f0, f1, f2, f3⟩ := (hv.on hb).elem hlt
      have Hr := Lib.hid hr
      have hok := okAll_at Hok.out hr
      clear hr
      have hbA := hb.alloc hb.size (.cells #[.int .i64 x0, .int .i64 y0, .int .i64 x1, .int .i64 y1] 32)
      have hBx := Bk.new wr 32 #[.int .i64 x0, .int .i64 y0, .int .i64 x1, .int .i64 y1]
      have hzA := hz.alloc (.cells #[.int .i64 x0, .int .i64 y0, .int .i64 x1, .int .i64 y1] 32)
      by_cases hd : areaR ⟨x0, y0, x1, y1⟩ < d
      · have He := Lib.hid (hf.out.symm.trans (first_yes Hr.out hd))
        go_wp2_with (go_at_call 83; refine (runLength_any ⟨x0, y0, x1, y1⟩ hok _).mono ?_; rintro e w1 ⟨rfl, hb1⟩; obtain ⟨f0', f1', f2', f3'⟩ := box4 (hBx.on hb1); have hz1 := hzA.on hb1; obtain ⟨e0, e1, e2, e3⟩ := box4 hz1; have q0 := hz1.frozen 0; have q1 := hz1.frozen 1; have q2 := hz1.frozen 2; have q3 := hz1.frozen 3)
        obtain ⟨s0, s1, s2, s3⟩ := stored4 hz1 (.int .i64 x0) (.int .i64 y0) (.int .i64 x1) (.int .i64 y1)
        refine bodyPost_ret (v := .tuple #[.agg #[.int .i64 x0, .int .i64 y0, .int .i64 x1, .int .i64 y1], .bool true]) (by simp [results, Try.results98, go_sem, s0, s1, s2, s3]) rfl ⟨?_, ?_⟩
        · rw [He.out]; rfl
        · have t1 := hbA.trans (hb1.mono hbA.size)
          exact (((t1.setCell (Nat.le_refl _) _).setCell (Nat.le_refl _) _).setCell (Nat.le_refl _) _).setCell (Nat.le_refl _) _
      · have He := Lib.hid ((first_no Hr.out hd).symm.trans hf.out)
        go_wp2_with (go_at_call 83; refine (runLength_any ⟨x0, y0, x1, y1⟩ hok _).mono ?_; rintro e w1 ⟨rfl, hb1⟩)
        exact ⟨⟨k + 1, by omega, by go_num, He, hzA.on hb1, hbA.trans (hb1.mono hbA.size)⟩, by simp [intOf]; omega⟩
    · have He := Lib.hid (hf.out.symm.trans (first_end (by omega)))
      obtain ⟨e0, e1, e2, e3⟩ := box4 hz
      have q0 := hz.frozen 0
      have q1 := hz.frozen 1
      have q2 := hz.frozen 2
      have q3 := hz.frozen 3
      go_wp2
      obtain ⟨s0, s1, s2, s3⟩ := stored4 hz (.int .i64 0) (.int .i64 0) (.int .i64 0) (.int .i64 0)
      refine bodyPost_ret (v := .tuple #[.agg #[.int .i64 0, .int .i64 0, .int .i64 0, .int .i64 0], .bool false]) (by simp [results, Try.results98, go_sem, s0, s1, s2, s3]) rfl ⟨?_, ?_⟩
      · rw [He.out]; rfl
      · exact (((hb.setCell (Nat.le_refl _) _).setCell (Nat.le_refl _) _).setCell (Nat.le_refl _) _).setCell (Nat.le_refl _) _

/-- The first run that is too short. -/
def wwV (rs : List Rc) (x : Int) : Option Rc := if chkV rs x = true then firstA (allG (cellsG rs)) x else none
theorem wwV_yes {rs : List Rc} {x : Int} (h : chkV rs x = true) : wwV rs x = firstA (allG (cellsG rs)) x := if_pos h
theorem wwV_no {rs : List Rc} {x : Int} (h : chkV rs x = false) : wwV rs x = none := if_neg (by rw [h]; simp)

set_option maxHeartbeats 400000 in
set_option maxRecDepth 100000 in
theorem ww_impl (v : Value) (rs : List Rc) (x : Int) (w : World) (hv : RL w 0 v rs) : Calls Try.prog 41 #[v, .int .i64 x] w fun e w' => e = .returned (.tuple #[.agg #[.int .i64 (witX (wwV rs x)).x0, .int .i64 (witX (wwV rs x)).y0, .int .i64 (witX (wwV rs x)).x1, .int .i64 (witX (wwV rs x)).y1], .bool (witB (wwV rs x))]) ∧ Below w.heap.size w w' := by
  have hzA := Bk.new w 32 #[.int .i64 0, .int .i64 0, .int .i64 0, .int .i64 0]
  have hvA := hv.alloc (.cells #[.int .i64 0, .int .i64 0, .int .i64 0, .int .i64 0] 32)
  have hbA : Below w.heap.size w (w.alloc (.cells #[.int .i64 0, .int .i64 0, .int .i64 0, .int .i64 0] 32)) := (Below.refl _ _).alloc (Nat.le_refl _) _
  by_cases h : chkV rs x = true
  · rw [wwV_yes h]
    have hall := allG_ok (cellsG rs)
    go_enter Try.func41, Try.ntmps41
    go_wp2_with (first | (go_at_call 95; refine (checkable_any v rs x _ hvA).mono ?_; rintro e w1 ⟨rfl, hb1⟩; have hv1 := hvA.on hb1; have hz1 := hzA.on hb1)
                       | (go_at_call 82; refine (allRuns_any v rs _ hv1).mono ?_; rintro e w3 ⟨u3, rfl, hR, hb3⟩)
                       | (go_at_call 98; refine (firstShorter_any u3 _ x _ (hR.less (Nat.zero_le _)) hall).mono ?_; unfold witV; rintro e w4 ⟨rfl, hb4⟩; have hz1 := (hz1.on hb3).on hb4; obtain ⟨e0, e1, e2, e3⟩ := box4 hz1; have q0 := hz1.frozen 0; have q1 := hz1.frozen 1; have q2 := hz1.frozen 2; have q3 := hz1.frozen 3))
    have t1 := hbA.trans (hb1.mono hbA.size)
    have t3 := t1.trans (hb3.mono t1.size)
    have t4 := t3.trans (hb4.mono t3.size)
    obtain ⟨s0, s1, s2, s3⟩ := stored4 hz1 (.int .i64 (witX (firstA (allG (cellsG rs)) x)).x0) (.int .i64 (witX (firstA (allG (cellsG rs)) x)).y0) (.int .i64 (witX (firstA (allG (cellsG rs)) x)).x1) (.int .i64 (witX (firstA (allG (cellsG rs)) x)).y1)
    refine bodyPost_ret (v := .tuple #[.agg #[.int .i64 (witX (firstA (allG (cellsG rs)) x)).x0, .int .i64 (witX (firstA (allG (cellsG rs)) x)).y0, .int .i64 (witX (firstA (allG (cellsG rs)) x)).x1, .int .i64 (witX (firstA (allG (cellsG rs)) x)).y1], .bool (witB (firstA (allG (cellsG rs)) x))]) (by simp [results, Try.results41, go_sem, s0, s1, s2, s3]) rfl ⟨rfl, ?_⟩
    exact ((((t4).setCell (Nat.le_refl _) _).setCell (Nat.le_refl _) _).setCell (Nat.le_refl _) _).setCell (Nat.le_refl _) _
  · have h' : chkV rs x = false := by simpa using h
    clear h
    rw [wwV_no h']
    go_enter Try.func41, Try.ntmps41
    go_wp2_with (go_at_call 95; refine (checkable_any v rs x _ hvA).mono ?_; rintro e w1 ⟨rfl, hb1⟩; have hv1 := hvA.on hb1; have hz1 := hzA.on hb1; obtain ⟨e0, e1, e2, e3⟩ := box4 hz1; have q0 := hz1.frozen 0; have q1 := hz1.frozen 1; have q2 := hz1.frozen 2; have q3 := hz1.frozen 3)
    have t1 := hbA.trans (hb1.mono hbA.size)
    obtain ⟨s0, s1, s2, s3⟩ := stored4 hz1 (.int .i64 0) (.int .i64 0) (.int .i64 0) (.int .i64 0)
    refine bodyPost_ret (v := .tuple #[.agg #[.int .i64 0, .int .i64 0, .int .i64 0, .int .i64 0], .bool false]) (by simp [results, Try.results41, go_sem, s0, s1, s2, s3]) rfl ⟨rfl, ?_⟩
    exact ((((t1).setCell (Nat.le_refl _) _).setCell (Nat.le_refl _) _).setCell (Nat.le_refl _) _).setCell (Nat.le_refl _) _

end Go.Proofs.Ytooglkdloaaomaa
