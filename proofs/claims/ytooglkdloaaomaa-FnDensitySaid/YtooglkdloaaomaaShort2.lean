/- Contracts: l17Fill, l17Mark, shorter. Condition: the rectangles are valid. -/
import Derived.Test.YtooglkdloaaomaaShort1
import Derived.Test.YtooglkdloaaomaaCanon
import Derived.Test.YtooglkdloaaomaaRegion
namespace Go.Proofs.Ytooglkdloaaomaa
open Go.RowKit

set_option maxHeartbeats 800000 in
set_option maxRecDepth 100000 in
/-- l17Fill. -/
theorem l17Fill_any (g c : Nat) (G : Gr) (r : Rc) (w : World) (hG : GB w g 4 G) (hok : okRc r = true) :
    Calls Try.prog 157 #[.slice (some ⟨g, 0, none⟩) 6400 c, r.val] w fun e w' => e = .returned (.slice (some ⟨g, 0, none⟩) 6400 c) ∧ GB w' g 4 (orR G r) ∧ w.grownBy w' (some g) := by
  obtain ⟨x0, y0, x1, y1⟩ := r
  have hval := (okRc_iff _).1 hok
  unfold Rc.val
  dsimp only at hval ⊢
  clear hok
  have hgl := hG.lt
  have g0 := hG.alloc (.cells #[.int .i64 x0, .int .i64 y0, .int .i64 x1, .int .i64 y1] 32)
  have b0 : Bk (w.alloc (.cells #[.int .i64 x0, .int .i64 y0, .int .i64 x1, .int .i64 y1] 32)) w.heap.size 32 #[.int .i64 x0, .int .i64 y0, .int .i64 x1, .int .i64 y1] := Bk.new w _ _
  have o0 : w.grownBy (w.alloc (.cells #[.int .i64 x0, .int .i64 y0, .int .i64 x1, .int .i64 y1] 32)) (some g) := World.grownBy_alloc w _ _
  go_enter Try.func157, Try.ntmps157
  go_wp2
  go_loopw [5] (fun yv wi => ∃ y : Int, y0 ≤ y ∧ y ≤ y1 ∧ yv = .int .i64 y ∧ GB wi g 4 (orR G ⟨x0, y0, x1, y⟩) ∧ Bk wi w.heap.size 32 #[.int .i64 x0, .int .i64 y0, .int .i64 x1, .int .i64 y1] ∧ w.grownBy wi (some g)) (fun yv _ => (40 - intOf yv).toNat)
  case atStart => exact ⟨y0, by omega, by omega, rfl, by rw [orR_empty _ _ (.inr (Int.le_refl _))]; exact g0, b0, o0⟩
  case round =>
    obtain ⟨y, hy0, hy1, rfl, hG', hB', hO'⟩ := hrel
    clear g0 b0 o0
    obtain ⟨f0, f1, f2, f3⟩ := box4 hB'
    by_cases hy : y < y1
    · go_wp2
      go_loopw [6] (fun xv wj => ∃ x : Int, x0 ≤ x ∧ x ≤ x1 ∧ xv = .int .i64 x ∧ GB wj g 4 (orR (orR G ⟨x0, y0, x1, y⟩) ⟨x0, y, x, y + 1⟩) ∧ Bk wj w.heap.size 32 #[.int .i64 x0, .int .i64 y0, .int .i64 x1, .int .i64 y1] ∧ w.grownBy wj (some g)) (fun xv _ => (40 - intOf xv).toNat)
      case atStart => exact ⟨x0, by omega, by omega, rfl, by rw [orR_empty _ ⟨x0, y, x0, y + 1⟩ (.inl (Int.le_refl _))]; exact hG', hB', hO'⟩
      case round =>
        obtain ⟨x, hx0, hx1, rfl, hG2, hB2, hO2⟩ := hrel
        clear f0 f1 f2 f3 hG' hB' hO'
        obtain ⟨f0, f1, f2, f3⟩ := box4 hB2
        by_cases hx : x < x1
        · have hon : onC x y = true := (onC_iff x y).2 (by omega)
          have hc := hG2.ix_ hon
          have hz := hG2.frozen (ix x y).toNat
          have hi : 0 ≤ ix x y ∧ ix x y < 6400 := by unfold ix; omega
          have Hon := Lib.hid hon
          clear hon
          go_wp2_with (go_at_call 141; refine (l17At_any x y (by omega) _).mono ?_; rintro e w1 ⟨rfl, rfl⟩)
          refine ⟨⟨x + 1, by omega, by omega, rfl, ?_, hB2.other (by show w.heap.size ≠ g; omega) _, only_store hO2 _ _⟩, by simp [intOf]; omega⟩
          exact (hG2.store (by omega) true).cong (orR_step (by omega) hx0 Hon.out)
        · go_wp2
          have hxe : x = x1 := by omega
          refine ⟨⟨y + 1, by omega, by omega, rfl, ?_, hB2, hO2⟩, by simp [intOf]; omega⟩
          rw [hxe] at hG2
          exact hG2.cong (orR_row _ _ _ _ _ hy0)
    · go_wp2
      go_ret
      have hye : y = y1 := by omega
      rw [hye] at hG'
      exact ⟨rfl, hG', hO'⟩

set_option maxHeartbeats 800000 in
set_option maxRecDepth 100000 in
/-- l17Mark. -/
theorem l17Mark_any (v : Value) (rs : List Rc) (d : Int) (w : World) (hv : RL w 0 v rs) (hok : okAll rs = true) : Calls Try.prog 119 #[v, .int .i64 d] w fun e w' => ∃ u, e = .returned u ∧ GS w' w.heap.size u (shortG rs d) ∧ Below w.heap.size w w' := by
  obtain ⟨A, c, rfl, hc, hm, -⟩ := hv.form
  have Hok := Lib.hid hok
  clear hok
  have hm' : rs.length ≤ 9223372036854775807 := by unfold maxLen at hm; omega
  have hmk := run_make_6400
  have g0 := GB.made w 4
  have b0 : Below w.heap.size w (w.alloc (.cells noCells 4)) := (Below.refl _ _).alloc (Nat.le_refl _) _
  go_enter Try.func119, Try.ntmps119
  go_wp2
  clear hmk
  go_loopw [5, 6] (fun o i wr => ∃ k : Nat, k ≤ rs.length ∧ i = .int .i64 k ∧ o = .slice (some ⟨w.heap.size, 0, none⟩) 6400 6400 ∧ GB wr w.heap.size 4 (shortG (rs.take k) d) ∧ Below w.heap.size w wr) (fun _ i _ => rs.length - (intOf i).toNat)
  case atStart => exact ⟨0, Nat.zero_le _, rfl, rfl, g0, b0⟩
  case round =>
    obtain ⟨k, hk, rfl, rfl, hG, hb⟩ := hrel
    clear g0 b0
    by_cases hlt : k < rs.length
    · obtain ⟨g, x0, y0, x1, y1, rfl, hr, hg, f0, f1, f2, f3⟩ := (hv.on hb).elem hlt
      have Hr := Lib.hid hr
      have hok := okAll_at Hok.out hr
      clear hr
      by_cases hd : areaR ⟨x0, y0, x1, y1⟩ < d
      · have He := Lib.hid (short_yes Hr.out hd)
        go_wp2_with (first | (go_at_call 150; refine (l17Length_any ⟨x0, y0, x1, y1⟩ hok _).mono ?_; rintro e w1 ⟨rfl, hb1⟩; have hG1 := hG.on hb1; obtain ⟨f0', f1', f2', f3'⟩ := ((hv.on hb).on hb1).four Hr.out)
                           | (go_at_call 157; refine (l17Fill_any _ _ _ ⟨x0, y0, x1, y1⟩ _ hG1 hok).mono ?_; rintro e w2 ⟨rfl, hG2, hO2⟩))
        refine ⟨⟨k + 1, by omega, by go_num, rfl, hG2.cong He.out.symm, only_far (hb.trans (hb1.mono hb.size)) hO2 (Nat.le_trans hb.size hb1.size) (Nat.le_refl _)⟩, by simp [intOf]; omega⟩
      · have He := Lib.hid (short_no Hr.out hd)
        go_wp2_with (go_at_call 150; refine (l17Length_any ⟨x0, y0, x1, y1⟩ hok _).mono ?_; rintro e w1 ⟨rfl, hb1⟩; have hG1 := hG.on hb1)
        refine ⟨⟨k + 1, by omega, by go_num, rfl, hG1.cong He.out.symm, hb.trans (hb1.mono hb.size)⟩, by simp [intOf]; omega⟩
    · go_wp2
      go_ret
      have : k = rs.length := by omega
      subst this
      rw [List.take_length] at hG
      exact ⟨_, rfl, ⟨_, _, rfl, Nat.le_refl _, hG⟩, hb⟩

set_option maxHeartbeats 800000 in
set_option maxRecDepth 100000 in
/-- shorter. -/
theorem shorter_any (v : Value) (rs : List Rc) (d : Int) (w : World) (hv : RL w 0 v rs) (hok : okAll rs = true) : Calls Try.prog 96 #[v, .int .i64 d] w fun e w' => ∃ u, e = .returned u ∧ RL w' w.heap.size u (canon (shortG rs d)) ∧ Below w.heap.size w w' := by
  obtain ⟨A, c, rfl, hc, hm, -⟩ := hv.form
  have Hok := Lib.hid hok
  clear hok
  have hm' : rs.length ≤ 9223372036854775807 := by unfold maxLen at hm; omega
  have g0 := GB.zero w 77
  have b0 : Below w.heap.size w (w.alloc (.cells Try.zeroCells77 77)) := (Below.refl _ _).alloc (Nat.le_refl _) _
  go_enter Try.func96, Try.ntmps96
  go_wp2
  go_loopw [12] (fun i wr => ∃ k : Nat, k ≤ rs.length ∧ i = .int .i64 k ∧ GB wr w.heap.size 77 (shortG (rs.take k) d) ∧ Below w.heap.size w wr) (fun i _ => rs.length - (intOf i).toNat)
  case atStart => exact ⟨0, Nat.zero_le _, rfl, g0, b0⟩
  case round =>
    obtain ⟨k, hk, rfl, hG, hb⟩ := hrel
    clear g0 b0
    by_cases hlt : k < rs.length
    · obtain ⟨g, x0, y0, x1, y1, rfl, hr, hg, f0, f1, f2, f3⟩ := (hv.on hb).elem hlt
      have Hr := Lib.hid hr
      have hok := okAll_at Hok.out hr
      clear hr
      have hbA := hb.alloc hb.size (.cells #[.int .i64 x0, .int .i64 y0, .int .i64 x1, .int .i64 y1] 32)
      have hBx := Bk.new wr 32 #[.int .i64 x0, .int .i64 y0, .int .i64 x1, .int .i64 y1]
      have hGA := hG.alloc (.cells #[.int .i64 x0, .int .i64 y0, .int .i64 x1, .int .i64 y1] 32)
      by_cases hd : areaR ⟨x0, y0, x1, y1⟩ < d
      · have He := Lib.hid (short_yes Hr.out hd)
        go_wp2_with (first | (go_at_call 83; refine (runLength_any ⟨x0, y0, x1, y1⟩ hok _).mono ?_; rintro e w1 ⟨rfl, hb1⟩; have hG1 := hGA.on hb1; obtain ⟨c0, c1, c2, c3⟩ := box4 (hBx.on hb1))
                           | (go_at_call 75; refine (put_any _ _ ⟨x0, y0, x1, y1⟩ _ hG1).mono ?_; rintro e w2 ⟨rfl, hG2, hO2⟩))
        refine ⟨⟨k + 1, by omega, by go_num, hG2.cong He.out.symm, only_far (hbA.trans (hb1.mono hbA.size)) hO2 (Nat.le_trans hbA.size hb1.size) (Nat.le_refl _)⟩, by simp [intOf]; omega⟩
      · have He := Lib.hid (short_no Hr.out hd)
        go_wp2_with (go_at_call 83; refine (runLength_any ⟨x0, y0, x1, y1⟩ hok _).mono ?_; rintro e w1 ⟨rfl, hb1⟩; have hG1 := hGA.on hb1)
        refine ⟨⟨k + 1, by omega, by go_num, hG1.cong He.out.symm, hbA.trans (hb1.mono hbA.size)⟩, by simp [intOf]; omega⟩
    · have hke : k = rs.length := by omega
      rw [hke, List.take_length] at hG
      go_wp2_with (go_at_call 77; refine (region_any _ _ _ hG).mono ?_; rintro e w1 ⟨u1, rfl, hR, hb1⟩)
      go_ret
      exact ⟨_, rfl, hR.less hb.size, hb.trans (hb1.mono hb.size)⟩

end Go.Proofs.Ytooglkdloaaomaa
