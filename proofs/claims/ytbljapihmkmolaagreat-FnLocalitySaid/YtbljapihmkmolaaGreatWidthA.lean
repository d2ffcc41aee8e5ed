/- Contracts: lengths of runs, the least, the first that is short; of the reference and of the program. Condition: the rectangles are valid. Contracts: l17Fill, l17Mark, shorter. Condition: the rectangles are valid. Contracts: HorizontalRuns and VerticalRuns of the reference and of the program. No conditions. Contracts: MinWidth of the reference and of the program. No conditions. Contracts: MarkWidth and IsWideEnough of the reference and of the program. No conditions. Contracts: l17First, firstShorter, WidthWitness of the reference and of the program. No conditions. Contracts: firstShorter, WidthWitness of the reference and of the program. No conditions. -/
import Derived.Test.YtbljapihmkmolaaGreatMathA
import Derived.Test.YtbljapihmkmolaaGreatCanonA
import Derived.Test.YtbljapihmkmolaaGreatAllRuns
namespace Go.Proofs.YtbljapihmkmolaaGreat
open Go.RowKit

theorem l17Length_any (r : Rc) (h : okRc r = true) (w : World) : Calls Tryz.prog 114 #[r.val] w fun e w' => e = .returned (.int .i64 (areaR r)) ∧ Below w.heap.size w w' := by
  have hb := areaR_bounds h
  have hh := (okRc_iff r).1 h
  obtain ⟨x0, y0, x1, y1⟩ := r
  unfold Rc.val
  unfold areaR at hb ⊢
  dsimp only at hb hh ⊢
  go_enter Tryz.func114, Tryz.ntmps114
  go_wp2
  go_ret
  exact ⟨rfl, (Below.refl _ _).alloc (Nat.le_refl _) _⟩
theorem runLength_any (r : Rc) (h : okRc r = true) (w : World) : Calls Tryz.prog 186 #[r.val] w fun e w' => e = .returned (.int .i64 (areaR r)) ∧ Below w.heap.size w w' := by
  obtain ⟨x0, y0, x1, y1⟩ := r
  unfold Rc.val
  dsimp only
  go_enter Tryz.func186, Tryz.ntmps186
  go_wp2_with (go_at_call 172; refine (area_impl ⟨x0, y0, x1, y1⟩ h _).mono ?_; rintro e w1 ⟨rfl, hb1⟩)
  go_ret
  exact ⟨rfl, ((Below.refl _ _).alloc (Nat.le_refl _) _).trans (hb1.mono (by simp))⟩
theorem l17Distance_any (x : Int) (w : World) : Calls Tryz.prog 102 #[.int .i64 x] w fun e w' => e = .returned (.bool (inB 1 x 8)) ∧ w = w' := by
  go_enter Tryz.func102, Tryz.ntmps102
  go_wp2
  all_goals
    go_ret
    refine ⟨ret_bool ?_, rfl⟩
    rw [Bool.eq_iff_iff]
    simp [inB, *] <;> omega
/-- r is a region and x a distance. -/
def chkV (rs : List Rc) (x : Int) : Bool := isReg rs && inB 1 x 8
theorem chkV_yes {rs : List Rc} {x : Int} (h : chkV rs x = true) : isReg rs = true ∧ inB 1 x 8 = true := by simpa [chkV] using h
theorem chkV_no {rs : List Rc} {x : Int} (h : isReg rs = false) : chkV rs x = false := by simp [chkV, h]
theorem chkV_of {rs : List Rc} {x : Int} (h : isReg rs = true) : chkV rs x = inB 1 x 8 := by simp [chkV, h]
theorem checkable_any (v : Value) (rs : List Rc) (x : Int) (w : World) (hv : RL w 0 v rs) : Calls Tryz.prog 162 #[v, .int .i64 x] w fun e w' => e = .returned (.bool (chkV rs x)) ∧ Below w.heap.size w w' := by
  by_cases h : isReg rs = true
  case' pos => have Hr := Lib.hid (chkV_of (x := x) h)
  case' neg =>
    have h' : isReg rs = false := by simpa using h
    clear h
    have Hr := Lib.hid (chkV_no (x := x) h')
  all_goals
    go_enter Tryz.func162, Tryz.ntmps162
    go_wp2_with (first | (go_at_call 91; refine (isRegion_any v rs _ hv).mono ?_; rintro e w1 ⟨rfl, hb1⟩) | (go_at_call 119; refine (within_any _ _ _ _).mono ?_; rintro e w' ⟨rfl, rfl⟩))
    go_ret
    exact ⟨ret_bool Hr.out.symm, hb1⟩

theorem okAll_at {rs : List Rc} (h : okAll rs = true) {k : Nat} {r : Rc} (hr : rs[k]? = some r) : okRc r = true := by
  rw [okAll, List.all_eq_true] at h
  exact h r (List.mem_of_getElem? hr)

end Go.Proofs.YtbljapihmkmolaaGreat

namespace Go.Proofs.YtbljapihmkmolaaGreat
open Go.RowKit

set_option maxHeartbeats 800000 in
set_option maxRecDepth 100000 in
/-- l17Fill. -/
theorem l17Fill_any (g c : Nat) (G : Gr) (r : Rc) (w : World) (hG : GB w g 4 G) (hok : okRc r = true) :
    Calls Tryz.prog 115 #[.slice (some ⟨g, 0, none⟩) 6400 c, r.val] w fun e w' => e = .returned (.slice (some ⟨g, 0, none⟩) 6400 c) ∧ GB w' g 4 (orR G r) ∧ w.grownBy w' (some g) := by
  obtain ⟨x0, y0, x1, y1⟩ := r
  have hval := (okRc_iff _).1 hok
  unfold Rc.val
  dsimp only at hval ⊢
  clear hok
  have hgl := hG.lt
  have g0 := hG.alloc (.cells #[.int .i64 x0, .int .i64 y0, .int .i64 x1, .int .i64 y1] 80)
  have b0 : Bk (w.alloc (.cells #[.int .i64 x0, .int .i64 y0, .int .i64 x1, .int .i64 y1] 80)) w.heap.size 80 #[.int .i64 x0, .int .i64 y0, .int .i64 x1, .int .i64 y1] := Bk.new w _ _
  have o0 : w.grownBy (w.alloc (.cells #[.int .i64 x0, .int .i64 y0, .int .i64 x1, .int .i64 y1] 80)) (some g) := World.grownBy_alloc w _ _
  go_enter Tryz.func115, Tryz.ntmps115
  go_wp2
  go_loopw [5] (fun yv wi => ∃ y : Int, y0 ≤ y ∧ y ≤ y1 ∧ yv = .int .i64 y ∧ GB wi g 4 (orR G ⟨x0, y0, x1, y⟩) ∧ Bk wi w.heap.size 80 #[.int .i64 x0, .int .i64 y0, .int .i64 x1, .int .i64 y1] ∧ w.grownBy wi (some g)) (fun yv _ => (40 - intOf yv).toNat)
  case atStart => exact ⟨y0, by omega, by omega, rfl, by rw [orR_empty _ _ (.inr (Int.le_refl _))]; exact g0, b0, o0⟩
  case round =>
    obtain ⟨y, hy0, hy1, rfl, hG', hB', hO'⟩ := hrel
    clear g0 b0 o0
    obtain ⟨f0, f1, f2, f3⟩ := box4 hB'
    by_cases hy : y < y1
    · go_wp2
      go_loopw [6] (fun xv wj => ∃ x : Int, x0 ≤ x ∧ x ≤ x1 ∧ xv = .int .i64 x ∧ GB wj g 4 (orR (orR G ⟨x0, y0, x1, y⟩) ⟨x0, y, x, y + 1⟩) ∧ Bk wj w.heap.size 80 #[.int .i64 x0, .int .i64 y0, .int .i64 x1, .int .i64 y1] ∧ w.grownBy wj (some g)) (fun xv _ => (40 - intOf xv).toNat)
      case atStart => exact ⟨x0, by omega, by omega, rfl, by rw [orR_empty _ ⟨x0, y, x0, y + 1⟩ (.inl (Int.le_refl _))]; exact hG', hB', hO'⟩
      case round =>
        obtain ⟨x, hx0, hx1, rfl, hG2, hB2, hO2⟩ := hrel
        clear f0 f1 f2 f3 hG' hB' hO'
        obtain ⟨f0, f1, f2, f3⟩ := box4 hB2
        by_cases hx : x < x1
        · have hon : onC x y = true := (onC_iff x y).2 (by omega)
          have hc := hG2.ix_ hon
          have hz := hG2.frozen (ix x y).toNat
          have hi : 0 ≤ ix x y ∧ ix x y < 6400 := by unfold ix; omega
          have Hon := Lib.hid hon
          clear hon
          go_wp2_with (go_at_call 158; refine (l17At_any x y (by omega) _).mono ?_; rintro e w1 ⟨rfl, rfl⟩)
          refine ⟨⟨x + 1, by omega, by omega, rfl, ?_, hB2.other (by show w.heap.size ≠ g; omega) _, only_store hO2 _ _⟩, by simp [intOf]; omega⟩
          exact (hG2.store (by omega) true).cong (orR_step (by omega) hx0 Hon.out)
        · go_wp2
          have hxe : x = x1 := by omega
          refine ⟨⟨y + 1, by omega, by omega, rfl, ?_, hB2, hO2⟩, by simp [intOf]; omega⟩
          rw [hxe] at hG2
          exact hG2.cong (orR_row _ _ _ _ _ hy0)
    · go_wp2
      go_ret
      have hye : y = y1 := by omega
      rw [hye] at hG'
      exact ⟨rfl, hG', hO'⟩

set_option maxHeartbeats 800000 in
set_option maxRecDepth 100000 in
/-- l17Mark. -/
theorem l17Mark_any (v : Value) (rs : List Rc) (d : Int) (w : World) (hv : RL w 0 v rs) (hok : okAll rs = true) : Calls Tryz.prog 104 #[v, .int .i64 d] w fun e w' => ∃ u, e = .returned u ∧ GS w' w.heap.size u (shortG rs d) ∧ Below w.heap.size w w' := by
  obtain ⟨A, c, rfl, hc, hm, -⟩ := hv.form
  have Hok := Lib.hid hok
  clear hok
  have hm' : rs.length ≤ 9223372036854775807 := by unfold maxLen at hm; omega
  have hmk := run_make_6400
  have g0 := GB.made w 4
  have b0 : Below w.heap.size w (w.alloc (.cells noCells 4)) := (Below.refl _ _).alloc (Nat.le_refl _) _
  go_enter Tryz.func104, Tryz.ntmps104
  go_wp2
  clear hmk
  go_loopw [5, 6] (fun o i wr => ∃ k : Nat, k ≤ rs.length ∧ i = .int .i64 k ∧ o = .slice (some ⟨w.heap.size, 0, none⟩) 6400 6400 ∧ GB wr w.heap.size 4 (shortG (rs.take k) d) ∧ Below w.heap.size w wr) (fun _ i _ => rs.length - (intOf i).toNat)
  case atStart => exact ⟨0, Nat.zero_le _, rfl, rfl, g0, b0⟩
  case round =>
    obtain ⟨k, hk, rfl, rfl, hG, hb⟩ := hrel
    clear g0 b0
    by_cases hlt : k < rs.length
    · obtain ⟨g, x0, y0, x1, y1, rfl, hr, hg, f0, f1, f2, f3⟩ := (hv.on hb).elem hlt
      have Hr := Lib.hid hr
      have hok := okAll_at Hok.out hr
      clear hr
      by_cases hd : areaR ⟨x0, y0, x1, y1⟩ < d
      · have He := Lib.hid (short_yes Hr.out hd)
        go_wp2_with (first | (go_at_call 114; refine (l17Length_any ⟨x0, y0, x1, y1⟩ hok _).mono ?_; rintro e w1 ⟨rfl, hb1⟩; have hG1 := hG.on hb1; obtain ⟨f0', f1', f2', f3'⟩ := ((hv.on hb).on hb1).four Hr.out)
                           | (go_at_call 115; refine (l17Fill_any _ _ _ ⟨x0, y0, x1, y1⟩ _ hG1 hok).mono ?_; rintro e w2 ⟨rfl, hG2, hO2⟩))
        refine ⟨⟨k + 1, by omega, by go_num, rfl, hG2.cong He.out.symm, only_far (hb.trans (hb1.mono hb.size)) hO2 (Nat.le_trans hb.size hb1.size) (Nat.le_refl _)⟩, by simp [intOf]; omega⟩
      · have He := Lib.hid (short_no Hr.out hd)
        go_wp2_with (go_at_call 114; refine (l17Length_any ⟨x0, y0, x1, y1⟩ hok _).mono ?_; rintro e w1 ⟨rfl, hb1⟩; have hG1 := hG.on hb1)
        refine ⟨⟨k + 1, by omega, by go_num, rfl, hG1.cong He.out.symm, hb.trans (hb1.mono hb.size)⟩, by simp [intOf]; omega⟩
    · go_wp2
      go_ret
      have : k = rs.length := by omega
      subst this
      rw [List.take_length] at hG
      exact ⟨_, rfl, ⟨_, _, rfl, Nat.le_refl _, hG⟩, hb⟩

set_option maxHeartbeats 800000 in
set_option maxRecDepth 100000 in
/-- shorter. -/
theorem shorter_any (v : Value) (rs : List Rc) (d : Int) (w : World) (hv : RL w 0 v rs) (hok : okAll rs = true) : Calls Tryz.prog 163 #[v, .int .i64 d] w fun e w' => ∃ u, e = .returned u ∧ RL w' w.heap.size u (canon (shortG rs d)) ∧ Below w.heap.size w w' := by
  obtain ⟨A, c, rfl, hc, hm, -⟩ := hv.form
  have Hok := Lib.hid hok
  clear hok
  have hm' : rs.length ≤ 9223372036854775807 := by unfold maxLen at hm; omega
  have g0 := GB.zero w 126
  have b0 : Below w.heap.size w (w.alloc (.cells Tryz.zeroCells126 126)) := (Below.refl _ _).alloc (Nat.le_refl _) _
  go_enter Tryz.func163, Tryz.ntmps163
  go_wp2
  go_loopw [12] (fun i wr => ∃ k : Nat, k ≤ rs.length ∧ i = .int .i64 k ∧ GB wr w.heap.size 126 (shortG (rs.take k) d) ∧ Below w.heap.size w wr) (fun i _ => rs.length - (intOf i).toNat)
  case atStart => exact ⟨0, Nat.zero_le _, rfl, g0, b0⟩
  case round =>
    obtain ⟨k, hk, rfl, hG, hb⟩ := hrel
    clear g0 b0
    by_cases hlt : k < rs.length
    · obtain ⟨g, x0, y0, x1, y1, rfl, hr, hg, f0, f1, f2, f3⟩ := (hv.on hb).elem hlt
      have Hr := Lib.hid hr
      have hok := okAll_at Hok.out hr
      clear hr
      have hbA := hb.alloc hb.size (.cells #[.int .i64 x0, .int .i64 y0, .int .i64 x1, .int .i64 y1] 80)
      have hBx := Bk.new wr 80 #[.int .i64 x0, .int .i64 y0, .int .i64 x1, .int .i64 y1]
      have hGA := hG.alloc (.cells #[.int .i64 x0, .int .i64 y0, .int .i64 x1, .int .i64 y1] 80)
      by_cases hd : areaR ⟨x0, y0, x1, y1⟩ < d
      · have He := Lib.hid (short_yes Hr.out hd)
        go_wp2_with (first | (go_at_call 186; refine (runLength_any ⟨x0, y0, x1, y1⟩ hok _).mono ?_; rintro e w1 ⟨rfl, hb1⟩; have hG1 := hGA.on hb1; obtain ⟨c0, c1, c2, c3⟩ := box4 (hBx.on hb1))
                           | (go_at_call 93; refine (put_any _ _ ⟨x0, y0, x1, y1⟩ _ hG1).mono ?_; rintro e w2 ⟨rfl, hG2, hO2⟩))
        refine ⟨⟨k + 1, by omega, by go_num, hG2.cong He.out.symm, only_far (hbA.trans (hb1.mono hbA.size)) hO2 (Nat.le_trans hbA.size hb1.size) (Nat.le_refl _)⟩, by simp [intOf]; omega⟩
      · have He := Lib.hid (short_no Hr.out hd)
        go_wp2_with (go_at_call 186; refine (runLength_any ⟨x0, y0, x1, y1⟩ hok _).mono ?_; rintro e w1 ⟨rfl, hb1⟩; have hG1 := hGA.on hb1)
        refine ⟨⟨k + 1, by omega, by go_num, hG1.cong He.out.symm, hbA.trans (hb1.mono hbA.size)⟩, by simp [intOf]; omega⟩
    · have hke : k = rs.length := by omega
      rw [hke, List.take_length] at hG
      go_wp2_with (go_at_call 95; refine (region_any _ _ _ hG).mono ?_; rintro e w1 ⟨u1, rfl, hR, hb1⟩)
      go_ret
      exact ⟨_, rfl, hR.less hb.size, hb.trans (hb1.mono hb.size)⟩

end Go.Proofs.YtbljapihmkmolaaGreat

namespace Go.Proofs.YtbljapihmkmolaaGreat
open Go.RowKit

/-- The runs of a region. -/
def runsV (vert : Bool) (rs : List Rc) : List Rc := if isReg rs = true then runsG (cellsG rs) vert else []
theorem runsV_yes {vert : Bool} {rs : List Rc} (h : isReg rs = true) : runsV vert rs = runsG (cellsG rs) vert := if_pos h
theorem runsV_no {vert : Bool} {rs : List Rc} (h : isReg rs = false) : runsV vert rs = [] := if_neg (by rw [h]; simp)
theorem runsV_length (vert : Bool) (rs : List Rc) : (runsV vert rs).length ≤ 1000000 := by
  unfold runsV
  split
  · exact Nat.le_trans (runsG_length _ _) (by omega)
  · simp
theorem okAll_reg {rs : List Rc} (h : isReg rs = true) : okAll rs = true := ((isReg_iff rs).1 h).2.1

end Go.Proofs.YtbljapihmkmolaaGreat

namespace Go.Proofs.YtbljapihmkmolaaGreat
open Go.RowKit

/-- The least width of a region. -/
def minV (rs : List Rc) : Int := if isReg rs = true then minA (allG (cellsG rs)) else -1
theorem minV_yes {rs : List Rc} (h : isReg rs = true) : minV rs = minA (allG (cellsG rs)) := if_pos h
theorem minV_no {rs : List Rc} (h : isReg rs = false) : minV rs = -1 := if_neg (by rw [h]; simp)

end Go.Proofs.YtbljapihmkmolaaGreat

namespace Go.Proofs.YtbljapihmkmolaaGreat
open Go.RowKit

/-- The cells of the runs that are too short. -/
def markV (rs : List Rc) (x : Int) : List Rc := if chkV rs x = true then canon (shortG (allG (cellsG rs)) x) else []
theorem markV_yes {rs : List Rc} {x : Int} (h : chkV rs x = true) : markV rs x = canon (shortG (allG (cellsG rs)) x) := if_pos h
theorem markV_no {rs : List Rc} {x : Int} (h : chkV rs x = false) : markV rs x = [] := if_neg (by rw [h]; simp)
theorem markV_length (rs : List Rc) (x : Int) : (markV rs x).length ≤ 1000000 := by
  unfold markV
  split
  · exact Nat.le_trans (canon_length _) (by omega)
  · simp

set_option maxRecDepth 100000 in
theorem markw_spec (v : Value) (rs : List Rc) (x : Int) (w : World) (hv : RL w 0 v rs) : Calls Tryz.prog 52 #[v, .int .i64 x] w fun e w' => ∃ u, e = .returned u ∧ RL w' w.heap.size u (markV rs x) ∧ Below w.heap.size w w' := by
  by_cases h : isReg rs = true
  · by_cases hx : inB 1 x 8 = true
    · rw [markV_yes ((chkV_of h).trans hx)]
      have hok := okAll_reg h
      have hall := allG_ok (cellsG rs)
      go_enter Tryz.func52, Tryz.ntmps52
      go_wp2_with (first | (go_at_call 87; refine (l03Ok_any v rs _ hv).mono ?_; rintro e w1 ⟨rfl, hb1⟩; have hv1 := hv.on hb1) | (go_at_call 102; refine (l17Distance_any x _).mono ?_; rintro e w0 ⟨rfl, rfl⟩)
                         | (go_at_call 106; refine (l03Bits_any v rs _ hv1 hok).mono ?_; rintro e w2 ⟨u2, rfl, hG, hb2⟩)
                         | (go_at_call 105; refine (l17All_any u2 (cellsG rs) _ (GS.less hG (Nat.zero_le _))).mono ?_; rintro e w3 ⟨u3, rfl, hR, hb3⟩)
                         | (go_at_call 104; refine (l17Mark_any u3 _ x _ (hR.less (Nat.zero_le _)) hall).mono ?_; rintro e w4 ⟨u4, rfl, hG4, hb4⟩)
                         | (go_at_call 103; refine (l03Canon_any u4 _ _ (GS.less hG4 (Nat.zero_le _))).mono ?_; rintro e w5 ⟨u5, rfl, hR5, hb5⟩))
      go_ret
      have t2 := hb1.trans (hb2.mono hb1.size)
      have t3 := t2.trans (hb3.mono t2.size)
      have t4 := t3.trans (hb4.mono t3.size)
      exact ⟨_, rfl, hR5.less t4.size, t4.trans (hb5.mono t4.size)⟩
    · have hx' : inB 1 x 8 = false := by simpa using hx
      clear hx
      rw [markV_no ((chkV_of h).trans hx')]
      go_enter Tryz.func52, Tryz.ntmps52
      go_wp2_with (first | (go_at_call 87; refine (l03Ok_any v rs _ hv).mono ?_; rintro e w1 ⟨rfl, hb1⟩; have hv1 := hv.on hb1) | (go_at_call 102; refine (l17Distance_any x _).mono ?_; rintro e w0 ⟨rfl, rfl⟩))
      go_ret
      exact ⟨_, rfl, row_empty _ _ _ rfl hb1.size, hb1.alloc hb1.size _⟩
  · have h' : isReg rs = false := by simpa using h
    clear h
    rw [markV_no (chkV_no h')]
    go_enter Tryz.func52, Tryz.ntmps52
    go_wp2_with (go_at_call 87; refine (l03Ok_any v rs _ hv).mono ?_; rintro e w1 ⟨rfl, hb1⟩; have hv1 := hv.on hb1)
    go_ret
    exact ⟨_, rfl, row_empty _ _ _ rfl hb1.size, hb1.alloc hb1.size _⟩

set_option maxRecDepth 100000 in
theorem markw_impl (v : Value) (rs : List Rc) (x : Int) (w : World) (hv : RL w 0 v rs) : Calls Tryz.prog 121 #[v, .int .i64 x] w fun e w' => ∃ u, e = .returned u ∧ RL w' w.heap.size u (markV rs x) ∧ Below w.heap.size w w' := by
  by_cases h : chkV rs x = true
  · rw [markV_yes h]
    have hall := allG_ok (cellsG rs)
    go_enter Tryz.func121, Tryz.ntmps121
    go_wp2_with (first | (go_at_call 162; refine (checkable_any v rs x _ hv).mono ?_; rintro e w1 ⟨rfl, hb1⟩; have hv1 := hv.on hb1)
                       | (go_at_call 164; refine (allRuns_any v rs _ hv1).mono ?_; rintro e w3 ⟨u3, rfl, hR, hb3⟩)
                       | (go_at_call 163; refine (shorter_any u3 _ x _ (hR.less (Nat.zero_le _)) hall).mono ?_; rintro e w4 ⟨u4, rfl, hR4, hb4⟩))
    go_ret
    have t3 := hb1.trans (hb3.mono hb1.size)
    exact ⟨_, rfl, hR4.less t3.size, t3.trans (hb4.mono t3.size)⟩
  · have h' : chkV rs x = false := by simpa using h
    clear h
    rw [markV_no h']
    go_enter Tryz.func121, Tryz.ntmps121
    go_wp2_with (go_at_call 162; refine (checkable_any v rs x _ hv).mono ?_; rintro e w1 ⟨rfl, hb1⟩)
    go_ret
    exact ⟨_, rfl, RL.nil _ _, hb1⟩

/-- Nothing is too short. -/
def wideV (rs : List Rc) (x : Int) : Bool := chkV rs x && (((markV rs x).length : Int) == 0)
theorem wideV_yes {rs : List Rc} {x : Int} (h : chkV rs x = true) : wideV rs x = (((markV rs x).length : Int) == 0) := by simp [wideV, h]
theorem wideV_no {rs : List Rc} {x : Int} (h : chkV rs x = false) : wideV rs x = false := by simp [wideV, h]

end Go.Proofs.YtbljapihmkmolaaGreat

namespace Go.Proofs.YtbljapihmkmolaaGreat
open Go.RowKit

/-- A witness, or none. -/
def witX (o : Option Rc) : Rc := o.getD ⟨0, 0, 0, 0⟩
def witB (o : Option Rc) : Bool := o.isSome
def witV (o : Option Rc) : Value := .tuple #[.agg #[.int .i64 (witX o).x0, .int .i64 (witX o).y0, .int .i64 (witX o).x1, .int .i64 (witX o).y1], .bool (witB o)]

/-- Four stores into a block of four. -/
theorem stored4 {w : World} {b : Nat} {t : TypeId} {a0 a1 a2 a3 : Value} (h : Bk w b t #[a0, a1, a2, a3]) (x0 x1 x2 x3 : Value) :
    (w.setCell ⟨b, 0, none⟩ x0).cell? ⟨b, 0, none⟩ = some x0 ∧ ((w.setCell ⟨b, 0, none⟩ x0).setCell ⟨b, 1, none⟩ x1).cell? ⟨b, 1, none⟩ = some x1 ∧
    (((w.setCell ⟨b, 0, none⟩ x0).setCell ⟨b, 1, none⟩ x1).setCell ⟨b, 2, none⟩ x2).cell? ⟨b, 2, none⟩ = some x2 ∧
    ((((w.setCell ⟨b, 0, none⟩ x0).setCell ⟨b, 1, none⟩ x1).setCell ⟨b, 2, none⟩ x2).setCell ⟨b, 3, none⟩ x3).cell? ⟨b, 3, none⟩ = some x3 :=
  ⟨(h.store 0 x0).cell 0, ((h.store 0 x0).store 1 x1).cell 1, (((h.store 0 x0).store 1 x1).store 2 x2).cell 2, ((((h.store 0 x0).store 1 x1).store 2 x2).store 3 x3).cell 3⟩

end Go.Proofs.YtbljapihmkmolaaGreat

namespace Go.Proofs.YtbljapihmkmolaaGreat
open Go.RowKit

/-- The first run that is too short. -/
def wwV (rs : List Rc) (x : Int) : Option Rc := if chkV rs x = true then firstA (allG (cellsG rs)) x else none
theorem wwV_yes {rs : List Rc} {x : Int} (h : chkV rs x = true) : wwV rs x = firstA (allG (cellsG rs)) x := if_pos h
theorem wwV_no {rs : List Rc} {x : Int} (h : chkV rs x = false) : wwV rs x = none := if_neg (by rw [h]; simp)

end Go.Proofs.YtbljapihmkmolaaGreat
