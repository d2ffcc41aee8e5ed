/- Contracts: lengths of runs, the least, the first that is short; of the reference and of the program. Condition: the rectangles are valid. Contracts: l17Fill, l17Mark, shorter. Condition: the rectangles are valid. Contracts: HorizontalRuns and VerticalRuns of the reference and of the program. No conditions. Contracts: MinWidth of the reference and of the program. No conditions. Contracts: MarkWidth and IsWideEnough of the reference and of the program. No conditions. Contracts: l17First, firstShorter, WidthWitness of the reference and of the program. No conditions. Contracts: firstShorter, WidthWitness of the reference and of the program. No conditions. Contracts: common, coveredCells, l19Covered. Conditions: valid rectangles. Contracts: coveredCells; CoveredCells of the reference and of the program. No conditions. Contracts: CoveredCells of the reference and of the program. No conditions. -/
import Derived.Test.YtjiljodchebniaaGreatQ01
import Derived.Test.YtjiljodchebniaaGreatQ03
import Derived.Test.YtjiljodchebniaaGreatQ04
import Derived.Deep.RegionHeld3

namespace Go.Proofs.YtjiljodchebniaaGreat
open Go.RowKit

theorem runLength_any (r : Rc) (h : okRc r = true) (w : World) : Calls Tryz.prog 139 #[r.val] w fun e w' => e = .returned (.int .i64 (areaR r)) ∧ Below w.heap.size w w' := by
  obtain ⟨x0, y0, x1, y1⟩ := r
  unfold Rc.val
  dsimp only
  go_enter Tryz.func139, Tryz.ntmps139
  go_wp2_with (go_at_call 121; refine (area_impl ⟨x0, y0, x1, y1⟩ h _).mono ?_; rintro e w1 ⟨rfl, hb1⟩)
  go_ret
  exact ⟨rfl, ((Below.refl _ _).alloc (Nat.le_refl _) _).trans (hb1.mono (by simp))⟩
/-- r is a region and x a distance. -/
def chkV (rs : List Rc) (x : Int) : Bool := isReg rs && inB 1 x 8
theorem chkV_yes {rs : List Rc} {x : Int} (h : chkV rs x = true) : isReg rs = true ∧ inB 1 x 8 = true := by simpa [chkV] using h
theorem chkV_no {rs : List Rc} {x : Int} (h : isReg rs = false) : chkV rs x = false := by simp [chkV, h]
theorem chkV_of {rs : List Rc} {x : Int} (h : isReg rs = true) : chkV rs x = inB 1 x 8 := by simp [chkV, h]
theorem checkable_any (v : Value) (rs : List Rc) (x : Int) (w : World) (hv : RL w 0 v rs) : Calls Tryz.prog 110 #[v, .int .i64 x] w fun e w' => e = .returned (.bool (chkV rs x)) ∧ Below w.heap.size w w' := by
  by_cases h : isReg rs = true
  case' pos => have Hr := Lib.hid (chkV_of (x := x) h)
  case' neg =>
    have h' : isReg rs = false := by simpa using h
    clear h
    have Hr := Lib.hid (chkV_no (x := x) h')
  all_goals
    go_enter Tryz.func110, Tryz.ntmps110
    go_wp2_with (first | (go_at_call 22; refine (isRegion_any v rs _ hv).mono ?_; rintro e w1 ⟨rfl, hb1⟩) | (go_at_call 23; refine (within_any _ _ _ _).mono ?_; rintro e w' ⟨rfl, rfl⟩))
    go_ret
    exact ⟨ret_bool Hr.out.symm, hb1⟩

theorem okAll_at {rs : List Rc} (h : okAll rs = true) {k : Nat} {r : Rc} (hr : rs[k]? = some r) : okRc r = true := by
  rw [okAll, List.all_eq_true] at h
  exact h r (List.mem_of_getElem? hr)

end Go.Proofs.YtjiljodchebniaaGreat

namespace Go.Proofs.YtjiljodchebniaaGreat
open Go.RowKit

set_option maxHeartbeats 800000 in
set_option maxRecDepth 100000 in
/-- shorter. -/
theorem shorter_any (v : Value) (rs : List Rc) (d : Int) (w : World) (hv : RL w 0 v rs) (hok : okAll rs = true) : Calls Tryz.prog 111 #[v, .int .i64 d] w fun e w' => ∃ u, e = .returned u ∧ RL w' w.heap.size u (canon (shortG rs d)) ∧ Below w.heap.size w w' := by
  obtain ⟨A, c, rfl, hc, hm, -⟩ := hv.form
  have Hok := Lib.hid hok
  clear hok
  have hm' : rs.length ≤ 9223372036854775807 := by unfold maxLen at hm; omega
  have g0 := GB.zero w 89
  have b0 : Below w.heap.size w (w.alloc (.cells Tryz.zeroCells89 89)) := (Below.refl _ _).alloc (Nat.le_refl _) _
  go_enter Tryz.func111, Tryz.ntmps111
  go_wp2
  go_loopw [12] (fun i wr => ∃ k : Nat, k ≤ rs.length ∧ i = .int .i64 k ∧ GB wr w.heap.size 89 (shortG (rs.take k) d) ∧ Below w.heap.size w wr) (fun i _ => rs.length - (intOf i).toNat)
  case atStart => exact ⟨0, Nat.zero_le _, rfl, g0, b0⟩
  case round =>
    obtain ⟨k, hk, rfl, hG, hb⟩ := hrel
    clear g0 b0
    by_cases hlt : k < rs.length
    · obtain ⟨g, x0, y0, x1, y1, rfl, hr, hg, f0, f1, f2, f3⟩ := (hv.on hb).elem hlt
      have Hr := Lib.hid hr
      have hok := okAll_at Hok.out hr
      clear hr
      have hbA := hb.alloc hb.size (.cells #[.int .i64 x0, .int .i64 y0, .int .i64 x1, .int .i64 y1] 75)
      have hBx := Bk.new wr 75 #[.int .i64 x0, .int .i64 y0, .int .i64 x1, .int .i64 y1]
      have hGA := hG.alloc (.cells #[.int .i64 x0, .int .i64 y0, .int .i64 x1, .int .i64 y1] 75)
      by_cases hd : areaR ⟨x0, y0, x1, y1⟩ < d
      · have He := Lib.hid (short_yes Hr.out hd)
        go_wp2_with (first | (go_at_call 139; refine (runLength_any ⟨x0, y0, x1, y1⟩ hok _).mono ?_; rintro e w1 ⟨rfl, hb1⟩; have hG1 := hGA.on hb1; obtain ⟨c0, c1, c2, c3⟩ := box4 (hBx.on hb1))
                           | (go_at_call 51; refine (put_any _ _ ⟨x0, y0, x1, y1⟩ _ hG1).mono ?_; rintro e w2 ⟨rfl, hG2, hO2⟩))
        refine ⟨⟨k + 1, by omega, by go_num, hG2.cong He.out.symm, only_far (hbA.trans (hb1.mono hbA.size)) hO2 (Nat.le_trans hbA.size hb1.size) (Nat.le_refl _)⟩, by simp [intOf]; omega⟩
      · have He := Lib.hid (short_no Hr.out hd)
        go_wp2_with (go_at_call 139; refine (runLength_any ⟨x0, y0, x1, y1⟩ hok _).mono ?_; rintro e w1 ⟨rfl, hb1⟩; have hG1 := hGA.on hb1)
        refine ⟨⟨k + 1, by omega, by go_num, hG1.cong He.out.symm, hbA.trans (hb1.mono hbA.size)⟩, by simp [intOf]; omega⟩
    · have hke : k = rs.length := by omega
      rw [hke, List.take_length] at hG
      go_wp2_with (go_at_call 50; refine (region_any _ _ _ hG).mono ?_; rintro e w1 ⟨u1, rfl, hR, hb1⟩)
      go_ret
      exact ⟨_, rfl, hR.less hb.size, hb.trans (hb1.mono hb.size)⟩

end Go.Proofs.YtjiljodchebniaaGreat

namespace Go.Proofs.YtjiljodchebniaaGreat
open Go.RowKit

/-- The runs of a region. -/
def runsV (vert : Bool) (rs : List Rc) : List Rc := if isReg rs = true then runsG (cellsG rs) vert else []
theorem runsV_yes {vert : Bool} {rs : List Rc} (h : isReg rs = true) : runsV vert rs = runsG (cellsG rs) vert := if_pos h
theorem runsV_no {vert : Bool} {rs : List Rc} (h : isReg rs = false) : runsV vert rs = [] := if_neg (by rw [h]; simp)
theorem runsV_length (vert : Bool) (rs : List Rc) : (runsV vert rs).length ≤ 1000000 := by
  unfold runsV
  split
  · exact Nat.le_trans (runsG_length _ _) (by omega)
  · simp
theorem okAll_reg {rs : List Rc} (h : isReg rs = true) : okAll rs = true := ((isReg_iff rs).1 h).2.1

end Go.Proofs.YtjiljodchebniaaGreat

namespace Go.Proofs.YtjiljodchebniaaGreat
open Go.RowKit

/-- The least width of a region. -/
def minV (rs : List Rc) : Int := if isReg rs = true then minA (allG (cellsG rs)) else -1
theorem minV_yes {rs : List Rc} (h : isReg rs = true) : minV rs = minA (allG (cellsG rs)) := if_pos h
theorem minV_no {rs : List Rc} (h : isReg rs = false) : minV rs = -1 := if_neg (by rw [h]; simp)

end Go.Proofs.YtjiljodchebniaaGreat

namespace Go.Proofs.YtjiljodchebniaaGreat
open Go.RowKit

/-- The cells of the runs that are too short. -/
def markV (rs : List Rc) (x : Int) : List Rc := if chkV rs x = true then canon (shortG (allG (cellsG rs)) x) else []
theorem markV_yes {rs : List Rc} {x : Int} (h : chkV rs x = true) : markV rs x = canon (shortG (allG (cellsG rs)) x) := if_pos h
theorem markV_no {rs : List Rc} {x : Int} (h : chkV rs x = false) : markV rs x = [] := if_neg (by rw [h]; simp)
theorem markV_length (rs : List Rc) (x : Int) : (markV rs x).length ≤ 1000000 := by
  unfold markV
  split
  · exact Nat.le_trans (canon_length _) (by omega)
  · simp

set_option maxRecDepth 100000 in
theorem markw_impl (v : Value) (rs : List Rc) (x : Int) (w : World) (hv : RL w 0 v rs) : Calls Tryz.prog 83 #[v, .int .i64 x] w fun e w' => ∃ u, e = .returned u ∧ RL w' w.heap.size u (markV rs x) ∧ Below w.heap.size w w' := by
  by_cases h : chkV rs x = true
  · rw [markV_yes h]
    have hall := allG_ok (cellsG rs)
    go_enter Tryz.func83, Tryz.ntmps83
    go_wp2_with (first | (go_at_call 110; refine (checkable_any v rs x _ hv).mono ?_; rintro e w1 ⟨rfl, hb1⟩; have hv1 := hv.on hb1)
                       | (go_at_call 112; refine (allRuns_any v rs _ hv1).mono ?_; rintro e w3 ⟨u3, rfl, hR, hb3⟩)
                       | (go_at_call 111; refine (shorter_any u3 _ x _ (hR.less (Nat.zero_le _)) hall).mono ?_; rintro e w4 ⟨u4, rfl, hR4, hb4⟩))
    go_ret
    have t3 := hb1.trans (hb3.mono hb1.size)
    exact ⟨_, rfl, hR4.less t3.size, t3.trans (hb4.mono t3.size)⟩
  · have h' : chkV rs x = false := by simpa using h
    clear h
    rw [markV_no h']
    go_enter Tryz.func83, Tryz.ntmps83
    go_wp2_with (go_at_call 110; refine (checkable_any v rs x _ hv).mono ?_; rintro e w1 ⟨rfl, hb1⟩)
    go_ret
    exact ⟨_, rfl, RL.nil _ _, hb1⟩

/-- Nothing is too short. -/
def wideV (rs : List Rc) (x : Int) : Bool := chkV rs x && (((markV rs x).length : Int) == 0)
theorem wideV_yes {rs : List Rc} {x : Int} (h : chkV rs x = true) : wideV rs x = (((markV rs x).length : Int) == 0) := by simp [wideV, h]
theorem wideV_no {rs : List Rc} {x : Int} (h : chkV rs x = false) : wideV rs x = false := by simp [wideV, h]

end Go.Proofs.YtjiljodchebniaaGreat

namespace Go.Proofs.YtjiljodchebniaaGreat
open Go.RowKit

/-- A witness, or none. -/
def witX (o : Option Rc) : Rc := o.getD ⟨0, 0, 0, 0⟩
def witB (o : Option Rc) : Bool := o.isSome
def witV (o : Option Rc) : Value := .tuple #[.agg #[.int .i64 (witX o).x0, .int .i64 (witX o).y0, .int .i64 (witX o).x1, .int .i64 (witX o).y1], .bool (witB o)]

/-- Four stores into a block of four. -/
theorem stored4 {w : World} {b : Nat} {t : TypeId} {a0 a1 a2 a3 : Value} (h : Bk w b t #[a0, a1, a2, a3]) (x0 x1 x2 x3 : Value) :
    (w.setCell ⟨b, 0, none⟩ x0).cell? ⟨b, 0, none⟩ = some x0 ∧ ((w.setCell ⟨b, 0, none⟩ x0).setCell ⟨b, 1, none⟩ x1).cell? ⟨b, 1, none⟩ = some x1 ∧
    (((w.setCell ⟨b, 0, none⟩ x0).setCell ⟨b, 1, none⟩ x1).setCell ⟨b, 2, none⟩ x2).cell? ⟨b, 2, none⟩ = some x2 ∧
    ((((w.setCell ⟨b, 0, none⟩ x0).setCell ⟨b, 1, none⟩ x1).setCell ⟨b, 2, none⟩ x2).setCell ⟨b, 3, none⟩ x3).cell? ⟨b, 3, none⟩ = some x3 :=
  ⟨(h.store 0 x0).cell 0, ((h.store 0 x0).store 1 x1).cell 1, (((h.store 0 x0).store 1 x1).store 2 x2).cell 2, ((((h.store 0 x0).store 1 x1).store 2 x2).store 3 x3).cell 3⟩

end Go.Proofs.YtjiljodchebniaaGreat

namespace Go.Proofs.YtjiljodchebniaaGreat
open Go.RowKit

/-- The first run that is too short. -/
def wwV (rs : List Rc) (x : Int) : Option Rc := if chkV rs x = true then firstA (allG (cellsG rs)) x else none
theorem wwV_yes {rs : List Rc} {x : Int} (h : chkV rs x = true) : wwV rs x = firstA (allG (cellsG rs)) x := if_pos h
theorem wwV_no {rs : List Rc} {x : Int} (h : chkV rs x = false) : wwV rs x = none := if_neg (by rw [h]; simp)

end Go.Proofs.YtjiljodchebniaaGreat

namespace Go.Proofs.YtjiljodchebniaaGreat
open Go.RowKit

/-- common. -/
theorem common_any (a b : Rc) (w : World) : Calls Tryz.prog 148 #[a.val, b.val] w fun e w' => e = .returned (.agg #[.int .i64 (commonR a b).x0, .int .i64 (commonR a b).y0, .int .i64 (commonR a b).x1, .int .i64 (commonR a b).y1]) ∧ Below w.heap.size w w' := by
  obtain ⟨x0, y0, x1, y1⟩ := a
  obtain ⟨u0, v0, u1, v1⟩ := b
  unfold Rc.val commonR
  dsimp only
  go_enter Tryz.func148, Tryz.ntmps148
  go_wp2
  refine bodyPost_ret (v := .agg #[.int .i64 (max x0 u0), .int .i64 (max y0 v0), .int .i64 (min x1 u1), .int .i64 (min y1 v1)]) (by simp [results, Tryz.results148, go_sem]) rfl ⟨rfl, ?_⟩
  exact ((((Below.refl _ _).alloc (Nat.le_refl _) _).alloc (by simp) _).alloc (by simp; omega) _)

theorem ret_intC {a b : Int} (h : a = b) : Ending.returned (.int .i64 a) = .returned (.int .i64 b) := by rw [h]
theorem oneG_yes {G : Gr} {i : Nat} (h : G i = true) : oneG G i = 1 := if_pos h
theorem oneG_no {G : Gr} {i : Nat} (h : G i = false) : oneG G i = 0 := if_neg (by rw [h]; simp)
theorem oneG_bounds (G : Gr) (i : Nat) : 0 ≤ oneG G i ∧ oneG G i ≤ 1 := by unfold oneG; split <;> omega
/-- What has been counted: m rows of n cells and k cells of one more. -/
def gotC (G : Gr) (b : Rc) (m k : Nat) : Int := sumI (fun y => rowC (oneG G) b.x0 y (b.x1 - b.x0).toNat) b.y0 m + rowC (oneG G) b.x0 (b.y0 + m) k
theorem rowC_bounds (G : Gr) (x0 y : Int) (n : Nat) : 0 ≤ rowC (oneG G) x0 y n ∧ rowC (oneG G) x0 y n ≤ 1 * n := sumI_bounds (by omega) n fun x => oneG_bounds G _
theorem gotC_bounds (G : Gr) {b : Rc} (hb : okRc b = true) {m k : Nat} (hm : m ≤ 80) (hk : k ≤ 80) : 0 ≤ gotC G b m k ∧ gotC G b m k ≤ 10000 := by
  rw [okRc_iff] at hb
  have h1 := sumI_bounds (f := fun y => rowC (oneG G) b.x0 y (b.x1 - b.x0).toNat) (a := b.y0) (m := 80) (by omega) m (fun y => by have := rowC_bounds G b.x0 y (b.x1 - b.x0).toNat; omega)
  have h2 := rowC_bounds G b.x0 (b.y0 + m) k
  unfold gotC
  omega
theorem gotC_zero (G : Gr) (b : Rc) (m : Nat) : gotC G b m 0 = sumI (fun y => rowC (oneG G) b.x0 y (b.x1 - b.x0).toNat) b.y0 m := by simp [gotC, rowC, sumI]
theorem gotC_start (G : Gr) (b : Rc) : gotC G b 0 0 = 0 := by simp [gotC, rowC, sumI]
theorem gotC_yes {G : Gr} {b : Rc} {m k : Nat} (h : G (ix (b.x0 + k) (b.y0 + m)).toNat = true) : gotC G b m (k + 1) = gotC G b m k + 1 := by
  simp only [gotC, rowC, sumI, oneG_yes h]
  omega
theorem gotC_no {G : Gr} {b : Rc} {m k : Nat} (h : G (ix (b.x0 + k) (b.y0 + m)).toNat = false) : gotC G b m (k + 1) = gotC G b m k := by
  simp only [gotC, rowC, sumI, oneG_no h]
  omega
theorem gotC_row {G : Gr} {b : Rc} {m k : Nat} (hk : (b.x1 - b.x0).toNat = k) : gotC G b m k = gotC G b (m + 1) 0 := by
  rw [gotC_zero, gotC, hk]; rfl
theorem gotC_all {G : Gr} {b : Rc} {m : Nat} (hm : (b.y1 - b.y0).toNat = m) : gotC G b m 0 = coverG G b := by
  rw [gotC_zero, coverG, boxC, hm]

end Go.Proofs.YtjiljodchebniaaGreat

namespace Go.Proofs.YtjiljodchebniaaGreat
open Go.RowKit

set_option maxHeartbeats 800000 in
set_option maxRecDepth 100000 in
/-- coveredCells. -/
theorem coveredCells_any (v : Value) (rs : List Rc) (b : Rc) (w : World) (hv : RL w 0 v rs) (hlen : rs.length ≤ 100000) : Calls Tryz.prog 120 #[v, b.val] w fun e w' => e = .returned (.int .i64 (sumC rs b)) ∧ Below w.heap.size w w' := by
  obtain ⟨A, c, rfl, hc, hm, -⟩ := hv.form
  have hm' : rs.length ≤ 9223372036854775807 := by omega
  have z0 := Bk.new w 75 #[.int .i64 b.x0, .int .i64 b.y0, .int .i64 b.x1, .int .i64 b.y1]
  have b0 : Below w.heap.size w (w.alloc (.cells #[.int .i64 b.x0, .int .i64 b.y0, .int .i64 b.x1, .int .i64 b.y1] 75)) := (Below.refl _ _).alloc (Nat.le_refl _) _
  unfold Rc.val
  go_enter Tryz.func120, Tryz.ntmps120
  go_wp2
  go_loopw [5, 11] (fun sv i wr => ∃ k : Nat, k ≤ rs.length ∧ i = .int .i64 k ∧ sv = .int .i64 (sumC (rs.take k) b) ∧ Bk wr w.heap.size 75 #[.int .i64 b.x0, .int .i64 b.y0, .int .i64 b.x1, .int .i64 b.y1] ∧ Below w.heap.size w wr) (fun _ i _ => rs.length - (intOf i).toNat)
  case atStart => exact ⟨0, Nat.zero_le _, rfl, rfl, z0, b0⟩
  case round =>
    obtain ⟨k, hk, rfl, rfl, hz, hb⟩ := hrel
    clear z0 b0
    by_cases hlt : k < rs.length
    · obtain ⟨g, x0, y0, x1, y1, rfl, hr, hg, f0, f1, f2, f3⟩ := (hv.on hb).elem hlt
      have Hr := Lib.hid (sumC_take_succ b hr)
      clear hr
      have hbd := sumC_bounds (rs.take k) b
      rw [List.length_take] at hbd
      have hbd2 := partC_bounds ⟨x0, y0, x1, y1⟩ b
      have hzA := hz.alloc (.cells #[.int .i64 x0, .int .i64 y0, .int .i64 x1, .int .i64 y1] 75)
      have hbA := hb.alloc hb.size (.cells #[.int .i64 x0, .int .i64 y0, .int .i64 x1, .int .i64 y1] 75)
      obtain ⟨e0, e1, e2, e3⟩ := box4 hzA
      have hbound : 0 ≤ sumC (rs.take k) b ∧ sumC (rs.take k) b ≤ 640000000 := by omega
      clear hbd
      by_cases hok : okRc (commonR ⟨x0, y0, x1, y1⟩ b) = true
      · have hp : partC ⟨x0, y0, x1, y1⟩ b = areaR (commonR ⟨x0, y0, x1, y1⟩ b) := if_pos hok
        rw [hp] at hbd2
        rw [hp] at Hr
        clear hp
        go_wp2_with (first | (go_at_call 148; refine (common_any ⟨x0, y0, x1, y1⟩ b _).mono ?_; rintro e w1 ⟨rfl, hb1⟩; have hz1 := hzA.on hb1; have t1 := hbA.trans (hb1.mono hbA.size); have hN := Bk.new w1 75 #[.int .i64 (commonR ⟨x0, y0, x1, y1⟩ b).x0, .int .i64 (commonR ⟨x0, y0, x1, y1⟩ b).y0, .int .i64 (commonR ⟨x0, y0, x1, y1⟩ b).x1, .int .i64 (commonR ⟨x0, y0, x1, y1⟩ b).y1]; have t2 := t1.alloc t1.size (.cells #[.int .i64 (commonR ⟨x0, y0, x1, y1⟩ b).x0, .int .i64 (commonR ⟨x0, y0, x1, y1⟩ b).y0, .int .i64 (commonR ⟨x0, y0, x1, y1⟩ b).x1, .int .i64 (commonR ⟨x0, y0, x1, y1⟩ b).y1] 75); have hz2 := hz1.alloc (.cells #[.int .i64 (commonR ⟨x0, y0, x1, y1⟩ b).x0, .int .i64 (commonR ⟨x0, y0, x1, y1⟩ b).y0, .int .i64 (commonR ⟨x0, y0, x1, y1⟩ b).x1, .int .i64 (commonR ⟨x0, y0, x1, y1⟩ b).y1] 75))
                           | (go_at_call 89; refine (valid_impl (commonR ⟨x0, y0, x1, y1⟩ b) _).mono ?_; rintro e w3 ⟨rfl, hb3⟩; obtain ⟨n0, n1, n2, n3⟩ := box4 (hN.on hb3))
                           | (go_at_call 121; refine (area_impl (commonR ⟨x0, y0, x1, y1⟩ b) hok _).mono ?_; rintro e w4 ⟨rfl, hb4⟩))
        have t3 := t2.trans (hb3.mono t2.size)
        exact ⟨⟨k + 1, by omega, by go_num, by rw [Hr.out], (hz2.on hb3).on hb4, t3.trans (hb4.mono t3.size)⟩, by simp [intOf]; omega⟩
      · have hp : partC ⟨x0, y0, x1, y1⟩ b = 0 := if_neg hok
        have hok' : okRc (commonR ⟨x0, y0, x1, y1⟩ b) = false := by simpa using hok
        clear hok
        rw [hp, Int.add_zero] at Hr
        clear hp hbd2
        go_wp2_with (first | (go_at_call 148; refine (common_any ⟨x0, y0, x1, y1⟩ b _).mono ?_; rintro e w1 ⟨rfl, hb1⟩; have hz1 := hzA.on hb1; have t1 := hbA.trans (hb1.mono hbA.size); have t2 := t1.alloc t1.size (.cells #[.int .i64 (commonR ⟨x0, y0, x1, y1⟩ b).x0, .int .i64 (commonR ⟨x0, y0, x1, y1⟩ b).y0, .int .i64 (commonR ⟨x0, y0, x1, y1⟩ b).x1, .int .i64 (commonR ⟨x0, y0, x1, y1⟩ b).y1] 75); have hz2 := hz1.alloc (.cells #[.int .i64 (commonR ⟨x0, y0, x1, y1⟩ b).x0, .int .i64 (commonR ⟨x0, y0, x1, y1⟩ b).y0, .int .i64 (commonR ⟨x0, y0, x1, y1⟩ b).x1, .int .i64 (commonR ⟨x0, y0, x1, y1⟩ b).y1] 75))
                           | (go_at_call 89; refine (valid_impl (commonR ⟨x0, y0, x1, y1⟩ b) _).mono ?_; rintro e w3 ⟨rfl, hb3⟩))
        exact ⟨⟨k + 1, by omega, by go_num, by rw [Hr.out], hz2.on hb3, t2.trans (hb3.mono t2.size)⟩, by simp [intOf]; omega⟩
    · go_wp2
      go_ret
      have : k = rs.length := by omega
      subst this
      rw [List.take_length]
      exact ⟨rfl, hb⟩

end Go.Proofs.YtjiljodchebniaaGreat

namespace Go.Proofs.YtjiljodchebniaaGreat
open Go.RowKit

/-- The covered cells of a box. -/
def covV (rs : List Rc) (b : Rc) : Int := if isReg rs = true ∧ okRc b = true then coverG (cellsG rs) b else -1
theorem covV_yes {rs : List Rc} {b : Rc} (h : isReg rs = true) (hb : okRc b = true) : covV rs b = coverG (cellsG rs) b := if_pos ⟨h, hb⟩
theorem covV_no {rs : List Rc} {b : Rc} (h : isReg rs = false) : covV rs b = -1 := if_neg (by rw [h]; simp)
theorem covV_bad {rs : List Rc} {b : Rc} (h : okRc b = false) : covV rs b = -1 := if_neg (by rw [h]; simp)
theorem len_reg {rs : List Rc} (h : isReg rs = true) : rs.length ≤ 100000 := Nat.le_trans ((isReg_iff rs).1 h).1 (by omega)

end Go.Proofs.YtjiljodchebniaaGreat
