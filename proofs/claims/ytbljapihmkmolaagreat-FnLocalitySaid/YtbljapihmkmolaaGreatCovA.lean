/- Contracts: common, coveredCells, l19Covered. Conditions: valid rectangles. Contracts: coveredCells; CoveredCells of the reference and of the program. No conditions. Contracts: CoveredCells of the reference and of the program. No conditions. -/
import Derived.Test.YtbljapihmkmolaaGreatMathA
import Derived.Test.YtbljapihmkmolaaGreatWidthA
import Derived.Test.YtbljapihmkmolaaGreatAllRuns
import Derived.Deep.RegionHeld3
namespace Go.Proofs.YtbljapihmkmolaaGreat
open Go.RowKit

/-- common. -/
theorem common_any (a b : Rc) (w : World) : Calls Tryz.prog 94 #[a.val, b.val] w fun e w' => e = .returned (.agg #[.int .i64 (commonR a b).x0, .int .i64 (commonR a b).y0, .int .i64 (commonR a b).x1, .int .i64 (commonR a b).y1]) ∧ Below w.heap.size w w' := by
  obtain ⟨x0, y0, x1, y1⟩ := a
  obtain ⟨u0, v0, u1, v1⟩ := b
  unfold Rc.val commonR
  dsimp only
  go_enter Tryz.func94, Tryz.ntmps94
  go_wp2
  refine bodyPost_ret (v := .agg #[.int .i64 (max x0 u0), .int .i64 (max y0 v0), .int .i64 (min x1 u1), .int .i64 (min y1 v1)]) (by simp [results, Tryz.results94, go_sem]) rfl ⟨rfl, ?_⟩
  exact ((((Below.refl _ _).alloc (Nat.le_refl _) _).alloc (by simp) _).alloc (by simp; omega) _)

theorem ret_intC {a b : Int} (h : a = b) : Ending.returned (.int .i64 a) = .returned (.int .i64 b) := by rw [h]
theorem oneG_yes {G : Gr} {i : Nat} (h : G i = true) : oneG G i = 1 := if_pos h
theorem oneG_no {G : Gr} {i : Nat} (h : G i = false) : oneG G i = 0 := if_neg (by rw [h]; simp)
theorem oneG_bounds (G : Gr) (i : Nat) : 0 ≤ oneG G i ∧ oneG G i ≤ 1 := by unfold oneG; split <;> omega
/-- What has been counted: m rows of n cells and k cells of one more. -/
def gotC (G : Gr) (b : Rc) (m k : Nat) : Int := sumI (fun y => rowC (oneG G) b.x0 y (b.x1 - b.x0).toNat) b.y0 m + rowC (oneG G) b.x0 (b.y0 + m) k
theorem rowC_bounds (G : Gr) (x0 y : Int) (n : Nat) : 0 ≤ rowC (oneG G) x0 y n ∧ rowC (oneG G) x0 y n ≤ 1 * n := sumI_bounds (by omega) n fun x => oneG_bounds G _
theorem gotC_bounds (G : Gr) {b : Rc} (hb : okRc b = true) {m k : Nat} (hm : m ≤ 80) (hk : k ≤ 80) : 0 ≤ gotC G b m k ∧ gotC G b m k ≤ 10000 := by
  rw [okRc_iff] at hb
  have h1 := sumI_bounds (f := fun y => rowC (oneG G) b.x0 y (b.x1 - b.x0).toNat) (a := b.y0) (m := 80) (by omega) m (fun y => by have := rowC_bounds G b.x0 y (b.x1 - b.x0).toNat; omega)
  have h2 := rowC_bounds G b.x0 (b.y0 + m) k
  unfold gotC
  omega
theorem gotC_zero (G : Gr) (b : Rc) (m : Nat) : gotC G b m 0 = sumI (fun y => rowC (oneG G) b.x0 y (b.x1 - b.x0).toNat) b.y0 m := by simp [gotC, rowC, sumI]
theorem gotC_start (G : Gr) (b : Rc) : gotC G b 0 0 = 0 := by simp [gotC, rowC, sumI]
theorem gotC_yes {G : Gr} {b : Rc} {m k : Nat} (h : G (ix (b.x0 + k) (b.y0 + m)).toNat = true) : gotC G b m (k + 1) = gotC G b m k + 1 := by
  simp only [gotC, rowC, sumI, oneG_yes h]
  omega
theorem gotC_no {G : Gr} {b : Rc} {m k : Nat} (h : G (ix (b.x0 + k) (b.y0 + m)).toNat = false) : gotC G b m (k + 1) = gotC G b m k := by
  simp only [gotC, rowC, sumI, oneG_no h]
  omega
theorem gotC_row {G : Gr} {b : Rc} {m k : Nat} (hk : (b.x1 - b.x0).toNat = k) : gotC G b m k = gotC G b (m + 1) 0 := by
  rw [gotC_zero, gotC, hk]; rfl
theorem gotC_all {G : Gr} {b : Rc} {m : Nat} (hm : (b.y1 - b.y0).toNat = m) : gotC G b m 0 = coverG G b := by
  rw [gotC_zero, coverG, boxC, hm]

set_option maxHeartbeats 800000 in
set_option maxRecDepth 100000 in
/-- l19Covered. -/
theorem l19Covered_any (v : Value) (G : Gr) (b : Rc) (w : World) (hG : GS w 0 v G) (hok : okRc b = true) : Calls Tryz.prog 113 #[v, b.val] w fun e w' => e = .returned (.int .i64 (coverG G b)) ∧ Below w.heap.size w w' := by
  obtain ⟨g, c, rfl, -, hg⟩ := hG
  have Hok := Lib.hid hok
  have hval := (okRc_iff b).1 hok
  clear hok
  obtain ⟨x0, y0, x1, y1⟩ := b
  have Hs := Lib.hid (gotC_start G ⟨x0, y0, x1, y1⟩)
  unfold Rc.val
  dsimp only at hval ⊢
  have hgA := hg.alloc (.cells #[.int .i64 x0, .int .i64 y0, .int .i64 x1, .int .i64 y1] 80)
  have hbA : Below w.heap.size w (w.alloc (.cells #[.int .i64 x0, .int .i64 y0, .int .i64 x1, .int .i64 y1] 80)) := (Below.refl _ _).alloc (Nat.le_refl _) _
  have hB := Bk.new w 80 #[.int .i64 x0, .int .i64 y0, .int .i64 x1, .int .i64 y1]
  obtain ⟨f0, f1, f2, f3⟩ := box4 hB
  clear hg
  go_enter Tryz.func113, Tryz.ntmps113
  go_wp2
  go_loop [5, 6] (fun nv yv => ∃ m : Nat, y0 + m ≤ y1 ∧ yv = .int .i64 (y0 + m) ∧ nv = .int .i64 (gotC G ⟨x0, y0, x1, y1⟩ m 0)) (fun _ yv => (40 - intOf yv).toNat)
  case atStart => exact ⟨0, by omega, by simp, by rw [Hs.out]⟩
  case round =>
    obtain ⟨m, hm, rfl, rfl⟩ := hrel
    by_cases hy : y0 + (m : Int) < y1
    · go_wp2
      go_loop [5, 7] (fun nv xv => ∃ k : Nat, x0 + k ≤ x1 ∧ xv = .int .i64 (x0 + k) ∧ nv = .int .i64 (gotC G ⟨x0, y0, x1, y1⟩ m k)) (fun _ xv => (40 - intOf xv).toNat)
      case atStart => exact ⟨0, by omega, by simp, rfl⟩
      case round =>
        obtain ⟨k, hk, rfl, rfl⟩ := hrel
        have hbd := gotC_bounds G Hok.out (m := m) (k := k) (by omega) (by omega)
        by_cases hx : x0 + (k : Int) < x1
        · have hon : onC (x0 + k) (y0 + m) = true := (onC_iff _ _).2 (by omega)
          have hc := hgA.ix_ hon
          have hi : 0 ≤ ix (x0 + k) (y0 + m) ∧ ix (x0 + k) (y0 + m) < 6400 := by unfold ix; omega
          clear hon
          by_cases hG : G (ix (x0 + k) (y0 + m)).toNat = true
          · have He := Lib.hid (gotC_yes (b := ⟨x0, y0, x1, y1⟩) hG)
            go_wp2_with (go_at_call 158; refine (l17At_any _ _ (by omega) _).mono ?_; rintro e w1 ⟨rfl, rfl⟩)
            exact ⟨⟨k + 1, by omega, by go_num, by rw [He.out]⟩, by simp [intOf]; omega⟩
          · have hG' : G (ix (x0 + k) (y0 + m)).toNat = false := by simpa using hG
            clear hG
            have He := Lib.hid (gotC_no (b := ⟨x0, y0, x1, y1⟩) hG')
            go_wp2_with (go_at_call 158; refine (l17At_any _ _ (by omega) _).mono ?_; rintro e w1 ⟨rfl, rfl⟩)
            exact ⟨⟨k + 1, by omega, by go_num, by rw [He.out]⟩, by simp [intOf]; omega⟩
        · have He := Lib.hid (gotC_row (G := G) (b := ⟨x0, y0, x1, y1⟩) (m := m) (k := k) (by dsimp only; omega))
          go_wp2
          exact ⟨⟨m + 1, by omega, by go_num, by rw [He.out]⟩, by simp [intOf]; omega⟩
    · have He := Lib.hid (gotC_all (G := G) (b := ⟨x0, y0, x1, y1⟩) (m := m) (by dsimp only; omega))
      go_wp2
      go_ret
      exact ⟨ret_intC He.out, hbA⟩

end Go.Proofs.YtbljapihmkmolaaGreat

namespace Go.Proofs.YtbljapihmkmolaaGreat
open Go.RowKit

set_option maxHeartbeats 800000 in
set_option maxRecDepth 100000 in
/-- coveredCells. -/
theorem coveredCells_any (v : Value) (rs : List Rc) (b : Rc) (w : World) (hv : RL w 0 v rs) (hlen : rs.length ≤ 100000) : Calls Tryz.prog 171 #[v, b.val] w fun e w' => e = .returned (.int .i64 (sumC rs b)) ∧ Below w.heap.size w w' := by
  obtain ⟨A, c, rfl, hc, hm, -⟩ := hv.form
  have hm' : rs.length ≤ 9223372036854775807 := by omega
  have z0 := Bk.new w 80 #[.int .i64 b.x0, .int .i64 b.y0, .int .i64 b.x1, .int .i64 b.y1]
  have b0 : Below w.heap.size w (w.alloc (.cells #[.int .i64 b.x0, .int .i64 b.y0, .int .i64 b.x1, .int .i64 b.y1] 80)) := (Below.refl _ _).alloc (Nat.le_refl _) _
  unfold Rc.val
  go_enter Tryz.func171, Tryz.ntmps171
  go_wp2
  go_loopw [5, 11] (fun sv i wr => ∃ k : Nat, k ≤ rs.length ∧ i = .int .i64 k ∧ sv = .int .i64 (sumC (rs.take k) b) ∧ Bk wr w.heap.size 80 #[.int .i64 b.x0, .int .i64 b.y0, .int .i64 b.x1, .int .i64 b.y1] ∧ Below w.heap.size w wr) (fun _ i _ => rs.length - (intOf i).toNat)
  case atStart => exact ⟨0, Nat.zero_le _, rfl, rfl, z0, b0⟩
  case round =>
    obtain ⟨k, hk, rfl, rfl, hz, hb⟩ := hrel
    clear z0 b0
    by_cases hlt : k < rs.length
    · obtain ⟨g, x0, y0, x1, y1, rfl, hr, hg, f0, f1, f2, f3⟩ := (hv.on hb).elem hlt
      have Hr := Lib.hid (sumC_take_succ b hr)
      clear hr
      have hbd := sumC_bounds (rs.take k) b
      rw [List.length_take] at hbd
      have hbd2 := partC_bounds ⟨x0, y0, x1, y1⟩ b
      have hzA := hz.alloc (.cells #[.int .i64 x0, .int .i64 y0, .int .i64 x1, .int .i64 y1] 80)
      have hbA := hb.alloc hb.size (.cells #[.int .i64 x0, .int .i64 y0, .int .i64 x1, .int .i64 y1] 80)
      obtain ⟨e0, e1, e2, e3⟩ := box4 hzA
      have hbound : 0 ≤ sumC (rs.take k) b ∧ sumC (rs.take k) b ≤ 640000000 := by omega
      clear hbd
      by_cases hok : okRc (commonR ⟨x0, y0, x1, y1⟩ b) = true
      · have hp : partC ⟨x0, y0, x1, y1⟩ b = areaR (commonR ⟨x0, y0, x1, y1⟩ b) := if_pos hok
        rw [hp] at hbd2
        rw [hp] at Hr
        clear hp
        go_wp2_with (first | (go_at_call 94; refine (common_any ⟨x0, y0, x1, y1⟩ b _).mono ?_; rintro e w1 ⟨rfl, hb1⟩; have hz1 := hzA.on hb1; have t1 := hbA.trans (hb1.mono hbA.size); have hN := Bk.new w1 80 #[.int .i64 (commonR ⟨x0, y0, x1, y1⟩ b).x0, .int .i64 (commonR ⟨x0, y0, x1, y1⟩ b).y0, .int .i64 (commonR ⟨x0, y0, x1, y1⟩ b).x1, .int .i64 (commonR ⟨x0, y0, x1, y1⟩ b).y1]; have t2 := t1.alloc t1.size (.cells #[.int .i64 (commonR ⟨x0, y0, x1, y1⟩ b).x0, .int .i64 (commonR ⟨x0, y0, x1, y1⟩ b).y0, .int .i64 (commonR ⟨x0, y0, x1, y1⟩ b).x1, .int .i64 (commonR ⟨x0, y0, x1, y1⟩ b).y1] 80); have hz2 := hz1.alloc (.cells #[.int .i64 (commonR ⟨x0, y0, x1, y1⟩ b).x0, .int .i64 (commonR ⟨x0, y0, x1, y1⟩ b).y0, .int .i64 (commonR ⟨x0, y0, x1, y1⟩ b).x1, .int .i64 (commonR ⟨x0, y0, x1, y1⟩ b).y1] 80))
                           | (go_at_call 92; refine (valid_impl (commonR ⟨x0, y0, x1, y1⟩ b) _).mono ?_; rintro e w3 ⟨rfl, hb3⟩; obtain ⟨n0, n1, n2, n3⟩ := box4 (hN.on hb3))
                           | (go_at_call 172; refine (area_impl (commonR ⟨x0, y0, x1, y1⟩ b) hok _).mono ?_; rintro e w4 ⟨rfl, hb4⟩))
        have t3 := t2.trans (hb3.mono t2.size)
        exact ⟨⟨k + 1, by omega, by go_num, by rw [Hr.out], (hz2.on hb3).on hb4, t3.trans (hb4.mono t3.size)⟩, by simp [intOf]; omega⟩
      · have hp : partC ⟨x0, y0, x1, y1⟩ b = 0 := if_neg hok
        have hok' : okRc (commonR ⟨x0, y0, x1, y1⟩ b) = false := by simpa using hok
        clear hok
        rw [hp, Int.add_zero] at Hr
        clear hp hbd2
        go_wp2_with (first | (go_at_call 94; refine (common_any ⟨x0, y0, x1, y1⟩ b _).mono ?_; rintro e w1 ⟨rfl, hb1⟩; have hz1 := hzA.on hb1; have t1 := hbA.trans (hb1.mono hbA.size); have t2 := t1.alloc t1.size (.cells #[.int .i64 (commonR ⟨x0, y0, x1, y1⟩ b).x0, .int .i64 (commonR ⟨x0, y0, x1, y1⟩ b).y0, .int .i64 (commonR ⟨x0, y0, x1, y1⟩ b).x1, .int .i64 (commonR ⟨x0, y0, x1, y1⟩ b).y1] 80); have hz2 := hz1.alloc (.cells #[.int .i64 (commonR ⟨x0, y0, x1, y1⟩ b).x0, .int .i64 (commonR ⟨x0, y0, x1, y1⟩ b).y0, .int .i64 (commonR ⟨x0, y0, x1, y1⟩ b).x1, .int .i64 (commonR ⟨x0, y0, x1, y1⟩ b).y1] 80))
                           | (go_at_call 92; refine (valid_impl (commonR ⟨x0, y0, x1, y1⟩ b) _).mono ?_; rintro e w3 ⟨rfl, hb3⟩))
        exact ⟨⟨k + 1, by omega, by go_num, by rw [Hr.out], hz2.on hb3, t2.trans (hb3.mono t2.size)⟩, by simp [intOf]; omega⟩
    · go_wp2
      go_ret
      have : k = rs.length := by omega
      subst this
      rw [List.take_length]
      exact ⟨rfl, hb⟩

end Go.Proofs.YtbljapihmkmolaaGreat

namespace Go.Proofs.YtbljapihmkmolaaGreat
open Go.RowKit

/-- The covered cells of a box. -/
def covV (rs : List Rc) (b : Rc) : Int := if isReg rs = true ∧ okRc b = true then coverG (cellsG rs) b else -1
theorem covV_yes {rs : List Rc} {b : Rc} (h : isReg rs = true) (hb : okRc b = true) : covV rs b = coverG (cellsG rs) b := if_pos ⟨h, hb⟩
theorem covV_no {rs : List Rc} {b : Rc} (h : isReg rs = false) : covV rs b = -1 := if_neg (by rw [h]; simp)
theorem covV_bad {rs : List Rc} {b : Rc} (h : okRc b = false) : covV rs b = -1 := if_neg (by rw [h]; simp)
theorem len_reg {rs : List Rc} (h : isReg rs = true) : rs.length ≤ 100000 := Nat.le_trans ((isReg_iff rs).1 h).1 (by omega)

end Go.Proofs.YtbljapihmkmolaaGreat
