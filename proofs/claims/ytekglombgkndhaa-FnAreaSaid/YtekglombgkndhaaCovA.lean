/- Contracts: common, coveredCells, l19Covered. Conditions: valid rectangles. Contracts: coveredCells; CoveredCells of the reference and of the program. No conditions. Contracts: CoveredCells of the reference and of the program. No conditions. -/
import Derived.Test.YtekglombgkndhaaMathA
import Derived.Test.YtekglombgkndhaaWidthA
import Derived.Test.YtekglombgkndhaaAllRuns
import Derived.Deep.RegionHeld3
namespace Go.Proofs.Ytekglombgkndhaa
open Go.RowKit

/-- common. -/
theorem common_any (a b : Rc) (w : World) : Calls Try.prog 54 #[a.val, b.val] w fun e w' => e = .returned (.agg #[.int .i64 (commonR a b).x0, .int .i64 (commonR a b).y0, .int .i64 (commonR a b).x1, .int .i64 (commonR a b).y1]) ∧ Below w.heap.size w w' := by
  obtain ⟨x0, y0, x1, y1⟩ := a
  obtain ⟨u0, v0, u1, v1⟩ := b
  unfold Rc.val commonR
  dsimp only
  go_enter Try.func54, Try.ntmps54
  go_wp2
  refine bodyPost_ret (v := .agg #[.int .i64 (max x0 u0), .int .i64 (max y0 v0), .int .i64 (min x1 u1), .int .i64 (min y1 v1)]) (by simp [results, Try.results54, go_sem]) rfl ⟨rfl, ?_⟩
  exact ((((Below.refl _ _).alloc (Nat.le_refl _) _).alloc (by simp) _).alloc (by simp; omega) _)

theorem ret_intC {a b : Int} (h : a = b) : Ending.returned (.int .i64 a) = .returned (.int .i64 b) := by rw [h]
theorem oneG_yes {G : Gr} {i : Nat} (h : G i = true) : oneG G i = 1 := if_pos h
theorem oneG_no {G : Gr} {i : Nat} (h : G i = false) : oneG G i = 0 := if_neg (by rw [h]; simp)
theorem oneG_bounds (G : Gr) (i : Nat) : 0 ≤ oneG G i ∧ oneG G i ≤ 1 := by unfold oneG; split <;> omega
/-- What has been counted: m rows of n cells and k cells of one more. -/
def gotC (G : Gr) (b : Rc) (m k : Nat) : Int := sumI (fun y => rowC (oneG G) b.x0 y (b.x1 - b.x0).toNat) b.y0 m + rowC (oneG G) b.x0 (b.y0 + m) k
theorem rowC_bounds (G : Gr) (x0 y : Int) (n : Nat) : 0 ≤ rowC (oneG G) x0 y n ∧ rowC (oneG G) x0 y n ≤ 1 * n := sumI_bounds (by omega) n fun x => oneG_bounds G _
theorem gotC_bounds (G : Gr) {b : Rc} (hb : okRc b = true) {m k : Nat} (hm : m ≤ 80) (hk : k ≤ 80) : 0 ≤ gotC G b m k ∧ gotC G b m k ≤ 10000 := by
  rw [okRc_iff] at hb
  have h1 := sumI_bounds (f := fun y => rowC (oneG G) b.x0 y (b.x1 - b.x0).toNat) (a := b.y0) (m := 80) (by omega) m (fun y => by have := rowC_bounds G b.x0 y (b.x1 - b.x0).toNat; omega)
  have h2 := rowC_bounds G b.x0 (b.y0 + m) k
  unfold gotC
  omega
theorem gotC_zero (G : Gr) (b : Rc) (m : Nat) : gotC G b m 0 = sumI (fun y => rowC (oneG G) b.x0 y (b.x1 - b.x0).toNat) b.y0 m := by simp [gotC, rowC, sumI]
theorem gotC_start (G : Gr) (b : Rc) : gotC G b 0 0 = 0 := by simp [gotC, rowC, sumI]
theorem gotC_yes {G : Gr} {b : Rc} {m k : Nat} (h : G (ix (b.x0 + k) (b.y0 + m)).toNat = true) : gotC G b m (k + 1) = gotC G b m k + 1 := by
  simp only [gotC, rowC, sumI, oneG_yes h]
  omega
theorem gotC_no {G : Gr} {b : Rc} {m k : Nat} (h : G (ix (b.x0 + k) (b.y0 + m)).toNat = false) : gotC G b m (k + 1) = gotC G b m k := by
  simp only [gotC, rowC, sumI, oneG_no h]
  omega
theorem gotC_row {G : Gr} {b : Rc} {m k : Nat} (hk : (b.x1 - b.x0).toNat = k) : gotC G b m k = gotC G b (m + 1) 0 := by
  rw [gotC_zero, gotC, hk]; rfl
theorem gotC_all {G : Gr} {b : Rc} {m : Nat} (hm : (b.y1 - b.y0).toNat = m) : gotC G b m 0 = coverG G b := by
  rw [gotC_zero, coverG, boxC, hm]

end Go.Proofs.Ytekglombgkndhaa

namespace Go.Proofs.Ytekglombgkndhaa
open Go.RowKit

set_option maxHeartbeats 800000 in
set_option maxRecDepth 100000 in
/-- coveredCells. -/
theorem coveredCells_any (v : Value) (rs : List Rc) (b : Rc) (w : World) (hv : RL w 0 v rs) (hlen : rs.length ≤ 100000) : Calls Try.prog 41 #[v, b.val] w fun e w' => e = .returned (.int .i64 (sumC rs b)) ∧ Below w.heap.size w w' := by
  obtain ⟨A, c, rfl, hc, hm, -⟩ := hv.form
  have hm' : rs.length ≤ 9223372036854775807 := by omega
  have z0 := Bk.new w 44 #[.int .i64 b.x0, .int .i64 b.y0, .int .i64 b.x1, .int .i64 b.y1]
  have b0 : Below w.heap.size w (w.alloc (.cells #[.int .i64 b.x0, .int .i64 b.y0, .int .i64 b.x1, .int .i64 b.y1] 44)) := (Below.refl _ _).alloc (Nat.le_refl _) _
  unfold Rc.val
  go_enter Try.func41, Try.ntmps41
  go_wp2
  go_loopw [5, 11] (fun sv i wr => ∃ k : Nat, k ≤ rs.length ∧ i = .int .i64 k ∧ sv = .int .i64 (sumC (rs.take k) b) ∧ Bk wr w.heap.size 44 #[.int .i64 b.x0, .int .i64 b.y0, .int .i64 b.x1, .int .i64 b.y1] ∧ Below w.heap.size w wr) (fun _ i _ => rs.length - (intOf i).toNat)
  case atStart => exact ⟨0, Nat.zero_le _, rfl, rfl, z0, b0⟩
  case round =>
    obtain ⟨k, hk, rfl, rfl, hz, hb⟩ := hrel
    clear z0 b0
    by_cases hlt : k < rs.length
    · obtain ⟨g, x0, y0, x1, y1, rfl, hr, hg, f0, f1, f2, f3⟩ := (hv.on hb).elem hlt
      have Hr := Lib.hid (sumC_take_succ b hr)
      clear hr
      have hbd := sumC_bounds (rs.take k) b
      rw [List.length_take] at hbd
      have hbd2 := partC_bounds ⟨x0, y0, x1, y1⟩ b
      have hzA := hz.alloc (.cells #[.int .i64 x0, .int .i64 y0, .int .i64 x1, .int .i64 y1] 44)
      have hbA := hb.alloc hb.size (.cells #[.int .i64 x0, .int .i64 y0, .int .i64 x1, .int .i64 y1] 44)
      obtain ⟨e0, e1, e2, e3⟩ := box4 hzA
      have hbound : 0 ≤ sumC (rs.take k) b ∧ sumC (rs.take k) b ≤ 640000000 := by omega
      clear hbd
      by_cases hok : okRc (commonR ⟨x0, y0, x1, y1⟩ b) = true
      · have hp : partC ⟨x0, y0, x1, y1⟩ b = areaR (commonR ⟨x0, y0, x1, y1⟩ b) := if_pos hok
        rw [hp] at hbd2
        rw [hp] at Hr
        clear hp
        go_wp2_with (first | (go_at_call 54; refine (common_any ⟨x0, y0, x1, y1⟩ b _).mono ?_; rintro e w1 ⟨rfl, hb1⟩; have hz1 := hzA.on hb1; have t1 := hbA.trans (hb1.mono hbA.size); have hN := Bk.new w1 44 #[.int .i64 (commonR ⟨x0, y0, x1, y1⟩ b).x0, .int .i64 (commonR ⟨x0, y0, x1, y1⟩ b).y0, .int .i64 (commonR ⟨x0, y0, x1, y1⟩ b).x1, .int .i64 (commonR ⟨x0, y0, x1, y1⟩ b).y1]; have t2 := t1.alloc t1.size (.cells #[.int .i64 (commonR ⟨x0, y0, x1, y1⟩ b).x0, .int .i64 (commonR ⟨x0, y0, x1, y1⟩ b).y0, .int .i64 (commonR ⟨x0, y0, x1, y1⟩ b).x1, .int .i64 (commonR ⟨x0, y0, x1, y1⟩ b).y1] 44); have hz2 := hz1.alloc (.cells #[.int .i64 (commonR ⟨x0, y0, x1, y1⟩ b).x0, .int .i64 (commonR ⟨x0, y0, x1, y1⟩ b).y0, .int .i64 (commonR ⟨x0, y0, x1, y1⟩ b).x1, .int .i64 (commonR ⟨x0, y0, x1, y1⟩ b).y1] 44))
                           | (go_at_call 40; refine (valid_impl (commonR ⟨x0, y0, x1, y1⟩ b) _).mono ?_; rintro e w3 ⟨rfl, hb3⟩; obtain ⟨n0, n1, n2, n3⟩ := box4 (hN.on hb3))
                           | (go_at_call 42; refine (area_impl (commonR ⟨x0, y0, x1, y1⟩ b) hok _).mono ?_; rintro e w4 ⟨rfl, hb4⟩))
        have t3 := t2.trans (hb3.mono t2.size)
        exact ⟨⟨k + 1, by omega, by go_num, by rw [Hr.out], (hz2.on hb3).on hb4, t3.trans (hb4.mono t3.size)⟩, by simp [intOf]; omega⟩
      · have hp : partC ⟨x0, y0, x1, y1⟩ b = 0 := if_neg hok
        have hok' : okRc (commonR ⟨x0, y0, x1, y1⟩ b) = false := by simpa using hok
        clear hok
        rw [hp, Int.add_zero] at Hr
        clear hp hbd2
        go_wp2_with (first | (go_at_call 54; refine (common_any ⟨x0, y0, x1, y1⟩ b _).mono ?_; rintro e w1 ⟨rfl, hb1⟩; have hz1 := hzA.on hb1; have t1 := hbA.trans (hb1.mono hbA.size); have t2 := t1.alloc t1.size (.cells #[.int .i64 (commonR ⟨x0, y0, x1, y1⟩ b).x0, .int .i64 (commonR ⟨x0, y0, x1, y1⟩ b).y0, .int .i64 (commonR ⟨x0, y0, x1, y1⟩ b).x1, .int .i64 (commonR ⟨x0, y0, x1, y1⟩ b).y1] 44); have hz2 := hz1.alloc (.cells #[.int .i64 (commonR ⟨x0, y0, x1, y1⟩ b).x0, .int .i64 (commonR ⟨x0, y0, x1, y1⟩ b).y0, .int .i64 (commonR ⟨x0, y0, x1, y1⟩ b).x1, .int .i64 (commonR ⟨x0, y0, x1, y1⟩ b).y1] 44))
                           | (go_at_call 40; refine (valid_impl (commonR ⟨x0, y0, x1, y1⟩ b) _).mono ?_; rintro e w3 ⟨rfl, hb3⟩))
        exact ⟨⟨k + 1, by omega, by go_num, by rw [Hr.out], hz2.on hb3, t2.trans (hb3.mono t2.size)⟩, by simp [intOf]; omega⟩
    · go_wp2
      go_ret
      have : k = rs.length := by omega
      subst this
      rw [List.take_length]
      exact ⟨rfl, hb⟩

end Go.Proofs.Ytekglombgkndhaa

namespace Go.Proofs.Ytekglombgkndhaa
open Go.RowKit

/-- The covered cells of a box. -/
def covV (rs : List Rc) (b : Rc) : Int := if isReg rs = true ∧ okRc b = true then coverG (cellsG rs) b else -1
theorem covV_yes {rs : List Rc} {b : Rc} (h : isReg rs = true) (hb : okRc b = true) : covV rs b = coverG (cellsG rs) b := if_pos ⟨h, hb⟩
theorem covV_no {rs : List Rc} {b : Rc} (h : isReg rs = false) : covV rs b = -1 := if_neg (by rw [h]; simp)
theorem covV_bad {rs : List Rc} {b : Rc} (h : okRc b = false) : covV rs b = -1 := if_neg (by rw [h]; simp)
theorem len_reg {rs : List Rc} (h : isReg rs = true) : rs.length ≤ 100000 := Nat.le_trans ((isReg_iff rs).1 h).1 (by omega)

set_option maxHeartbeats 400000 in
set_option maxRecDepth 100000 in
theorem cov_impl (v : Value) (rs : List Rc) (b : Rc) (w : World) (hv : RL w 0 v rs) : Calls Try.prog 23 #[v, b.val] w fun e w' => e = .returned (.int .i64 (covV rs b)) ∧ Below w.heap.size w w' := by
  have hvA := hv.alloc (.cells #[.int .i64 b.x0, .int .i64 b.y0, .int .i64 b.x1, .int .i64 b.y1] 44)
  have z0 := Bk.new w 44 #[.int .i64 b.x0, .int .i64 b.y0, .int .i64 b.x1, .int .i64 b.y1]
  have b0 : Below w.heap.size w (w.alloc (.cells #[.int .i64 b.x0, .int .i64 b.y0, .int .i64 b.x1, .int .i64 b.y1] 44)) := (Below.refl _ _).alloc (Nat.le_refl _) _
  by_cases h : isReg rs = true
  · by_cases hb : okRc b = true
    · rw [covV_yes h hb, cover_reg h hb]
      have hl := len_reg h
      unfold Rc.val
      go_enter Try.func23, Try.ntmps23
      go_wp2_with (first | (go_at_call 19; refine (isRegion_any v rs _ hvA).mono ?_; rintro e w1 ⟨rfl, hb1⟩; have hz1 := z0.on hb1; obtain ⟨e0, e1, e2, e3⟩ := box4 hz1; have t1 := b0.trans (hb1.mono b0.size))
                         | (go_at_call 40; refine (valid_impl b _).mono ?_; rintro e w2 ⟨rfl, hb2⟩; obtain ⟨d0, d1, d2, d3⟩ := box4 (hz1.on hb2); have t2 := t1.trans (hb2.mono t1.size); have hv2 := (hvA.on hb1).on hb2)
                         | (go_at_call 41; refine (coveredCells_any v rs b _ hv2 hl).mono ?_; rintro e w3 ⟨rfl, hb3⟩))
      go_ret
      exact ⟨rfl, t2.trans (hb3.mono t2.size)⟩
    · have hb' : okRc b = false := by simpa using hb
      clear hb
      rw [covV_bad hb']
      unfold Rc.val
      go_enter Try.func23, Try.ntmps23
      go_wp2_with (first | (go_at_call 19; refine (isRegion_any v rs _ hvA).mono ?_; rintro e w1 ⟨rfl, hb1⟩; have hz1 := z0.on hb1; obtain ⟨e0, e1, e2, e3⟩ := box4 hz1; have t1 := b0.trans (hb1.mono b0.size))
                         | (go_at_call 40; refine (valid_impl b _).mono ?_; rintro e w2 ⟨rfl, hb2⟩))
      go_ret
      exact ⟨rfl, t1.trans (hb2.mono t1.size)⟩
  · have h' : isReg rs = false := by simpa using h
    clear h
    rw [covV_no h']
    unfold Rc.val
    go_enter Try.func23, Try.ntmps23
    go_wp2_with (go_at_call 19; refine (isRegion_any v rs _ hvA).mono ?_; rintro e w1 ⟨rfl, hb1⟩)
    go_ret
    exact ⟨rfl, b0.trans (hb1.mono b0.size)⟩

end Go.Proofs.Ytekglombgkndhaa
