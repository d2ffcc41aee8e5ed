/- Contracts: common, coveredCells, l19Covered. Conditions: valid rectangles. -/
import Derived.Test.YthifinolgbjekaaCovMath
import Derived.Test.YthifinolgbjekaaShort1
import Derived.Test.YthifinolgbjekaaRun17
namespace Go.Proofs.Ythifinolgbjekaa
open Go.RowKit

/-- common. -/
theorem common_any (a b : Rc) (w : World) : Calls Try.prog 97 #[a.val, b.val] w fun e w' => e = .returned (.agg #[.int .i64 (commonR a b).x0, .int .i64 (commonR a b).y0, .int .i64 (commonR a b).x1, .int .i64 (commonR a b).y1]) ∧ Below w.heap.size w w' := by
  obtain ⟨x0, y0, x1, y1⟩ := a
  obtain ⟨u0, v0, u1, v1⟩ := b
  unfold Rc.val commonR
  dsimp only
  go_enter Try.func97, Try.ntmps97
  go_wp2
  refine bodyPost_ret (v := .agg #[.int .i64 (max x0 u0), .int .i64 (max y0 v0), .int .i64 (min x1 u1), .int .i64 (min y1 v1)]) (by simp [results, Try.results97, go_sem]) rfl ⟨rfl, ?_⟩
  exact ((((Below.refl _ _).alloc (Nat.le_refl _) _).alloc (by simp) _).alloc (by simp; omega) _)

theorem ret_intC {a b : Int} (h : a = b) : Ending.returned (.int .i64 a) = .returned (.int .i64 b) := by rw [h]
theorem oneG_yes {G : Gr} {i : Nat} (h : G i = true) : oneG G i = 1 := if_pos h
theorem oneG_no {G : Gr} {i : Nat} (h : G i = false) : oneG G i = 0 := if_neg (by rw [h]; simp)
theorem oneG_bounds (G : Gr) (i : Nat) : 0 ≤ oneG G i ∧ oneG G i ≤ 1 := by unfold oneG; split <;> omega
/-- What has been counted: m rows of n cells and k cells of one more. -/
def gotC (G : Gr) (b : Rc) (m k : Nat) : Int := sumI (fun y => rowC (oneG G) b.x0 y (b.x1 - b.x0).toNat) b.y0 m + rowC (oneG G) b.x0 (b.y0 + m) k
theorem rowC_bounds (G : Gr) (x0 y : Int) (n : Nat) : 0 ≤ rowC (oneG G) x0 y n ∧ rowC (oneG G) x0 y n ≤ 1 * n := sumI_bounds (by omega) n fun x => oneG_bounds G _
theorem gotC_bounds (G : Gr) {b : Rc} (hb : okRc b = true) {m k : Nat} (hm : m ≤ 80) (hk : k ≤ 80) : 0 ≤ gotC G b m k ∧ gotC G b m k ≤ 10000 := by
  rw [okRc_iff] at hb
  have h1 := sumI_bounds (f := fun y => rowC (oneG G) b.x0 y (b.x1 - b.x0).toNat) (a := b.y0) (m := 80) (by omega) m (fun y => by have := rowC_bounds G b.x0 y (b.x1 - b.x0).toNat; omega)
  have h2 := rowC_bounds G b.x0 (b.y0 + m) k
  unfold gotC
  omega
theorem gotC_zero (G : Gr) (b : Rc) (m : Nat) : gotC G b m 0 = sumI (fun y => rowC (oneG G) b.x0 y (b.x1 - b.x0).toNat) b.y0 m := by simp [gotC, rowC, sumI]
theorem gotC_start (G : Gr) (b : Rc) : gotC G b 0 0 = 0 := by simp [gotC, rowC, sumI]
theorem gotC_yes {G : Gr} {b : Rc} {m k : Nat} (h : G (ix (b.x0 + k) (b.y0 + m)).toNat = true) : gotC G b m (k + 1) = gotC G b m k + 1 := by
  simp only [gotC, rowC, sumI, oneG_yes h]
  omega
theorem gotC_no {G : Gr} {b : Rc} {m k : Nat} (h : G (ix (b.x0 + k) (b.y0 + m)).toNat = false) : gotC G b m (k + 1) = gotC G b m k := by
  simp only [gotC, rowC, sumI, oneG_no h]
  omega
theorem gotC_row {G : Gr} {b : Rc} {m k : Nat} (hk : (b.x1 - b.x0).toNat = k) : gotC G b m k = gotC G b (m + 1) 0 := by
  rw [gotC_zero, gotC, hk]; rfl
theorem gotC_all {G : Gr} {b : Rc} {m : Nat} (hm : (b.y1 - b.y0).toNat = m) : gotC G b m 0 = coverG G b := by
  rw [gotC_zero, coverG, boxC, hm]

set_option maxHeartbeats 800000 in
set_option maxRecDepth 100000 in
/-- l19Covered. -/
theorem l19Covered_any (v : Value) (G : Gr) (b : Rc) (w : World) (hG : GS w 0 v G) (hok : okRc b = true) : Calls Try.prog 48 #[v, b.val] w fun e w' => e = .returned (.int .i64 (coverG G b)) ∧ Below w.heap.size w w' := by
  obtain ⟨g, c, rfl, -, hg⟩ := hG
  have Hok := Lib.hid hok
  have hval := (okRc_iff b).1 hok
  clear hok
  obtain ⟨x0, y0, x1, y1⟩ := b
  have Hs := Lib.hid (gotC_start G ⟨x0, y0, x1, y1⟩)
  unfold Rc.val
  dsimp only at hval ⊢
  have hgA := hg.alloc (.cells #[.int .i64 x0, .int .i64 y0, .int .i64 x1, .int .i64 y1] 37)
  have hbA : Below w.heap.size w (w.alloc (.cells #[.int .i64 x0, .int .i64 y0, .int .i64 x1, .int .i64 y1] 37)) := (Below.refl _ _).alloc (Nat.le_refl _) _
  have hB := Bk.new w 37 #[.int .i64 x0, .int .i64 y0, .int .i64 x1, .int .i64 y1]
  obtain ⟨f0, f1, f2, f3⟩ := box4 hB
  clear hg
  go_enter Try.func48, Try.ntmps48
  go_wp2
  go_loop [5, 6] (fun nv yv => ∃ m : Nat, y0 + m ≤ y1 ∧ yv = .int .i64 (y0 + m) ∧ nv = .int .i64 (gotC G ⟨x0, y0, x1, y1⟩ m 0)) (fun _ yv => (40 - intOf yv).toNat)
  case atStart => exact ⟨0, by omega, by simp, by rw [Hs.out]⟩
  case round =>
    obtain ⟨m, hm, rfl, rfl⟩ := hrel
    by_cases hy : y0 + (m : Int) < y1
    · go_wp2
      go_loop [5, 7] (fun nv xv => ∃ k : Nat, x0 + k ≤ x1 ∧ xv = .int .i64 (x0 + k) ∧ nv = .int .i64 (gotC G ⟨x0, y0, x1, y1⟩ m k)) (fun _ xv => (40 - intOf xv).toNat)
      case atStart => exact ⟨0, by omega, by simp, rfl⟩
      case round =>
        obtain ⟨k, hk, rfl, rfl⟩ := hrel
        have hbd := gotC_bounds G Hok.out (m := m) (k := k) (by omega) (by omega)
        by_cases hx : x0 + (k : Int) < x1
        · have hon : onC (x0 + k) (y0 + m) = true := (onC_iff _ _).2 (by omega)
          have hc := hgA.ix_ hon
          have hi : 0 ≤ ix (x0 + k) (y0 + m) ∧ ix (x0 + k) (y0 + m) < 6400 := by unfold ix; omega
          clear hon
          by_cases hG : G (ix (x0 + k) (y0 + m)).toNat = true
          · have He := Lib.hid (gotC_yes (b := ⟨x0, y0, x1, y1⟩) hG)
            go_wp2_with (go_at_call 92; refine (l17At_any _ _ (by omega) _).mono ?_; rintro e w1 ⟨rfl, rfl⟩)
            exact ⟨⟨k + 1, by omega, by go_num, by rw [He.out]⟩, by simp [intOf]; omega⟩
          · have hG' : G (ix (x0 + k) (y0 + m)).toNat = false := by simpa using hG
            clear hG
            have He := Lib.hid (gotC_no (b := ⟨x0, y0, x1, y1⟩) hG')
            go_wp2_with (go_at_call 92; refine (l17At_any _ _ (by omega) _).mono ?_; rintro e w1 ⟨rfl, rfl⟩)
            exact ⟨⟨k + 1, by omega, by go_num, by rw [He.out]⟩, by simp [intOf]; omega⟩
        · have He := Lib.hid (gotC_row (G := G) (b := ⟨x0, y0, x1, y1⟩) (m := m) (k := k) (by dsimp only; omega))
          go_wp2
          exact ⟨⟨m + 1, by omega, by go_num, by rw [He.out]⟩, by simp [intOf]; omega⟩
    · have He := Lib.hid (gotC_all (G := G) (b := ⟨x0, y0, x1, y1⟩) (m := m) (by dsimp only; omega))
      go_wp2
      go_ret
      exact ⟨ret_intC He.out, hbA⟩

end Go.Proofs.Ythifinolgbjekaa
