/- Contract: regionArea. Condition: valid rectangles, at most 100000. Contract: slices.SortFunc at the parts of a set: they are in order already, and it leaves them so. No conditions. Contract: slices.SortFunc at the parts of a set: they are in order already, and it leaves them so. No conditions. Contract: the program's parts (over sides). No conditions. Contracts: components; SmallestComponent of the program. No conditions. -/
import Derived.Test.YtjiljodchebniaaGreatQ05
import Derived.Test.YtjiljodchebniaaGreatQ01
import Derived.Test.YtjiljodchebniaaGreatQ06
import Derived.Test.YtjiljodchebniaaGreatQ03
import Derived.Shelf.SlSortCmp.NoneTotal
import Derived.Shelf.SlGeneric
import Derived.Ground.SlsfProg
import Derived.StillTailTactics
import Derived.Test.YtjiljodchebniaaGreatQ25
import Derived.Deep.MidRow
import Derived.Deep.RegionHeld3
import Derived.Deep.CutRange
import Derived.BigRegion

namespace Go.Proofs.YtjiljodchebniaaGreat
open Go.RowKit

set_option maxHeartbeats 800000 in
set_option maxRecDepth 100000 in
/-- regionArea. -/
theorem regionArea_any (v : Value) (rs : List Rc) (w : World) (hv : RL w 0 v rs) (hok : okAll rs = true) (hlen : rs.length ≤ 100000) : Calls Tryz.prog 147 #[v] w fun e w' => e = .returned (.int .i64 (sumA rs)) ∧ Below w.heap.size w w' := by
  obtain ⟨A, c, rfl, hc, hm, -⟩ := hv.form
  have hm' : rs.length ≤ 9223372036854775807 := by omega
  have Hok := Lib.hid hok
  clear hok
  go_enter Tryz.func147, Tryz.ntmps147
  go_wp2
  go_loopw [3, 8] (fun sv i wr => ∃ k : Nat, k ≤ rs.length ∧ i = .int .i64 k ∧ sv = .int .i64 (sumA (rs.take k)) ∧ Below w.heap.size w wr) (fun _ i _ => rs.length - (intOf i).toNat)
  case atStart => exact ⟨0, Nat.zero_le _, rfl, rfl, Below.refl _ _⟩
  case round =>
    obtain ⟨k, hk, rfl, rfl, hb⟩ := hrel
    by_cases hlt : k < rs.length
    · obtain ⟨g, x0, y0, x1, y1, rfl, hr, hg, f0, f1, f2, f3⟩ := (hv.on hb).elem hlt
      have Hk := Lib.hid (okAll_get Hok.out hr)
      have Hr := Lib.hid (sumA_take_succ hr)
      have hbd := sumA_bounds (rs := rs.take k) (okAll_take Hok.out k)
      have hbd2 := areaR_bounds Hk.out
      rw [List.length_take] at hbd
      have hbound : 0 ≤ sumA (rs.take k) ∧ sumA (rs.take k) ≤ 640000000 := by omega
      clear hr hbd
      have hzA := Bk.new wr 75 #[.int .i64 x0, .int .i64 y0, .int .i64 x1, .int .i64 y1]
      have hbA := hb.alloc hb.size (.cells #[.int .i64 x0, .int .i64 y0, .int .i64 x1, .int .i64 y1] 75)
      obtain ⟨e0, e1, e2, e3⟩ := box4 hzA
      go_wp2_with (first | (go_at_call 121; refine (area_impl ⟨x0, y0, x1, y1⟩ Hk.out _).mono ?_; rintro e w4 ⟨rfl, hb4⟩))
      exact ⟨⟨k + 1, by omega, by go_num, by rw [Hr.out], hbA.trans (hb4.mono hbA.size)⟩, by simp [intOf]; omega⟩
    · go_wp2
      go_ret
      have : k = rs.length := by omega
      subst this
      rw [List.take_length]
      exact ⟨rfl, hb⟩

end Go.Proofs.YtjiljodchebniaaGreat

namespace Go.Proofs.YtjiljodchebniaaGreat
open Go.RowKit Go.Lib Go.Sort

theorem ret_eqI {a b : Int} (h : a = b) : Ending.returned (.int .i64 a) = .returned (.int .i64 b) := by rw [h]
def cmpI (a b : Int) : Int := if a < b then -1 else if b < a then 1 else 0
def nz (a b : Int) : Int := if a = 0 then b else a
def cmpR (a b : Rc) : Int := nz (cmpI a.y0 b.y0) (nz (cmpI a.x0 b.x0) (nz (cmpI a.y1 b.y1) (cmpI a.x1 b.x1)))
theorem cmpI_self (a : Int) : cmpI a a = 0 := by simp [cmpI]
theorem cmpR_self (a : Rc) : cmpR a a = 0 := by simp [cmpR, cmpI_self, nz]
theorem cmpI_bounds (a b : Int) : -1 ≤ cmpI a b ∧ cmpI a b ≤ 1 := by unfold cmpI; split <;> (try split) <;> omega

set_option maxHeartbeats 400000 in
theorem isNaN_any (x : Int) (w : World) : Calls Tryz.prog 102 #[.int .i64 x] w fun e w' => e = .returned (.bool false) ∧ w = w' := by
  go_enter Tryz.func102, Tryz.ntmps102
  go_wp2
  go_ret
  exact ⟨by simp, rfl⟩
set_option maxHeartbeats 400000 in
theorem compare_any (x y : Int) (w : World) : Calls Tryz.prog 72 #[.int .i64 x, .int .i64 y] w fun e w' => e = .returned (.int .i64 (cmpI x y)) ∧ w = w' := by
  by_cases h1 : x < y
  · have e : cmpI x y = -1 := if_pos h1
    rw [e]
    go_enter Tryz.func72, Tryz.ntmps72
    go_wp2_with (go_at_call 102; refine (isNaN_any _ _).mono ?_; rintro e w' ⟨rfl, rfl⟩)
    go_ret
    exact ⟨rfl, rfl⟩
  · by_cases h2 : y < x
    · have e : cmpI x y = 1 := by unfold cmpI; rw [if_neg h1, if_pos h2]
      have h3 : x > y := h2
      rw [e]
      go_enter Tryz.func72, Tryz.ntmps72
      go_wp2_with (go_at_call 102; refine (isNaN_any _ _).mono ?_; rintro e w' ⟨rfl, rfl⟩)
      go_ret
      exact ⟨rfl, rfl⟩
    · have e : cmpI x y = 0 := by unfold cmpI; rw [if_neg h1, if_neg h2]
      have h3 : ¬ x > y := h2
      rw [e]
      go_enter Tryz.func72, Tryz.ntmps72
      go_wp2_with (go_at_call 102; refine (isNaN_any _ _).mono ?_; rintro e w' ⟨rfl, rfl⟩)
      go_ret
      exact ⟨rfl, rfl⟩
/-- What of the four is left from the k-th on. -/
def orK (c0 c1 c2 c3 : Int) (k : Nat) : Int := if k = 0 then nz c0 (nz c1 (nz c2 c3)) else if k = 1 then nz c1 (nz c2 c3) else if k = 2 then nz c2 c3 else if k = 3 then c3 else 0
set_option maxHeartbeats 800000 in
set_option maxRecDepth 100000 in
theorem or_any (g : Nat) (c0 c1 c2 c3 : Int) (w : World) (hb : Bk w g 3 #[.int .i64 c0, .int .i64 c1, .int .i64 c2, .int .i64 c3]) : Calls Tryz.prog 63 #[.slice (some ⟨g, 0, none⟩) 4 4] w fun e w' => e = .returned (.int .i64 (nz c0 (nz c1 (nz c2 c3)))) ∧ w = w' := by
  obtain ⟨f0, f1, f2, f3⟩ := box4 hb
  clear hb
  have ht : nz c0 (nz c1 (nz c2 c3)) = orK c0 c1 c2 c3 0 := rfl
  rw [ht]
  go_enter Tryz.func63, Tryz.ntmps63
  go_wp2
  go_loop [8] (fun iv => ∃ k : Nat, k ≤ 4 ∧ iv = .int .i64 k ∧ Hid (orK c0 c1 c2 c3 k = orK c0 c1 c2 c3 0)) (fun iv => 4 - (intOf iv).toNat)
  case atStart => exact ⟨0, by omega, rfl, Lib.hid rfl⟩
  case round =>
    obtain ⟨k, hk, rfl, hH⟩ := hrel
    have hk5 : k = 0 ∨ k = 1 ∨ k = 2 ∨ k = 3 ∨ k = 4 := by omega
    rcases hk5 with rfl | rfl | rfl | rfl | rfl
    · by_cases h : c0 = 0
      · have He := Lib.hid (show orK c0 c1 c2 c3 1 = orK c0 c1 c2 c3 0 from by simp [orK, nz, h])
        subst h
        go_wp2
        exact ⟨⟨1, by omega, by go_num, He⟩, by simp [intOf]⟩
      · have He := Lib.hid (show c0 = orK c0 c1 c2 c3 0 from by simp [orK, nz, h])
        go_wp2
        go_ret
        exact ⟨ret_eqI He.out, rfl⟩
    · by_cases h : c1 = 0
      · have He := Lib.hid (show orK c0 c1 c2 c3 2 = orK c0 c1 c2 c3 0 from by rw [← hH.out]; simp [orK, nz, h])
        subst h
        go_wp2
        exact ⟨⟨2, by omega, by go_num, He⟩, by simp [intOf]⟩
      · have He := Lib.hid (show c1 = orK c0 c1 c2 c3 0 from by rw [← hH.out]; simp [orK, nz, h])
        go_wp2
        go_ret
        exact ⟨ret_eqI He.out, rfl⟩
    · by_cases h : c2 = 0
      · have He := Lib.hid (show orK c0 c1 c2 c3 3 = orK c0 c1 c2 c3 0 from by rw [← hH.out]; simp [orK, nz, h])
        subst h
        go_wp2
        exact ⟨⟨3, by omega, by go_num, He⟩, by simp [intOf]⟩
      · have He := Lib.hid (show c2 = orK c0 c1 c2 c3 0 from by rw [← hH.out]; simp [orK, nz, h])
        go_wp2
        go_ret
        exact ⟨ret_eqI He.out, rfl⟩
    · by_cases h : c3 = 0
      · have He := Lib.hid (show orK c0 c1 c2 c3 4 = orK c0 c1 c2 c3 0 from by rw [← hH.out]; simp [orK, h])
        subst h
        go_wp2
        exact ⟨⟨4, by omega, by go_num, He⟩, by simp [intOf]⟩
      · have He := Lib.hid (show c3 = orK c0 c1 c2 c3 0 from by rw [← hH.out]; simp [orK])
        go_wp2
        go_ret
        exact ⟨ret_eqI He.out, rfl⟩
    · have He := Lib.hid (show (0 : Int) = orK c0 c1 c2 c3 0 from by rw [← hH.out]; simp [orK])
      go_wp2
      go_ret
      exact ⟨ret_eqI He.out, rfl⟩

theorem still_of {P : Program} {f : Nat} {args : Array Value} {w : World} {v : Value} (h : Calls P f args w fun e w' => e = .returned v ∧ w = w') : Calls P f args w fun e w' => e = .returned v ∧ w' = w := h.mono fun _ _ ⟨a, b⟩ => ⟨a, b.symm⟩

set_option maxHeartbeats 1600000 in
set_option maxRecDepth 100000 in
/-- compareRects. -/
theorem compareRects_any (a b : Rc) (w : World) : Calls Tryz.prog 109 #[a.val, b.val] w fun e w' => e = .returned (.int .i64 (cmpR a b)) ∧ ∃ q os', w' = Sort.grow (w.drewN q) os' := by
  have z0 := (Bk.new w 75 #[.int .i64 a.x0, .int .i64 a.y0, .int .i64 a.x1, .int .i64 a.y1]).alloc (.cells #[.int .i64 b.x0, .int .i64 b.y0, .int .i64 b.x1, .int .i64 b.y1] 75)
  have z1 := Bk.new (w.alloc (.cells #[.int .i64 a.x0, .int .i64 a.y0, .int .i64 a.x1, .int .i64 a.y1] 75)) 75 #[.int .i64 b.x0, .int .i64 b.y0, .int .i64 b.x1, .int .i64 b.y1]
  have ez : (w.alloc (.cells #[.int .i64 a.x0, .int .i64 a.y0, .int .i64 a.x1, .int .i64 a.y1] 75)).heap.size = w.heap.size + 1 := by simp
  rw [ez] at z1
  clear ez
  obtain ⟨p0, p1, p2, p3⟩ := box4 z0
  obtain ⟨q0, q1, q2, q3⟩ := box4 z1
  unfold Rc.val
  go_enter Tryz.func109, Tryz.ntmps109
  go_upto_region 1 with fail
  obtain ⟨W, hW⟩ : ∃ W, W = (w.alloc (.cells #[.int .i64 a.x0, .int .i64 a.y0, .int .i64 a.x1, .int .i64 a.y1] 75)).alloc (.cells #[.int .i64 b.x0, .int .i64 b.y0, .int .i64 b.x1, .int .i64 b.y1] 75) := ⟨_, rfl⟩
  rw [← hW] at p0 p1 p2 p3 q0 q1 q2 q3 ⊢
  have HW := Lib.hid hW
  clear hW z0 z1
  refine wp_region_still_tail 20 (by kernel_rfl) (by kernel_rfl) ?_
  simp only [List.take_succ_cons, List.take_zero, List.drop_succ_cons, List.drop_zero]
  iterate 4 still_step
  still_call (still_of (compare_any a.y0 b.y0 _))
  iterate 4 still_step
  still_call (still_of (compare_any a.x0 b.x0 _))
  iterate 4 still_step
  still_call (still_of (compare_any a.y1 b.y1 _))
  iterate 4 still_step
  still_call (still_of (compare_any a.x1 b.x1 _))
  refine wpStill_nil ?_
  change wpList _ _ _ _ _ W.drew
  have hO : Bk (W.drew.alloc (.cells #[.int .i64 (cmpI a.y0 b.y0), .int .i64 (cmpI a.x0 b.x0), .int .i64 (cmpI a.y1 b.y1), .int .i64 (cmpI a.x1 b.x1)] 3)) W.heap.size 3 #[.int .i64 (cmpI a.y0 b.y0), .int .i64 (cmpI a.x0 b.x0), .int .i64 (cmpI a.y1 b.y1), .int .i64 (cmpI a.x1 b.x1)] := Bk.new W.drew 3 _
  go_wp2_with (go_at_call 63; refine (or_any _ _ _ _ _ _ hO).mono ?_; rintro e w1 ⟨rfl, rfl⟩)
  go_ret
  refine ⟨rfl, 1, #[.cells #[.int .i64 a.x0, .int .i64 a.y0, .int .i64 a.x1, .int .i64 a.y1] 75 (0, 0), .cells #[.int .i64 b.x0, .int .i64 b.y0, .int .i64 b.x1, .int .i64 b.y1] 75 (0, 0), .cells #[.int .i64 (cmpI a.y0 b.y0), .int .i64 (cmpI a.x0 b.x0), .int .i64 (cmpI a.y1 b.y1), .int .i64 (cmpI a.x1 b.x1)] 3 (0, 0)], ?_⟩
  rw [HW.out]
  simp only [Sort.alloc_eq_grow, Sort.drew_grow, Sort.grow_grow]
  rfl
set_option maxHeartbeats 800000 in
set_option maxRecDepth 100000 in
/-- The comparison of two parts. -/
theorem parts1_any (u1 u2 : Value) (r1 r2 : Rc) (l1 l2 : List Rc) (w : World) (h1 : RL w 0 u1 (r1 :: l1)) (h2 : RL w 0 u2 (r2 :: l2)) : Calls Tryz.prog 108 #[u1, u2] w fun e w' => e = .returned (.int .i64 (cmpR r1 r2)) ∧ ∃ q os', w' = Sort.grow (w.drewN q) os' := by
  obtain ⟨A1, c1, rfl, hc1, hm1, hf1⟩ := h1.form
  obtain ⟨A2, c2, rfl, hc2, hm2, hf2⟩ := h2.form
  obtain ⟨g1, rfl, -, hg1, p0, p1, p2, p3⟩ := hf1 0 r1 rfl
  obtain ⟨g2, rfl, -, hg2, q0, q1, q2, q3⟩ := hf2 0 r2 rfl
  rw [Nat.zero_mul] at p0 p1 p2 p3 q0 q1 q2 q3
  have hn1 : 0 < (r1 :: l1).length := by simp
  have hn2 : 0 < (r2 :: l2).length := by simp
  have hl1 : (0 : Int) < ((r1 :: l1).length : Nat) := by simp
  have hl2 : (0 : Int) < ((r2 :: l2).length : Nat) := by simp
  generalize (r1 :: l1).length = n1 at *
  generalize (r2 :: l2).length = n2 at *
  clear h1 h2 hf1 hf2
  go_enter Tryz.func108, Tryz.ntmps108
  go_upto_region 1 with fail
  go_still_tail 6, (by kernel_rfl)
  change wpList _ _ _ _ _ w.drew
  go_wp2_with (go_at_call 109; refine (compareRects_any r1 r2 _).mono ?_; rintro e w1 ⟨rfl, q, os, rfl⟩)
  go_ret
  exact ⟨rfl, 1 + q, os, rfl⟩

end Go.Proofs.YtjiljodchebniaaGreat

namespace Go.Proofs
open Go.Shelf
def Tryz.sortL_ren : Go.Shelf.Ren := ⟨fun | 6 => 107 | 15 => 71 | 14 => 138 | 28 => 100 | 29 => 101 | 20 => 154 | 21 => 155 | 22 => 156 | 23 => 157 | 24 => 158 | 25 => 159 | 26 => 160 | 27 => 161 | 46 => 168 | 47 => 132 | 48 => 133 | 49 => 169 | 50 => 170 | 57 => 171 | n => n, fun | 22 => 28 | 24 => 24 | 25 => 144 | 3 => 3 | 39 => 107 | 0 => 0 | 53 => 135 | 55 => 137 | 4 => 4 | 46 => 128 | 45 => 127 | 50 => 132 | 5 => 5 | 9 => 9 | 66 => 155 | 70 => 159 | 76 => 174 | 77 => 175 | n => n, fun | n => n⟩
theorem Tryz.sortL : Go.Proofs.SlLaysF.n6 Tryz.prog Tryz.sortL_ren := {
  mixed := by kernel_rfl
  f6 := ⟨Tryz.f107.name, by decide, Tryz.func107.trans (congrArg some (by kernel_rfl))⟩
  f14 := ⟨Tryz.f138.name, by decide, Tryz.func138.trans (congrArg some (by kernel_rfl))⟩
  f15 := Tryz.func71.trans (congrArg some (by kernel_rfl))
  f20 := ⟨Tryz.f154.name, by decide, Tryz.func154.trans (congrArg some (by kernel_rfl))⟩
  f21 := ⟨Tryz.f155.name, by decide, Tryz.func155.trans (congrArg some (by kernel_rfl))⟩
  f22 := ⟨Tryz.f156.name, by decide, Tryz.func156.trans (congrArg some (by kernel_rfl))⟩
  f23 := ⟨Tryz.f157.name, by decide, Tryz.func157.trans (congrArg some (by kernel_rfl))⟩
  f24 := ⟨Tryz.f158.name, by decide, Tryz.func158.trans (congrArg some (by kernel_rfl))⟩
  f25 := ⟨Tryz.f159.name, by decide, Tryz.func159.trans (congrArg some (by kernel_rfl))⟩
  f26 := ⟨Tryz.f160.name, by decide, Tryz.func160.trans (congrArg some (by kernel_rfl))⟩
  f27 := ⟨Tryz.f161.name, by decide, Tryz.func161.trans (congrArg some (by kernel_rfl))⟩
  f28 := Tryz.func100.trans (congrArg some (by kernel_rfl))
  f29 := Tryz.func101.trans (congrArg some (by kernel_rfl))
  f46 := ⟨Tryz.f168.name, by decide, Tryz.func168.trans (congrArg some (by kernel_rfl))⟩
  f47 := Tryz.func132.trans (congrArg some (by kernel_rfl))
  f48 := Tryz.func133.trans (congrArg some (by kernel_rfl))
  f49 := ⟨Tryz.f169.name, by decide, Tryz.func169.trans (congrArg some (by kernel_rfl))⟩
  f50 := ⟨Tryz.f170.name, by decide, Tryz.func170.trans (congrArg some (by kernel_rfl))⟩
  f57 := ⟨Tryz.f171.name, by decide, Tryz.func171.trans (congrArg some (by kernel_rfl))⟩
  t0 := Tryz.underlying0
  a0 := Tryz.isAgg0
  z0 := Tryz.sizeOf0
  v0 := Tryz.zeroValue0
  t3 := Tryz.underlying3
  a3 := Tryz.isAgg3
  z3 := Tryz.sizeOf3
  v3 := Tryz.zeroValue3
  t4 := Tryz.underlying4
  a4 := Tryz.isAgg4
  z4 := Tryz.sizeOf4
  v4 := Tryz.zeroValue4
  t5 := Tryz.underlying5
  a5 := Tryz.isAgg5
  z5 := Tryz.sizeOf5
  v5 := Tryz.zeroValue5
  t9 := Tryz.underlying9
  a9 := Tryz.isAgg9
  z9 := Tryz.sizeOf9
  v9 := Tryz.zeroValue9
  t22 := Tryz.underlying28
  a22 := Tryz.isAgg28
  z22 := Tryz.sizeOf28
  v22 := Tryz.zeroValue28
  a24 := Tryz.isAgg24
  z24 := Tryz.sizeOf24
  t25 := Tryz.underlying144
  a25 := Tryz.isAgg144
  z25 := Tryz.sizeOf144
  v25 := Tryz.zeroValue144
  t39 := Tryz.underlying107
  a39 := Tryz.isAgg107
  z39 := Tryz.sizeOf107
  v39 := Tryz.zeroValue107
  t45 := Tryz.underlying127
  a45 := Tryz.isAgg127
  z45 := Tryz.sizeOf127
  v45 := Tryz.zeroValue127
  t46 := Tryz.underlying128
  a46 := Tryz.isAgg128
  z46 := Tryz.sizeOf128
  v46 := Tryz.zeroValue128
  t50 := Tryz.underlying132
  a50 := Tryz.isAgg132
  z50 := Tryz.sizeOf132
  v50 := Tryz.zeroValue132
  t53 := Tryz.underlying135
  a53 := Tryz.isAgg135
  z53 := Tryz.sizeOf135
  v53 := Tryz.zeroValue135
  t55 := Tryz.underlying137
  a55 := Tryz.isAgg137
  z55 := Tryz.sizeOf137
  v55 := Tryz.zeroValue137
  t66 := Tryz.underlying155
  a66 := Tryz.isAgg155
  z66 := Tryz.sizeOf155
  v66 := Tryz.zeroValue155
  t70 := Tryz.underlying159
  a70 := Tryz.isAgg159
  z70 := Tryz.sizeOf159
  v70 := Tryz.zeroValue159
  t76 := Tryz.underlying174
  a76 := Tryz.isAgg174
  z76 := Tryz.sizeOf174
  v76 := Tryz.zeroValue174
  t77 := Tryz.underlying175
  a77 := Tryz.isAgg175
  z77 := Tryz.sizeOf175
  v77 := Tryz.zeroValue175 }
end Go.Proofs

namespace Go.Proofs.YtjiljodchebniaaGreat
open Go.Shelf Go.RowKit Go.Lib Go.Sort

theorem sortWorld_grown {α : Type} [Inhabited α] (enc : α → Value) (w : World) (g off m : Nat) (dk : Array α) (os : Array Obj) : w.grownBy (sortWorld enc w g off m dk os) (some g) := by
  refine ⟨rfl, rfl, rfl, ?_, fun i hi hne => ?_⟩
  · unfold sortWorld
    rw [size_grow, size_putRow]
    exact Nat.le_add_right _ _
  · unfold sortWorld
    rw [heap_grow_old _ _ (by rw [size_putRow]; exact hi)]
    unfold putRow mapBlock
    rw [Array.getElem?_modify, if_neg (fun e => hne (by rw [e]))]
    rfl
/-- The order of the parts. -/
def cfI (n : Nat) (i j : Fin n) : Int := if i < j then -1 else if j < i then 1 else 0
theorem lt_cfI {n : Nat} (i j : Fin n) : ltOf (cfI n) i j = decide (i < j) := by
  unfold ltOf cfI
  by_cases h1 : i < j
  · simp [h1]
  · by_cases h2 : j < i <;> simp [h1, h2]
theorem swo_cfI (n : Nat) : SWO (ltOf (cfI n)) where
  irrefl x := by rw [lt_cfI]; simp
  trans x y z h1 h2 := by rw [lt_cfI, decide_eq_true_iff] at *; omega
  ntrans x y z h1 h2 := by rw [lt_cfI, decide_eq_false_iff_not] at *; omega
theorem tot_cfI {n : Nat} (x y : Fin n) (h1 : ltOf (cfI n) x y = false) (h2 : ltOf (cfI n) y x = false) : x = y := by
  rw [lt_cfI, decide_eq_false_iff_not] at *
  omega
/-- Two first rectangles, compared. -/
theorem cmp_firsts {a b : Nat} {p q u v : Int} (h : a < b) : cmpR ⟨((a % 80 : Nat) : Int) - 40, ((a / 80 : Nat) : Int) - 40, p, q⟩ ⟨((b % 80 : Nat) : Int) - 40, ((b / 80 : Nat) : Int) - 40, u, v⟩ = -1 ∧ cmpR ⟨((b % 80 : Nat) : Int) - 40, ((b / 80 : Nat) : Int) - 40, u, v⟩ ⟨((a % 80 : Nat) : Int) - 40, ((a / 80 : Nat) : Int) - 40, p, q⟩ = 1 := by
  unfold cmpR
  dsimp only
  by_cases hy : a / 80 < b / 80
  · have e1 : cmpI (((a / 80 : Nat) : Int) - 40) (((b / 80 : Nat) : Int) - 40) = -1 := if_pos (by omega)
    have e2 : cmpI (((b / 80 : Nat) : Int) - 40) (((a / 80 : Nat) : Int) - 40) = 1 := by unfold cmpI; rw [if_neg (by omega), if_pos (by omega)]
    rw [e1, e2]
    simp [nz]
  · have ey : a / 80 = b / 80 := by omega
    have e0 : cmpI (((a / 80 : Nat) : Int) - 40) (((b / 80 : Nat) : Int) - 40) = 0 := by rw [ey]; exact cmpI_self _
    have e0' : cmpI (((b / 80 : Nat) : Int) - 40) (((a / 80 : Nat) : Int) - 40) = 0 := by rw [ey]; exact cmpI_self _
    have e1 : cmpI (((a % 80 : Nat) : Int) - 40) (((b % 80 : Nat) : Int) - 40) = -1 := if_pos (by omega)
    have e2 : cmpI (((b % 80 : Nat) : Int) - 40) (((a % 80 : Nat) : Int) - 40) = 1 := by unfold cmpI; rw [if_neg (by omega), if_pos (by omega)]
    rw [e0, e0', e1, e2]
    simp [nz]

set_option maxHeartbeats 1600000 in
/-- slices.SortFunc at lists whose firsts ascend. -/
theorem sort_any (v : Value) (Ps : List Gr) (ss : List Nat) (w : World) (B : Nat) (hv : RLL w B v (Ps.map canon)) (hss : ss.length = Ps.length) (hp : ss.Pairwise (· < ·)) (hf : ∀ (k : Nat) (P : Gr) (s : Nat), Ps[k]? = some P → ss[k]? = some s → FirstG P s) (hl : Ps.length ≤ 6400) :
    Calls Tryz.prog 107 #[v, .func (.func 108) #[] #[]] w fun e w' => e = .returned (.tuple #[]) ∧ RLL w' B v (Ps.map canon) ∧ RowKit.Below w.heap.size w w' := by
  have hv0 := hv
  obtain ⟨vs, h1, h2, h3⟩ := hv
  rw [List.length_map] at h2
  have hnone : ∀ (p : Option Addr) (cap : Nat), v = .slice p 0 cap → Calls Tryz.prog 107 #[v, .func (.func 108) #[] #[]] w fun e w' => e = .returned (.tuple #[]) ∧ RLL w' B v (Ps.map canon) ∧ RowKit.Below w.heap.size w w' := by
    rintro p cap rfl
    refine (AnyF.slices_SortFunc_none { Tryz.sortL with } p cap _ w).mono ?_
    rintro e w' ⟨rfl, rfl⟩
    exact ⟨rfl, hv0, RowKit.Below.refl _ _⟩
  rcases h1.2 with ⟨hvn, h0⟩ | ⟨g, cap, cur, rfl, hBg, hh, hnc, hcm, hcs, htake⟩
  · exact hnone none 0 hvn
  · by_cases h0 : vs.length = 0
    · exact hnone (some ⟨g, 0, none⟩) cap (by rw [h0])
    · obtain ⟨m, hm⟩ : ∃ m, vs.length = m + 1 := ⟨vs.length - 1, by omega⟩
      obtain ⟨enc, henc⟩ : ∃ enc : Fin (m + 1) → Value, ∀ i, vs[i.val]? = some (enc i) := ⟨fun i => vs[i.val]'(by have := i.isLt; omega), fun i => List.getElem?_eq_getElem _⟩
      have hpart : ∀ i : Fin (m + 1), ∃ (P : Gr) (s : Nat), Ps[i.val]? = some P ∧ ss[i.val]? = some s := fun i => ⟨_, _, List.getElem?_eq_getElem (by have := i.isLt; omega), List.getElem?_eq_getElem (by have := i.isLt; omega)⟩
      have hRL : ∀ (i : Fin (m + 1)) (P : Gr), Ps[i.val]? = some P → RL w B (enc i) (canon P) := fun i P hP => h3 i.val _ _ (henc i) (by rw [List.getElem?_map, hP]; rfl)
      have hone : OneCell enc := fun i => by
        obtain ⟨P, s, hP, _⟩ := hpart i
        obtain ⟨A, c, e, _⟩ := (hRL i P hP).form
        rw [e]
        rfl
      have hlt : g < w.heap.size := (own_lt h1 g rfl).2
      have hkeep : ∀ (M : Nat) (dk : Array (Fin (m + 1))) (os : Array Obj) (i : Fin (m + 1)) (P : Gr), Ps[i.val]? = some P → RL (sortWorld enc w g 0 M dk os) B (enc i) (canon P) :=
        fun M dk os i P hP => World.ownsRow.kept (hRL i P hP) (sortWorld_grown enc w g 0 M dk os) (own_apart (hRL i P hP) h1 (by decide))
      have eg : ∀ args w, (callFunc 108 args).run Tryz.prog w = .ok (.enter 108 args) w := enters_of Tryz.func108 (by kernel_rfl) rfl
      obtain ⟨d, hd⟩ : ∃ d : Array (Fin (m + 1)), d = (List.finRange (m + 1)).toArray := ⟨_, rfl⟩
      have hds : d.size = m + 1 := by rw [hd]; simp
      have hdl : d.toList = List.finRange (m + 1) := by rw [hd]
      have hdj : ∀ j, j < m + 1 → (d[j]!).val = j := fun j hj => by
        rw [getElem!_pos d j (by omega)]
        simp [hd]
      have hcmp : CmpLays1 Tryz.prog 108 #[] enc (cfI (m + 1)) g 0 d.size w := by
        intro M os dk hdk i j
        obtain ⟨P, s, hP, hs⟩ := hpart i
        obtain ⟨Q, t, hQ, ht⟩ := hpart j
        obtain ⟨x1, y1, l1, e1⟩ := canon_first (hf _ _ _ hP hs)
        obtain ⟨x2, y2, l2, e2⟩ := canon_first (hf _ _ _ hQ ht)
        have k1 := hkeep M dk os i P hP
        have k2 := hkeep M dk os j Q hQ
        rw [e1] at k1
        rw [e2] at k2
        have hc := parts1_any (enc i) (enc j) _ _ l1 l2 _ (k1.less (Nat.zero_le _)) (k2.less (Nat.zero_le _))
        have hcf : cmpR ⟨((s % 80 : Nat) : Int) - 40, ((s / 80 : Nat) : Int) - 40, x1, y1⟩ ⟨((t % 80 : Nat) : Int) - 40, ((t / 80 : Nat) : Int) - 40, x2, y2⟩ = cfI (m + 1) i j := by
          rw [List.pairwise_iff_getElem] at hp
          obtain ⟨hsl, hse⟩ := List.getElem?_eq_some_iff.1 hs
          obtain ⟨htl, hte⟩ := List.getElem?_eq_some_iff.1 ht
          rcases Nat.lt_trichotomy i.val j.val with h | h | h
          · have hlt2 := hp _ _ hsl htl h
            rw [hse, hte] at hlt2
            rw [(cmp_firsts hlt2).1]
            exact (if_pos h).symm
          · have hij : i = j := Fin.ext h
            subst hij
            rw [hP] at hQ
            rw [hs] at ht
            injection hQ with hQ
            injection ht with ht
            subst hQ ht
            rw [e1] at e2
            injection e2 with e2
            rw [e2, cmpR_self]
            unfold cfI
            simp
          · have hlt2 := hp _ _ htl hsl h
            rw [hse, hte] at hlt2
            rw [(cmp_firsts hlt2).2]
            unfold cfI
            rw [if_neg (show ¬ i < j by omega), if_pos (show j < i from h)]
        rw [hcf] at hc
        exact hc
      have hH : Holds enc w g 0 d := fun j hj => by
        have hj2 : j < vs.length := by omega
        rw [Nat.zero_add]
        refine ⟨?_, World.ownsRow.frozenAt h1 j⟩
        rw [World.ownsRow.cellAt h1 j (by omega), ← henc, hdj j (by omega)]
      have hcon := Any.slices_SortFunc_total Tryz.sortL enc hone (cfI (m + 1)) (swo_cfI _) 108 #[] g 0 cap d w eg hcmp hH hlt (by omega) tot_cfI
      have hvl : vs.length = d.size := by omega
      rw [hvl] at hv0 ⊢
      refine hcon.mono ?_
      rintro e w' ⟨rfl, n, os, rfl⟩
      have hms : (d.toList.mergeSort fun x y => !(ltOf (cfI (m + 1))) y x).toArray = d := by
        rw [List.mergeSort_of_pairwise]
        rw [hdl]
        refine (List.pairwise_lt_finRange (m + 1)).imp fun {a b} hab => ?_
        rw [lt_cfI, decide_eq_false (by omega)]
        rfl
      rw [hms]
      have hb : RowKit.Below w.heap.size w (sortWorld enc w g 0 n d os) := by
        unfold sortWorld
        rw [putRow_self enc (Sort.ahead w n) g 0 d (holds_ahead enc w n g 0 d hH)]
        exact ⟨rfl, rfl, rfl, by rw [size_grow]; exact Nat.le_add_right _ _, fun i hi => heap_grow_old _ _ hi⟩
      exact ⟨rfl, hv0.on hb, hb⟩

end Go.Proofs.YtjiljodchebniaaGreat

namespace Go.Proofs.YtjiljodchebniaaGreat
open Go.RowKit

/-! ## A whole array is copied -/

theorem Bk.setCells {g : Nat} {t : TypeId} : ∀ (vs : List Value) (o : Nat) (w : World) (cs : Array Value), Bk w g t cs → ∃ cs', Bk (w.setCells g o vs) g t cs' ∧ cs'.size = cs.size ∧ (∀ i, i < o → cs'[i]? = cs[i]?) ∧ ∀ (j : Nat) (v : Value), vs[j]? = some v → o + j < cs.size → cs'[o + j]? = some v
  | [], o, w, cs, h => ⟨cs, h, rfl, fun _ _ => rfl, fun j v hv => by simp at hv⟩
  | u :: vs, o, w, cs, h => by
    obtain ⟨cs', h1, h2, h3, h4⟩ := Bk.setCells vs (o + 1) (w.setCell ⟨g, o, none⟩ u) _ (h.store o u)
    refine ⟨cs', h1, by simpa using h2, fun i hi => ?_, fun j v hv hj => ?_⟩
    · rw [h3 i (by omega), Array.getElem?_setIfInBounds_ne (by omega)]
    · match j with
      | 0 =>
        simp at hv
        subst hv
        rw [Nat.add_zero, h3 o (by omega), Array.getElem?_setIfInBounds_self_of_lt (by omega)]
      | j + 1 =>
        have := h4 j v (by simpa using hv) (by simp; omega)
        rw [show o + (j + 1) = o + 1 + j by omega]
        exact this
theorem below_setCells {B g : Nat} {a : World} (hg : B ≤ g) : ∀ (vs : List Value) (o : Nat) (w : World), Below B a w → Below B a (w.setCells g o vs)
  | [], _, _, h => h
  | u :: vs, o, _, h => below_setCells hg vs (o + 1) _ (h.setCell (p := ⟨g, o, none⟩) hg u)
theorem grown_setCells {g : Nat} {a : World} : ∀ (vs : List Value) (o : Nat) (w : World), a.grownBy w (some g) → a.grownBy (w.setCells g o vs) (some g)
  | [], _, _, h => h
  | u :: vs, o, _, h => grown_setCells vs (o + 1) _ (only_store h o u)
/-- The cells of a set of the program, as a list. -/
theorem cells_list (g : Nat) (G : Gr) : ∃ cs : List Value, cs.length = 6400 ∧ (∀ i, i < 6400 → cs[i]? = some (.bool (G i))) ∧ (∀ v ∈ cs, v.oneCell' = true) ∧ ∀ w', GB w' g 89 G → w'.rangeAt g 0 cs := by
  refine ⟨(List.range 6400).map fun i => .bool (G i), by simp, fun i hi => by simp [hi], fun v hv => ?_, fun w' h' j v hv => ?_⟩
  · obtain ⟨i, _, rfl⟩ := List.mem_map.1 hv
    rfl
  · have hj : j < 6400 := by
      have := (List.getElem?_eq_some_iff.1 hv).1
      simpa using this
    rw [Nat.zero_add, h'.cell hj, ← hv]
    simp [hj]
theorem GB.copied {w : World} {g : Nat} {G H : Gr} {cs : List Value} (h : GB w g 89 H) (hcs : ∀ i, i < 6400 → cs[i]? = some (.bool (G i))) : GB (w.setCells g 0 cs) g 89 G := by
  obtain ⟨c0, h1, h2, h3⟩ := h
  obtain ⟨cs', k1, k2, _, k4⟩ := Bk.setCells cs 0 w c0 h1
  refine ⟨cs', k1, ⟨by have := h2.1; omega, fun hne => k2.trans (h2.2 hne)⟩, fun i hi => ?_⟩
  have := k4 i _ (hcs i hi) (by have := h2.1; omega)
  rwa [Nat.zero_add] at this
theorem GB.there {w : World} {g : Nat} {H : Gr} (h : GB w g 89 H) : w.there g 0 6400 := fun j hj => by
  rw [Nat.zero_add, h.cell hj, h.frozen j]
  exact ⟨rfl, rfl⟩

/-! ## What is left while a part is taken away -/

def lessG (L P : Gr) (k : Nat) : Gr := fun i => if i < k then L i && !P i else L i
theorem less_zero (L P : Gr) : lessG L P 0 = L := by funext i; simp [lessG]
theorem less_here (L P : Gr) (k : Nat) : lessG L P k k = L k := by simp [lessG]
theorem less_step (L P : Gr) (k : Nat) (b : Bool) (hb : b = (L k && !P k)) : updG (lessG L P k) k b = lessG L P (k + 1) := by
  funext i
  unfold updG lessG
  by_cases h : i = k
  · subst h
    rw [if_pos rfl, if_pos (by omega), hb]
  · rw [if_neg h]
    by_cases h1 : i < k
    · rw [if_pos h1, if_pos (by omega)]
    · rw [if_neg h1, if_neg (by omega)]
theorem less_all (L P : Gr) : sameG (lessG L P 6400) (minusG L P) := fun i hi => by simp [lessG, minusG, hi]

theorem size_setCells (g : Nat) : ∀ (vs : List Value) (o : Nat) (w : World), (w.setCells g o vs).heap.size = w.heap.size
  | [], _, _ => rfl
  | u :: vs, o, w => by
    show ((w.setCell ⟨g, o, none⟩ u).setCells g (o + 1) vs).heap.size = _
    rw [size_setCells g vs]
    simp
theorem infoCells : (Tryz.prog.info? 89).map (·.size) = some 6400 := by kernel_rfl
theorem GB.cellsOther {w : World} {g b : Nat} {t : TypeId} {G : Gr} (h : GB w g t G) (hne : g ≠ b) (o : Nat) (vs : List Value) : GB (w.setCells b o vs) g t G := h.grown (grown_setCells vs o w (only_refl w (some b))) (by simpa using hne)

theorem RLL.lit0 (w : World) {B : Nat} (hB : B ≤ w.heap.size) : RLL (w.alloc (.cells #[] 24)) B (.slice (some ⟨w.heap.size, 0, none⟩) 0 0) [] := ⟨[], World.ownsRow_lit w #[] 0 hB (by simp [maxLen]) rfl, rfl, fun k u rs hu => by simp at hu⟩
/-- The world behind the copy of the set, in each of the orders. -/
structure CopyW (w : World) (G : Gr) (lb : Nat) (ov : Value) (wx : World) : Prop where
  lo : w.heap.size ≤ lb
  out : RLL wx w.heap.size ov []
  left : GB wx lb 89 G
  below : Below w.heap.size w wx
theorem copyA (w : World) (G : Gr) (cs : List Value) (hcg : ∀ i, i < 6400 → cs[i]? = some (.bool (G i))) : CopyW w G (w.heap.size + 1) (.slice (some ⟨w.heap.size, 0, none⟩) 0 0) ((((w.alloc (.cells #[] 24)).alloc (.cells Tryz.zeroCells89 89)).drew).setCells (w.heap.size + 1) 0 cs) := by
  have z : GB ((w.alloc (.cells #[] 24)).alloc (.cells Tryz.zeroCells89 89)).drew (w.heap.size + 1) 89 emptyG := by
    have := GB.zero (w.alloc (.cells #[] 24)) 89
    have e : (w.alloc (.cells #[] 24)).heap.size = w.heap.size + 1 := by simp
    rw [e] at this
    exact this
  exact ⟨by omega, RLL.put_other (show RLL ((w.alloc (.cells #[] 24)).alloc (.cells Tryz.zeroCells89 89)).drew _ _ _ from (RLL.lit0 w (Nat.le_refl _)).alloc _) z (grown_setCells _ _ _ (only_refl _ _)), z.copied hcg, below_setCells (by omega) _ _ _ (((Below.refl _ _).alloc (Nat.le_refl _) _).alloc (by simp) _).drew⟩
theorem copyB (w : World) (G : Gr) (cs : List Value) (hcg : ∀ i, i < 6400 → cs[i]? = some (.bool (G i))) : CopyW w G w.heap.size (.slice (some ⟨w.heap.size + 1, 0, none⟩) 0 0) ((((w.alloc (.cells Tryz.zeroCells89 89)).alloc (.cells #[] 24)).drew).setCells w.heap.size 0 cs) := by
  have z : GB ((w.alloc (.cells Tryz.zeroCells89 89)).alloc (.cells #[] 24)).drew w.heap.size 89 emptyG := (GB.zero w 89).alloc _
  have r := RLL.lit0 (w.alloc (.cells Tryz.zeroCells89 89)) (B := w.heap.size) (by simp)
  have e : (w.alloc (.cells Tryz.zeroCells89 89)).heap.size = w.heap.size + 1 := by simp
  rw [e] at r
  exact ⟨Nat.le_refl _, RLL.put_other (show RLL ((w.alloc (.cells Tryz.zeroCells89 89)).alloc (.cells #[] 24)).drew _ _ _ from r) z (grown_setCells _ _ _ (only_refl _ _)), z.copied hcg, below_setCells (Nat.le_refl _) _ _ _ (((Below.refl _ _).alloc (Nat.le_refl _) _).alloc (by simp) _).drew⟩
theorem copyC (w : World) (G : Gr) (cs : List Value) (hcg : ∀ i, i < 6400 → cs[i]? = some (.bool (G i))) : CopyW w G w.heap.size (.slice (some ⟨w.heap.size + 1, 0, none⟩) 0 0) (((((w.alloc (.cells Tryz.zeroCells89 89)).drew).setCells w.heap.size 0 cs)).alloc (.cells #[] 24)) := by
  have z : GB (w.alloc (.cells Tryz.zeroCells89 89)).drew w.heap.size 89 emptyG := GB.zero w 89
  have hb : Below w.heap.size w (((w.alloc (.cells Tryz.zeroCells89 89)).drew).setCells w.heap.size 0 cs) := below_setCells (Nat.le_refl _) _ _ _ ((Below.refl _ _).alloc (Nat.le_refl _) _).drew
  have r := RLL.lit0 (((w.alloc (.cells Tryz.zeroCells89 89)).drew).setCells w.heap.size 0 cs) (B := w.heap.size) hb.size
  have e : (((w.alloc (.cells Tryz.zeroCells89 89)).drew).setCells w.heap.size 0 cs).heap.size = w.heap.size + 1 := by rw [size_setCells]; simp
  rw [e] at r
  exact ⟨Nat.le_refl _, r, (z.copied hcg).alloc _, hb.alloc hb.size _⟩

set_option maxHeartbeats 12800000 in
set_option maxRecDepth 100000 in
/-- parts. -/
theorem parts_any (g : Nat) (G : Gr) (w : World) (hG : GB w g 89 G) : Calls Tryz.prog 82 #[.pointer (some ⟨g, 0, none⟩), .bool false] w fun e w' => ∃ u, e = .returned u ∧ RLL w' w.heap.size u ((comps G).map canon) ∧ Below w.heap.size w w' := by
  obtain ⟨cs, hcl, hcg, hone, hrange⟩ := cells_list g G
  have hinfo : (Tryz.prog.info? 89).map (·.size) = some cs.length := by rw [hcl]; exact infoCells
  have hund := Tryz.underlying89
  have hgl := hG.lt
  go_enter Tryz.func82, Tryz.ntmps82
  go_upto_region 1 with fail
  go_cut [5, 6] from 12 to 15 (fun ov lv wx => ∃ lb, lv = .pointer (some ⟨lb, 0, none⟩) ∧ w.heap.size ≤ lb ∧ RLL wx w.heap.size ov [] ∧ GB wx lb 89 G ∧ Below w.heap.size w wx)
  case first =>
    have thA : ((w.alloc (.cells #[] 24)).alloc (.cells Tryz.zeroCells89 89)).drew.there (w.heap.size + 1) 0 6400 := by
      have z := GB.zero (w.alloc (.cells #[] 24)) 89
      have e : (w.alloc (.cells #[] 24)).heap.size = w.heap.size + 1 := by simp
      rw [e] at z
      exact GB.there (w := ((w.alloc (.cells #[] 24)).alloc (.cells Tryz.zeroCells89 89)).drew) z
    have thB : ((w.alloc (.cells Tryz.zeroCells89 89)).alloc (.cells #[] 24)).drew.there w.heap.size 0 6400 := GB.there (w := ((w.alloc (.cells Tryz.zeroCells89 89)).alloc (.cells #[] 24)).drew) ((GB.zero w 89).alloc _)
    have thC : (w.alloc (.cells Tryz.zeroCells89 89)).drew.there w.heap.size 0 6400 := GB.there (w := (w.alloc (.cells Tryz.zeroCells89 89)).drew) (GB.zero w 89)
    have n1 : g ≠ w.heap.size := by omega
    have n2 : g ≠ w.heap.size + 1 := by omega
    go_region_held3 (fun w' => w'.rangeAt g 0 cs) (first | exact hrange _ hG | exact hrange _ hG.drew | exact hrange _ (hG.alloc _).drew | exact hrange _ ((hG.alloc _).alloc _).drew | exact hrange _ (((hG.alloc _).alloc _).drew.cellsOther n2 _ _) | exact hrange _ (((hG.alloc _).alloc _).drew.cellsOther n1 _ _) | exact hrange _ ((hG.alloc _).drew.cellsOther n1 _ _) | exact hrange _ (((hG.alloc _).drew.cellsOther n1 _ _).alloc _))
      (fail)
    all_goals
      go_wp2_with fail
      go_meet
      first | exact ⟨_, rfl, (copyA w G cs hcg).lo, (copyA w G cs hcg).out, (copyA w G cs hcg).left, (copyA w G cs hcg).below⟩ | exact ⟨_, rfl, (copyB w G cs hcg).lo, (copyB w G cs hcg).out, (copyB w G cs hcg).left, (copyB w G cs hcg).below⟩ | exact ⟨_, rfl, (copyC w G cs hcg).lo, (copyC w G cs hcg).out, (copyC w G cs hcg).left, (copyC w G cs hcg).below⟩
  case rest =>
    obtain ⟨lb, rfl, hlb, hO, hL, hb⟩ := hcut
    have Hc0 := Lib.hid (show comps G = [] ++ compsF G (0 * 80) from by rw [Nat.zero_mul]; rfl)
    have hCl := comps_length G
    clear hG hrange hcg hone hinfo hund hcl hgl
    go_wp2
    go_loopw [5, 16] (fun ov yv wr => ∃ (a : Nat) (L : Gr) (done : List Gr), a ≤ 80 ∧ yv = .int .i64 a ∧ Hid (comps G = done ++ compsF L (a * 80)) ∧ RLL wr w.heap.size ov (done.map canon) ∧ GB wr lb 89 L ∧ Below w.heap.size w wr) (fun _ yv _ => 80 - (intOf yv).toNat)
    case atStart => exact ⟨0, G, [], by omega, rfl, Hc0, hO, hL, hb⟩
    case round =>
      obtain ⟨a, L, done, ha, rfl, hC, hO1, hL1, hb1⟩ := hrel
      clear hO hL hb Hc0
      by_cases hlt : a < 80
      · have hd : decide ((a : Int) < 80) = true := decide_eq_true (by omega)
        have Hc1 := Lib.hid (show comps G = done ++ compsF L (a * 80 + 0) from hC.out)
        clear hC
        go_wp2
        try rw [hd]
        clear hd
        go_loopw [5, 19] (fun ov xv wr => ∃ (b : Nat) (L : Gr) (done : List Gr), b ≤ 80 ∧ xv = .int .i64 b ∧ Hid (comps G = done ++ compsF L (a * 80 + b)) ∧ RLL wr w.heap.size ov (done.map canon) ∧ GB wr lb 89 L ∧ Below w.heap.size w wr) (fun _ xv _ => 80 - (intOf xv).toNat)
        case atStart => exact ⟨0, L, done, by omega, rfl, Hc1, hO1, hL1, hb1⟩
        case round =>
          obtain ⟨b, L, done, hb8, rfl, hC, hO2, hL2, hb2⟩ := hrel
          clear hO1 hL1 hb1 Hc1
          by_cases hltb : b < 80
          · have hi0 : (0 : Int) ≤ (a : Int) ∧ (a : Int) < 80 ∧ (0 : Int) ≤ (b : Int) ∧ (b : Int) < 80 := by omega
            have hk6 : a * 80 + b < 6400 := by omega
            have cL := hL2.cell hk6
            by_cases hLc : L (a * 80 + b) = true
            · have Hy := Lib.hid (compsF_yes hk6 hLc)
              rw [hLc] at cL
              have hll := hL2.lt
              go_wp2_with fail
              refine (flood_any lb L b a (by omega) (by omega) _ hL2).mono ?_
              rintro e w3 ⟨o, rfl, ho, hP, hb3⟩
              generalize compG L (a * 80 + b) = P at hP Hy
              replace hL2 := hL2.on hb3
              replace hO2 := hO2.on hb3
              replace hb2 := hb2.trans (hb3.mono hb2.size)
              have hne : o ≠ lb := by omega
              have hl0 : GB w3 lb 89 (lessG L P (0 * 80)) := by rw [Nat.zero_mul, less_zero]; exact hL2
              obtain ⟨AO, cO, hvo, hcO, hmO⟩ := hO2.form
              rw [List.length_map] at hvo
              subst hvo
              clear cL hLc hb3 hL2 ho hll
              go_wp2
              go_loopw [32] (fun cv wi => ∃ c : Nat, c ≤ 80 ∧ cv = .int .i64 c ∧ GB wi lb 89 (lessG L P (c * 80)) ∧ GB wi o 89 P ∧ RLL wi w.heap.size (.slice AO done.length cO) (done.map canon) ∧ Below w.heap.size w wi) (fun cv _ => 80 - (intOf cv).toNat)
              case atStart => exact ⟨0, by omega, rfl, hl0, hP, hO2, hb2⟩
              case round =>
                obtain ⟨c, hc8, rfl, hL3, hP3, hO3, hb3⟩ := hrel
                clear hl0 hP hO2 hb2
                by_cases hltc : c < 80
                · have hdc : decide ((c : Int) < 80) = true := decide_eq_true (by omega)
                  go_wp2
                  try rw [hdc]
                  clear hdc
                  go_loopw [35] (fun dv wj => ∃ d : Nat, d ≤ 80 ∧ dv = .int .i64 d ∧ GB wj lb 89 (lessG L P (c * 80 + d)) ∧ GB wj o 89 P ∧ RLL wj w.heap.size (.slice AO done.length cO) (done.map canon) ∧ Below w.heap.size w wj) (fun dv _ => 80 - (intOf dv).toNat)
                  case atStart => exact ⟨0, by omega, rfl, hL3, hP3, hO3, hb3⟩
                  case round =>
                    obtain ⟨d, hd8, rfl, hL4, hP4, hO4, hb4⟩ := hrel
                    clear hL3 hP3 hO3 hb3
                    obtain ⟨wj, rfl⟩ : ∃ W : World, W = wr := ⟨_, rfl⟩
                    by_cases hltd : d < 80
                    · have hi1 : (0 : Int) ≤ (c : Int) ∧ (c : Int) < 80 ∧ (0 : Int) ≤ (d : Int) ∧ (d : Int) < 80 := by omega
                      have hk7 : c * 80 + d < 6400 := by omega
                      have c1 := hL4.cell hk7
                      have c2 := hP4.cell hk7
                      have z1 := hL4.frozen (c * 80 + d)
                      rw [less_here] at c1
                      by_cases h1 : L (c * 80 + d) = true
                      · rw [h1] at c1
                        have hst := hL4.store (j := c * 80 + d) hk7 (!P (c * 80 + d))
                        rw [less_step L P (c * 80 + d) (!P (c * 80 + d)) (by rw [h1]; rfl)] at hst
                        have Hst := Lib.hid hst
                        have hO5 := RLL.put_other hO4 hL4 (only_store (only_refl wj _) (c * 80 + d) (.bool (!P (c * 80 + d))))
                        have hP5 := hP4.other (p := ⟨lb, c * 80 + d, none⟩) hne (.bool (!P (c * 80 + d)))
                        have hb5 := hb4.setCell (p := ⟨lb, c * 80 + d, none⟩) hlb (.bool (!P (c * 80 + d)))
                        clear hst hL4 hP4 hO4 hb4 h1
                        go_wp2
                        go_still_tail 19, (by kernel_rfl)
                        change wpList _ _ _ _ _ wj.drew
                        go_wp2
                        exact ⟨⟨d + 1, by omega, by go_num, Hst.out, hP5, hO5, hb5.drew⟩, by simp [intOf]; omega⟩
                      · have h1' : L (c * 80 + d) = false := by simpa using h1
                        rw [h1'] at c1
                        have hst := hL4.store (j := c * 80 + d) hk7 false
                        rw [less_step L P (c * 80 + d) false (by rw [h1']; rfl)] at hst
                        have Hst := Lib.hid hst
                        have hO5 := RLL.put_other hO4 hL4 (only_store (only_refl wj _) (c * 80 + d) (.bool false))
                        have hP5 := hP4.other (p := ⟨lb, c * 80 + d, none⟩) hne (.bool false)
                        have hb5 := hb4.setCell (p := ⟨lb, c * 80 + d, none⟩) hlb (.bool false)
                        clear hst hL4 hP4 hO4 hb4 h1 h1' c2
                        go_wp2
                        go_region
                        all_goals
                          go_wp2
                          exact ⟨⟨d + 1, by omega, by go_num, Hst.out, hP5, hO5, hb5.drew⟩, by simp [intOf]; omega⟩
                    · have hde : d = 80 := by omega
                      subst hde
                      rw [← Nat.succ_mul] at hL4
                      go_wp2
                      exact ⟨⟨c + 1, by omega, by go_num, hL4, hP4, hO4, hb4⟩, by simp [intOf]; omega⟩
                · have hce : c = 80 := by omega
                  subst hce
                  have hL5 := hL3.same (less_all L P)
                  have Hn := Lib.hid (show comps G = (done ++ [P]) ++ compsF (minusG L P) (a * 80 + (b + 1)) from by rw [hC.out, Hy.out, List.append_assoc]; rfl)
                  have hdl : (done.map canon).length ≤ 1000000 := by
                    have := congrArg List.length hC.out
                    rw [List.length_append] at this
                    rw [List.length_map]
                    omega
                  clear hL3 hC Hy
                  go_wp2_with fail
                  refine (region_any o P _ hP3).mono ?_
                  rintro e w6 ⟨u6, rfl, hR6, hb6⟩
                  have hO6 := hO3.on hb6
                  have hL6 := hL5.on hb6
                  have hb7 := hb3.trans (hb6.mono hb3.size)
                  have hR7 := hR6.less hb3.size
                  have hs7 := hb7.size
                  obtain ⟨vs, hv1, hv2, hv3⟩ := hO6
                  have hO7 : RLL w6 w.heap.size (.slice AO done.length cO) (done.map canon) := ⟨vs, hv1, hv2, hv3⟩
                  have Hmap := Lib.hid (show (done ++ [P]).map canon = done.map canon ++ [canon P] by rw [List.map_append]; rfl)
                  clear hL5 hP3 hO3 hb3 hR6 hb6
                  obtain ⟨A6, c6, rfl, -, -, -⟩ := hR7.form
                  go_wp2_with (at_builtin; refine wpList_append_RLL rfl (.tmp 59) (.tmp 62) rfl w.heap.size _ (done.map canon) rfl hO7 _ (canon P) hR7 rfl hdl hs7 ?_; intro v' w' k1 k2 k3)
                  rw [← Hmap.out] at k1
                  exact ⟨⟨b + 1, minusG L P, done ++ [P], by omega, by go_num, Hn, k1, hL6.keptO hv1 (by decide) k2, hb7.trans k3⟩, by simp [intOf]; omega⟩
            · have hLc' : L (a * 80 + b) = false := by simpa using hLc
              have Hn := Lib.hid (show comps G = done ++ compsF L (a * 80 + (b + 1)) from by rw [hC.out, compsF_no hk6 hLc']; rfl)
              rw [hLc'] at cL
              clear hC hLc hLc'
              go_wp2
              exact ⟨⟨b + 1, L, done, by omega, by go_num, Hn, hO2, hL2, hb2⟩, by simp [intOf]; omega⟩
          · have hbe : b = 80 := by omega
            subst hbe
            have Hn := Lib.hid (show comps G = done ++ compsF L ((a + 1) * 80) from by rw [hC.out, Nat.succ_mul])
            clear hC
            go_wp2
            exact ⟨⟨a + 1, L, done, by omega, by go_num, Hn, hO2, hL2, hb2⟩, by simp [intOf]; omega⟩
      · have hae : a = 80 := by omega
        subst hae
        have he : comps G = done := by rw [hC.out, compsF_end (by omega), List.append_nil]
        subst he
        obtain ⟨ss, s1, s2, s3⟩ := comps_firsts G
        clear hC
        go_wp2_with fail
        refine (sort_any _ (comps G) ss _ _ hO1 s1 s2 s3 hCl).mono ?_
        rintro e w9 ⟨rfl, hO9, hb9⟩
        go_wp2
        go_ret
        exact ⟨_, rfl, hO9, hb1.trans (hb9.mono hb1.size)⟩

end Go.Proofs.YtjiljodchebniaaGreat

namespace Go.Proofs.YtjiljodchebniaaGreat
open Go.RowKit

set_option maxHeartbeats 800000 in
/-- components. -/
theorem components_any (v : Value) (rs : List Rc) (w : World) (hv : RL w 0 v rs) : Calls Tryz.prog 46 #[v] w fun e w' => ∃ u, e = .returned u ∧ RLL w' w.heap.size u ((comps (cellsG rs)).map canon) ∧ Below w.heap.size w w' := by
  go_enter Tryz.func46, Tryz.ntmps46
  go_wp2_with fail
  refine (cellsOf_any v rs _ hv).mono ?_
  rintro e w1 ⟨g, rfl, hg, hG, hb1⟩
  go_wp2_with fail
  refine (parts_any g _ _ hG).mono ?_
  rintro e w2 ⟨u, rfl, hU, hb2⟩
  go_wp2
  go_ret
  exact ⟨_, rfl, hU.less hb1.size, hb1.trans (hb2.mono hb1.size)⟩

/-- The number of cells of the smallest component. -/
noncomputable def smV (rs : List Rc) : Int := if isReg rs = true then minN (countsV (cellsG rs)) else -1
theorem smV_yes {rs : List Rc} (h : isReg rs = true) : smV rs = minN (countsV (cellsG rs)) := if_pos h
theorem smV_no {rs : List Rc} (h : isReg rs = false) : smV rs = -1 := if_neg (by rw [h]; simp)
theorem counts_get (G : Gr) {k : Nat} {P : Gr} (h : (comps G)[k]? = some P) : (countsV G)[k]? = some (countG P) := by
  unfold countsV
  rw [List.getElem?_map, h]; rfl
theorem counts_length (G : Gr) : (countsV G).length = (comps G).length := List.length_map ..

end Go.Proofs.YtjiljodchebniaaGreat
