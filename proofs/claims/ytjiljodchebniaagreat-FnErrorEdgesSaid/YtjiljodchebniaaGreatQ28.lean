/- Contracts: facing's comparison of pairs; slices.SortFunc at a list of pairs of edges. Condition: the list in memory. Contract: the program's boundary. Condition: a set of cells in memory. -/
import Derived.Test.YtjiljodchebniaaGreatQ27
import Derived.Test.YtjiljodchebniaaGreatQ16
import Derived.Deep.RegionHeld3
import Derived.Test.YtjiljodchebniaaGreatQ21

namespace Go.Proofs
open Go.Shelf
def Tryz.sortP_ren : Go.Shelf.Ren := ⟨fun | 6 => 61 | 15 => 71 | 14 => 91 | 28 => 100 | 29 => 101 | 20 => 123 | 21 => 124 | 22 => 125 | 23 => 126 | 24 => 127 | 25 => 128 | 26 => 129 | 27 => 130 | 46 => 150 | 47 => 132 | 48 => 133 | 49 => 151 | 50 => 152 | 57 => 167 | n => n, fun | 22 => 39 | 24 => 50 | 25 => 103 | 3 => 3 | 39 => 107 | 0 => 0 | 53 => 135 | 55 => 137 | 4 => 4 | 46 => 128 | 45 => 127 | 50 => 132 | 5 => 5 | 9 => 9 | 66 => 155 | 70 => 159 | 76 => 174 | 77 => 175 | n => n, fun | n => n⟩
theorem Tryz.sortP : Go.Proofs.SlLaysF0.n6 Tryz.prog Tryz.sortP_ren := {
  mixed := by kernel_rfl
  f6 := ⟨Tryz.f61.name, by decide, Tryz.func61.trans (congrArg some (by kernel_rfl))⟩
  f14 := ⟨Tryz.f91.name, by decide, Tryz.func91.trans (congrArg some (by kernel_rfl))⟩
  f15 := Tryz.func71.trans (congrArg some (by kernel_rfl))
  f20 := ⟨Tryz.f123.name, by decide, Tryz.func123.trans (congrArg some (by kernel_rfl))⟩
  f21 := ⟨Tryz.f124.name, by decide, Tryz.func124.trans (congrArg some (by kernel_rfl))⟩
  f22 := ⟨Tryz.f125.name, by decide, Tryz.func125.trans (congrArg some (by kernel_rfl))⟩
  f23 := ⟨Tryz.f126.name, by decide, Tryz.func126.trans (congrArg some (by kernel_rfl))⟩
  f24 := ⟨Tryz.f127.name, by decide, Tryz.func127.trans (congrArg some (by kernel_rfl))⟩
  f25 := ⟨Tryz.f128.name, by decide, Tryz.func128.trans (congrArg some (by kernel_rfl))⟩
  f26 := ⟨Tryz.f129.name, by decide, Tryz.func129.trans (congrArg some (by kernel_rfl))⟩
  f27 := ⟨Tryz.f130.name, by decide, Tryz.func130.trans (congrArg some (by kernel_rfl))⟩
  f28 := Tryz.func100.trans (congrArg some (by kernel_rfl))
  f29 := Tryz.func101.trans (congrArg some (by kernel_rfl))
  f46 := ⟨Tryz.f150.name, by decide, Tryz.func150.trans (congrArg some (by kernel_rfl))⟩
  f47 := Tryz.func132.trans (congrArg some (by kernel_rfl))
  f48 := Tryz.func133.trans (congrArg some (by kernel_rfl))
  f49 := ⟨Tryz.f151.name, by decide, Tryz.func151.trans (congrArg some (by kernel_rfl))⟩
  f50 := ⟨Tryz.f152.name, by decide, Tryz.func152.trans (congrArg some (by kernel_rfl))⟩
  f57 := ⟨Tryz.f167.name, by decide, Tryz.func167.trans (congrArg some (by kernel_rfl))⟩
  t0 := Tryz.underlying0
  a0 := Tryz.isAgg0
  z0 := Tryz.sizeOf0
  v0 := Tryz.zeroValue0
  t3 := Tryz.underlying3
  a3 := Tryz.isAgg3
  z3 := Tryz.sizeOf3
  v3 := Tryz.zeroValue3
  t4 := Tryz.underlying4
  a4 := Tryz.isAgg4
  z4 := Tryz.sizeOf4
  v4 := Tryz.zeroValue4
  t5 := Tryz.underlying5
  a5 := Tryz.isAgg5
  z5 := Tryz.sizeOf5
  v5 := Tryz.zeroValue5
  t9 := Tryz.underlying9
  a9 := Tryz.isAgg9
  z9 := Tryz.sizeOf9
  v9 := Tryz.zeroValue9
  t22 := Tryz.underlying39
  a22 := Tryz.isAgg39
  z22 := Tryz.sizeOf39
  v22 := Tryz.zeroValue39
  t25 := Tryz.underlying103
  a25 := Tryz.isAgg103
  z25 := Tryz.sizeOf103
  v25 := Tryz.zeroValue103
  t39 := Tryz.underlying107
  a39 := Tryz.isAgg107
  z39 := Tryz.sizeOf107
  v39 := Tryz.zeroValue107
  t45 := Tryz.underlying127
  a45 := Tryz.isAgg127
  z45 := Tryz.sizeOf127
  v45 := Tryz.zeroValue127
  t46 := Tryz.underlying128
  a46 := Tryz.isAgg128
  z46 := Tryz.sizeOf128
  v46 := Tryz.zeroValue128
  t50 := Tryz.underlying132
  a50 := Tryz.isAgg132
  z50 := Tryz.sizeOf132
  v50 := Tryz.zeroValue132
  t53 := Tryz.underlying135
  a53 := Tryz.isAgg135
  z53 := Tryz.sizeOf135
  v53 := Tryz.zeroValue135
  t55 := Tryz.underlying137
  a55 := Tryz.isAgg137
  z55 := Tryz.sizeOf137
  v55 := Tryz.zeroValue137
  t66 := Tryz.underlying155
  a66 := Tryz.isAgg155
  z66 := Tryz.sizeOf155
  v66 := Tryz.zeroValue155
  t70 := Tryz.underlying159
  a70 := Tryz.isAgg159
  z70 := Tryz.sizeOf159
  v70 := Tryz.zeroValue159
  t76 := Tryz.underlying174
  a76 := Tryz.isAgg174
  z76 := Tryz.sizeOf174
  v76 := Tryz.zeroValue174
  t77 := Tryz.underlying175
  a77 := Tryz.isAgg175
  z77 := Tryz.sizeOf175
  v77 := Tryz.zeroValue175 }
end Go.Proofs
namespace Go.Proofs.YtjiljodchebniaaGreat
open Go.Shelf Go.RowKit Go.Lib Go.Sort

/-- Draws and new blocks alone. -/
def GrN (w w' : World) : Prop := ∃ q os', w' = Sort.grow (w.drewN q) os'
theorem GrN.refl (w : World) : GrN w w := ⟨0, #[], by simp [Sort.grow, World.drewN]⟩
theorem GrN.trans {a b c : World} (h : GrN a b) (h2 : GrN b c) : GrN a c := by
  obtain ⟨q, os, rfl⟩ := h
  obtain ⟨q2, os2, rfl⟩ := h2
  refine ⟨q + q2, os ++ os2, ?_⟩
  rw [← grow_grow]
  simp [Sort.grow, World.drewN, Nat.add_assoc]
theorem GrN.drew {a b : World} (h : GrN a b) : GrN a b.drew := h.trans ⟨1, #[], by
  have : Sort.grow b.drew #[] = b.drew := by
    simp [Sort.grow]
    rfl
  exact this.symm⟩
theorem GrN.alloc {a b : World} (h : GrN a b) (o : Obj) : GrN a (b.alloc o) := h.trans ⟨0, #[o], by rw [Sort.alloc_eq_grow]; simp [Sort.grow, World.drewN]⟩
theorem GrN.below {a b : World} (h : GrN a b) : Below a.heap.size a b := by
  obtain ⟨q, os, rfl⟩ := h
  exact ⟨rfl, rfl, rfl, by simp, fun k hk => heap_grow_old _ _ (by simpa using hk)⟩

def orK2 (c0 c1 : Int) (k : Nat) : Int := if k = 0 then nz c0 c1 else if k = 1 then c1 else 0
set_option maxHeartbeats 800000 in
set_option maxRecDepth 100000 in
/-- cmp.Or of two. -/
theorem or2_any (g : Nat) (c0 c1 : Int) (w : World) (hb : Bk w g 3 #[.int .i64 c0, .int .i64 c1]) : Calls Tryz.prog 63 #[.slice (some ⟨g, 0, none⟩) 2 2] w fun e w' => e = .returned (.int .i64 (nz c0 c1)) ∧ w = w' := by
  have f0 : w.cell? ⟨g, 0, none⟩ = some (.int .i64 c0) := hb.cell 0
  have f1 : w.cell? ⟨g, 1, none⟩ = some (.int .i64 c1) := hb.cell 1
  clear hb
  have ht : nz c0 c1 = orK2 c0 c1 0 := rfl
  rw [ht]
  go_enter Tryz.func63, Tryz.ntmps63
  go_wp2
  go_loop [8] (fun iv => ∃ k : Nat, k ≤ 2 ∧ iv = .int .i64 k ∧ Hid (orK2 c0 c1 k = orK2 c0 c1 0)) (fun iv => 2 - (intOf iv).toNat)
  case atStart => exact ⟨0, by omega, rfl, Lib.hid rfl⟩
  case round =>
    obtain ⟨k, hk, rfl, hH⟩ := hrel
    have hk5 : k = 0 ∨ k = 1 ∨ k = 2 := by omega
    rcases hk5 with rfl | rfl | rfl
    · by_cases h : c0 = 0
      · have He := Lib.hid (show orK2 c0 c1 1 = orK2 c0 c1 0 from by simp [orK2, nz, h])
        subst h
        go_wp2
        exact ⟨⟨1, by omega, by go_num, He⟩, by simp [intOf]⟩
      · have He := Lib.hid (show c0 = orK2 c0 c1 0 from by simp [orK2, nz, h])
        go_wp2
        go_ret
        exact ⟨ret_eqI He.out, rfl⟩
    · by_cases h : c1 = 0
      · have He := Lib.hid (show orK2 c0 c1 2 = orK2 c0 c1 0 from by rw [← hH.out]; simp [orK2, h])
        subst h
        go_wp2
        exact ⟨⟨2, by omega, by go_num, He⟩, by simp [intOf]⟩
      · have He := Lib.hid (show c1 = orK2 c0 c1 0 from by rw [← hH.out]; simp [orK2])
        go_wp2
        go_ret
        exact ⟨ret_eqI He.out, rfl⟩
    · have He := Lib.hid (show (0 : Int) = orK2 c0 c1 0 from by rw [← hH.out]; simp [orK2])
      go_wp2
      go_ret
      exact ⟨ret_eqI He.out, rfl⟩

def cmpP (a b : EP) : Int := nz (cmpE a.f b.f) (cmpE a.s b.s)
theorem cmpE_four (a b c d a' b' c' d' : Int) (w : World) : Calls Tryz.prog 31 #[.agg #[.int .i64 a, .int .i64 b, .int .i64 c, .int .i64 d], .agg #[.int .i64 a', .int .i64 b', .int .i64 c', .int .i64 d']] w fun e w' => e = .returned (.int .i64 (cmpE ⟨a, b, c, d⟩ ⟨a', b', c', d'⟩)) ∧ GrN w w' := compareEdges_any ⟨a, b, c, d⟩ ⟨a', b', c', d'⟩ w
set_option maxHeartbeats 1600000 in
set_option maxRecDepth 100000 in
/-- facing's comparison. -/
theorem comparePairs_any (x0 x1 x2 x3 x4 x5 x6 x7 xd u0 u1 u2 u3 u4 u5 u6 u7 ud : Int) (w : World) : Calls Tryz.prog 62 #[.agg #[.int .i64 x0, .int .i64 x1, .int .i64 x2, .int .i64 x3, .int .i64 x4, .int .i64 x5, .int .i64 x6, .int .i64 x7, .int .i64 xd], .agg #[.int .i64 u0, .int .i64 u1, .int .i64 u2, .int .i64 u3, .int .i64 u4, .int .i64 u5, .int .i64 u6, .int .i64 u7, .int .i64 ud]] w fun e w' => e = .returned (.int .i64 (nz (cmpE ⟨x0, x1, x2, x3⟩ ⟨u0, u1, u2, u3⟩) (cmpE ⟨x4, x5, x6, x7⟩ ⟨u4, u5, u6, u7⟩))) ∧ GrN w w' := by
  have z0 := (Bk.new w 50 #[.int .i64 x0, .int .i64 x1, .int .i64 x2, .int .i64 x3, .int .i64 x4, .int .i64 x5, .int .i64 x6, .int .i64 x7, .int .i64 xd]).alloc (.cells #[.int .i64 u0, .int .i64 u1, .int .i64 u2, .int .i64 u3, .int .i64 u4, .int .i64 u5, .int .i64 u6, .int .i64 u7, .int .i64 ud] 50)
  have z1 := Bk.new (w.alloc (.cells #[.int .i64 x0, .int .i64 x1, .int .i64 x2, .int .i64 x3, .int .i64 x4, .int .i64 x5, .int .i64 x6, .int .i64 x7, .int .i64 xd] 50)) 50 #[.int .i64 u0, .int .i64 u1, .int .i64 u2, .int .i64 u3, .int .i64 u4, .int .i64 u5, .int .i64 u6, .int .i64 u7, .int .i64 ud]
  rw [show (w.alloc (.cells #[.int .i64 x0, .int .i64 x1, .int .i64 x2, .int .i64 x3, .int .i64 x4, .int .i64 x5, .int .i64 x6, .int .i64 x7, .int .i64 xd] 50)).heap.size = w.heap.size + 1 by simp] at z1
  have g0 := ((GrN.refl w).alloc (.cells #[.int .i64 x0, .int .i64 x1, .int .i64 x2, .int .i64 x3, .int .i64 x4, .int .i64 x5, .int .i64 x6, .int .i64 x7, .int .i64 xd] 50)).alloc (.cells #[.int .i64 u0, .int .i64 u1, .int .i64 u2, .int .i64 u3, .int .i64 u4, .int .i64 u5, .int .i64 u6, .int .i64 u7, .int .i64 ud] 50)
  obtain ⟨W0, hW0⟩ : ∃ W, W = (w.alloc (.cells #[.int .i64 x0, .int .i64 x1, .int .i64 x2, .int .i64 x3, .int .i64 x4, .int .i64 x5, .int .i64 x6, .int .i64 x7, .int .i64 xd] 50)).alloc (.cells #[.int .i64 u0, .int .i64 u1, .int .i64 u2, .int .i64 u3, .int .i64 u4, .int .i64 u5, .int .i64 u6, .int .i64 u7, .int .i64 ud] 50) := ⟨_, rfl⟩
  rw [← hW0] at z0 z1 g0
  have HC := Lib.hid (show ∀ W', GrN W0 W' → (W'.cell? ⟨w.heap.size, 0, none⟩ = some (.int .i64 x0) ∧ W'.cell? ⟨w.heap.size, 1, none⟩ = some (.int .i64 x1) ∧ W'.cell? ⟨w.heap.size, 2, none⟩ = some (.int .i64 x2) ∧ W'.cell? ⟨w.heap.size, 3, none⟩ = some (.int .i64 x3) ∧ W'.cell? ⟨w.heap.size, 4, none⟩ = some (.int .i64 x4) ∧ W'.cell? ⟨w.heap.size, 5, none⟩ = some (.int .i64 x5) ∧ W'.cell? ⟨w.heap.size, 6, none⟩ = some (.int .i64 x6) ∧ W'.cell? ⟨w.heap.size, 7, none⟩ = some (.int .i64 x7) ∧ W'.cell? ⟨w.heap.size, 8, none⟩ = some (.int .i64 xd)) ∧ W'.cell? ⟨w.heap.size + 1, 0, none⟩ = some (.int .i64 u0) ∧ W'.cell? ⟨w.heap.size + 1, 1, none⟩ = some (.int .i64 u1) ∧ W'.cell? ⟨w.heap.size + 1, 2, none⟩ = some (.int .i64 u2) ∧ W'.cell? ⟨w.heap.size + 1, 3, none⟩ = some (.int .i64 u3) ∧ W'.cell? ⟨w.heap.size + 1, 4, none⟩ = some (.int .i64 u4) ∧ W'.cell? ⟨w.heap.size + 1, 5, none⟩ = some (.int .i64 u5) ∧ W'.cell? ⟨w.heap.size + 1, 6, none⟩ = some (.int .i64 u6) ∧ W'.cell? ⟨w.heap.size + 1, 7, none⟩ = some (.int .i64 u7) ∧ W'.cell? ⟨w.heap.size + 1, 8, none⟩ = some (.int .i64 ud) from fun W' hW => ⟨box9 (z0.on hW.below), box9 (z1.on hW.below)⟩)
  have tc := Lib.hid (GrN.refl W0).drew
  have G0 := Lib.hid g0
  obtain ⟨r1, Hr1⟩ : ∃ r, Hid (cmpE ⟨x0, x1, x2, x3⟩ ⟨u0, u1, u2, u3⟩ = r) := ⟨_, Lib.hid rfl⟩
  obtain ⟨r2, Hr2⟩ : ∃ r, Hid (cmpE ⟨x4, x5, x6, x7⟩ ⟨u4, u5, u6, u7⟩ = r) := ⟨_, Lib.hid rfl⟩
  rw [Hr1.out, Hr2.out]
  have HE1 := Lib.hid (show ∀ W', Calls Tryz.prog 31 #[.agg #[.int .i64 x0, .int .i64 x1, .int .i64 x2, .int .i64 x3], .agg #[.int .i64 u0, .int .i64 u1, .int .i64 u2, .int .i64 u3]] W' fun e w' => e = .returned (.int .i64 r1) ∧ GrN W' w' from fun W' => by rw [← Hr1.out]; exact cmpE_four x0 x1 x2 x3 u0 u1 u2 u3 W')
  have HE2 := Lib.hid (show ∀ W', Calls Tryz.prog 31 #[.agg #[.int .i64 x4, .int .i64 x5, .int .i64 x6, .int .i64 x7], .agg #[.int .i64 u4, .int .i64 u5, .int .i64 u6, .int .i64 u7]] W' fun e w' => e = .returned (.int .i64 r2) ∧ GrN W' w' from fun W' => by rw [← Hr2.out]; exact cmpE_four x4 x5 x6 x7 u4 u5 u6 u7 W')
  clear z0 z1 g0
  go_enter Tryz.func62, Tryz.ntmps62
  go_wp2
  rw [← hW0]
  clear hW0
  go_region_held3 (fun W' => (W'.cell? ⟨w.heap.size, 0, none⟩ = some (.int .i64 x0) ∧ W'.cell? ⟨w.heap.size, 1, none⟩ = some (.int .i64 x1) ∧ W'.cell? ⟨w.heap.size, 2, none⟩ = some (.int .i64 x2) ∧ W'.cell? ⟨w.heap.size, 3, none⟩ = some (.int .i64 x3) ∧ W'.cell? ⟨w.heap.size, 4, none⟩ = some (.int .i64 x4) ∧ W'.cell? ⟨w.heap.size, 5, none⟩ = some (.int .i64 x5) ∧ W'.cell? ⟨w.heap.size, 6, none⟩ = some (.int .i64 x6) ∧ W'.cell? ⟨w.heap.size, 7, none⟩ = some (.int .i64 x7) ∧ W'.cell? ⟨w.heap.size, 8, none⟩ = some (.int .i64 xd)) ∧ W'.cell? ⟨w.heap.size + 1, 0, none⟩ = some (.int .i64 u0) ∧ W'.cell? ⟨w.heap.size + 1, 1, none⟩ = some (.int .i64 u1) ∧ W'.cell? ⟨w.heap.size + 1, 2, none⟩ = some (.int .i64 u2) ∧ W'.cell? ⟨w.heap.size + 1, 3, none⟩ = some (.int .i64 u3) ∧ W'.cell? ⟨w.heap.size + 1, 4, none⟩ = some (.int .i64 u4) ∧ W'.cell? ⟨w.heap.size + 1, 5, none⟩ = some (.int .i64 u5) ∧ W'.cell? ⟨w.heap.size + 1, 6, none⟩ = some (.int .i64 u6) ∧ W'.cell? ⟨w.heap.size + 1, 7, none⟩ = some (.int .i64 u7) ∧ W'.cell? ⟨w.heap.size + 1, 8, none⟩ = some (.int .i64 ud))
    (first | with_reducible exact HC.out _ tc.out | with_reducible exact HC.out _ tx.out | with_reducible exact HC.out _ ty.out | with_reducible exact HC.out _ (ty.out.alloc _))
    (first
      | (go_at_call 31; (with_reducible refine (HE1.out _).mono ?_); rintro e w1 ⟨rfl, hb1⟩; have tx := Lib.hid (tc.out.trans hb1))
      | (go_at_call 31; (with_reducible refine (HE2.out _).mono ?_); rintro e w2 ⟨rfl, hb2⟩; have ty := Lib.hid (tx.out.trans hb2); have hO := Bk.new w2 3 #[.int .i64 r1, .int .i64 r2])
      | (go_at_call 63; refine (or2_any _ _ _ _ hO).mono ?_; rintro e w3 ⟨rfl, rfl⟩))
  all_goals
    go_wp2
    go_ret
    exact ⟨rfl, G0.out.trans (ty.out.alloc _)⟩
theorem lt_cmpP (a b : EP) : ltOf cmpP a b = epLt a b := by
  have h1 : ltOf cmpE a.f b.f = edLt a.f b.f := lt_cmpE _ _
  have h2 : ltOf cmpE a.s b.s = edLt a.s b.s := lt_cmpE _ _
  have e0 : a.f = b.f → cmpE a.f b.f = 0 := fun e => by rw [e]; unfold cmpE nz cmpI; simp
  have e1 : cmpE a.f b.f = 0 → a.f = b.f := fun e => by
    have l1 : ltOf cmpE a.f b.f = false := by unfold ltOf; rw [e]; rfl
    refine tot_cmpE a.f b.f l1 ?_
    rw [lt_cmpE]
    cases hl : edLt b.f a.f with
    | false => rfl
    | true =>
      exfalso
      have h3 := (edLt_iff b.f a.f).1 hl
      unfold cmpE nz cmpI at e
      revert e
      repeat' split
      all_goals first | omega | (intro _; omega)
  unfold epLt
  by_cases h : a.f = b.f
  · rw [if_pos h, ← h2]
    unfold ltOf cmpP nz
    rw [if_pos (e0 h)]
  · rw [if_neg h, ← h1]
    unfold ltOf cmpP nz
    rw [if_neg (fun e => h (e1 e))]

theorem cmpPairs_any (x y : EP) (w : World) : Calls Tryz.prog 62 #[x.val, y.val] w fun e w' => e = .returned (.int .i64 (cmpP x y)) ∧ ∃ q os', w' = Sort.grow (w.drewN q) os' := by
  obtain ⟨⟨a0, a1, a2, a3⟩, ⟨a4, a5, a6, a7⟩⟩ := x
  obtain ⟨⟨b0, b1, b2, b3⟩, ⟨b4, b5, b6, b7⟩⟩ := y
  exact comparePairs_any a0 a1 a2 a3 a4 a5 a6 a7 _ b0 b1 b2 b3 b4 b5 b6 b7 _ w
theorem swo_cmpP : SWO (ltOf cmpP) where
  irrefl x := by rw [lt_cmpP]; exact epLt_irr x
  trans x y z h1 h2 := by rw [lt_cmpP] at *; exact epLt_trans h1 h2
  ntrans x y z h1 h2 := by
    rw [lt_cmpP] at *
    cases h : epLt x z with
    | false => rfl
    | true =>
      rcases epLt_or h1 with rfl | h3
      · rw [h2] at h; cases h
      · have := epLt_trans h3 h
        rw [h2] at this; cases this
theorem tot_cmpP (x y : EP) (h1 : ltOf cmpP x y = false) (h2 : ltOf cmpP y x = false) : x = y := by
  rw [lt_cmpP] at *
  rcases epLt_or h1 with h | h
  · exact h
  · rw [h2] at h; cases h
instance : Inhabited EP := ⟨⟨⟨0, 0, 0, 0⟩, ⟨0, 0, 0, 0⟩⟩⟩
theorem flat_pairs (rs : List EP) : flatK EP.vals 9 rs.toArray = (flatPE rs).toArray := by
  apply Array.ext
  · rw [size_flatK, List.size_toArray, List.size_toArray, flatPE_length]
  · intro t h1 h2
    rw [size_flatK, List.size_toArray] at h1
    have hk : t / 9 < rs.length := by omega
    have hx : rs[t / 9]? = some rs[t / 9] := List.getElem?_eq_getElem hk
    have f0 := flatPE_at rs (t / 9) _ hx (t % 9) (Nat.mod_lt _ (by decide))
    have e : (flatK EP.vals 9 rs.toArray)[t] = (EP.vals rs[t / 9])[t % 9]! := by
      have := get_flatK EP.vals 9 rs.toArray t (by rw [List.size_toArray]; exact h1)
      rw [getElem!_pos _ t (by rw [size_flatK, List.size_toArray]; exact h1)] at this
      rw [this]
      simp [hk]
    rw [e, List.getElem_toArray]
    have hl : t % 9 < (EP.vals rs[t / 9]).length := Nat.mod_lt _ (by decide)
    rw [show t / 9 * 9 + t % 9 = t by omega, List.getElem?_eq_getElem (by simpa using h2), List.getElem?_eq_getElem hl] at f0
    have e9 : (EP.vals rs[t / 9])[t % 9]! = (EP.vals rs[t / 9])[t % 9]'hl := getElem!_pos (EP.vals rs[t / 9]) (t % 9) hl
    rw [e9]
    exact (Option.some.inj f0).symm
def srtP (l : List EP) : List EP := l.mergeSort fun x y => !epLt y x
theorem srtP_mem (l : List EP) (e : EP) : e ∈ srtP l ↔ e ∈ l := List.mem_mergeSort
theorem srtP_len (l : List EP) : (srtP l).length = l.length := List.length_mergeSort _

set_option maxHeartbeats 1600000 in
/-- slices.SortFunc at pairs. -/
theorem sortP_any (v : Value) (rs : List EP) (w : World) (B : Nat) (hv : PEL w B v rs) (hl : rs.length ≤ 100000) :
    Calls Tryz.prog 61 #[v, .func (.func 62) #[] #[]] w fun e w' => e = .returned (.tuple #[]) ∧ PEL w' B v (srtP rs) ∧ w.grownBy w' v.ownBlock := by
  have hv0 := hv
  have hnone : ∀ (p : Option Addr) (cap : Nat), v = .slice p 0 cap → rs = [] → Calls Tryz.prog 61 #[v, .func (.func 62) #[] #[]] w fun e w' => e = .returned (.tuple #[]) ∧ PEL w' B v (srtP rs) ∧ w.grownBy w' v.ownBlock := by
    rintro p cap rfl rfl
    refine (AnyF.slices_SortFunc_none Tryz.sortP p cap _ w).mono ?_
    rintro e w' ⟨rfl, rfl⟩
    exact ⟨rfl, by simpa [srtP] using hv0, only_refl _ _⟩
  rcases hv.2 with ⟨hvn, h0⟩ | ⟨g, cap, cur, rfl, hBg, hh, hnc, hcm, hcs, htake⟩
  · exact hnone none 0 hvn (List.eq_nil_of_length_eq_zero h0)
  · have hlt : g < w.heap.size := (own_lt hv g rfl).2
    have eg : ∀ args w, (callFunc 62 args).run Tryz.prog w = .ok (.enter 62 args) w := enters_of Tryz.func62 (by kernel_rfl) rfl
    have hcmp : CmpLays Tryz.prog 62 #[] EP.vals 9 cmpP g 0 rs.toArray.size w := by
      intro m os dk hdk x y
      exact cmpPairs_any x y _
    have hH : HoldsK EP.vals 9 w g 0 rs.toArray := by
      unfold HoldsK
      rw [flat_pairs]
      intro j hj
      rw [List.size_toArray] at hj
      rw [Nat.zero_add]
      refine ⟨?_, World.ownsRow.frozenAt hv j⟩
      rw [World.ownsRow.cellAt hv j (by rw [flatPE_length] at hj; exact hj), List.getElem?_eq_getElem hj]
      simp [hj]
    have hcon := AnyQ.slices_SortFunc_total Tryz.sortP 9 Tryz.isAgg50 Tryz.sizeOf50 EP.vals (fun _ => rfl) (fun x v hv => by simp [EP.vals] at hv; rcases hv with rfl | rfl | rfl | rfl | rfl | rfl | rfl | rfl | rfl <;> rfl) cmpP swo_cmpP 62 #[] g 0 cap rs.toArray w eg hcmp hH hlt (by rw [List.size_toArray]; omega) tot_cmpP
    rw [List.size_toArray] at hcon
    refine hcon.mono ?_
    rintro e w' ⟨rfl, n, os, rfl⟩
    have hs : (rs.toArray.toList.mergeSort fun x y => !(ltOf cmpP) y x) = srtP rs := by
      unfold srtP
      congr 1
      funext x y
      rw [lt_cmpP]
    rw [hs]
    unfold sortWorldK putRowK
    rw [flat_pairs]
    have hheap : (grow (putRow id (Sort.ahead w n) g 0 (flatPE (srtP rs)).toArray) os).heap[g]? = some (.cells (putCells id 0 (flatPE (srtP rs)).toArray cur) 50 (0, 0)) := by
      rw [heap_grow_old _ _ (by simpa using hlt)]
      simp [putRow, mapBlock, Sort.ahead, Array.getElem?_modify, hh, onCells]
    have hsl : (flatPE (srtP rs)).length = rs.length * 9 := by rw [flatPE_length, srtP_len]
    refine ⟨rfl, ⟨by rw [flatPE_length], .inr ⟨g, cap, _, by rw [srtP_len], hBg, hheap, by rw [srtP_len]; exact hnc, hcm, by rw [← hcs]; simp [putCells], ?_⟩⟩, ?_⟩
    · rw [srtP_len, ← hsl]
      exact take_putE _ _ (by rw [hsl, hcs]; exact Nat.mul_le_mul_right 9 hnc)
    · refine ⟨rfl, rfl, rfl, by simp, fun k hk hne => ?_⟩
      rw [heap_grow_old _ _ (by simpa using hk)]
      have : g ≠ k := fun e => hne (by rw [e]; rfl)
      simp [putRow, mapBlock, Sort.ahead, Array.getElem?_modify, this]

end Go.Proofs.YtjiljodchebniaaGreat

namespace Go.Proofs.YtjiljodchebniaaGreat
open Go.RowKit

/-- How many lines are left. -/
def linesLeft (p : Value) (w : World) : Nat := match p with
  | .pointer (some a) => match w.cell? a with
    | some (.int _ x) => (41 - x).toNat
    | _ => 0
  | _ => 0
theorem linesLeft_eq {w : World} {lb : Nat} {x : Int} (h : w.cell? ⟨lb, 0, none⟩ = some (.int .i64 x)) : linesLeft (.pointer (some ⟨lb, 0, none⟩)) w = (41 - x).toNat := by simp [linesLeft, h]
theorem BS.line {w W : World} {cb lb ob g : Nat} {G : Gr} {l : Int} {v : Value} {es : List Ed} (h : BS w W cb lb ob g G l v es) (y : Int) (hlb : w.heap.size ≤ lb) : BS w (W.setCell ⟨lb, 0, none⟩ (.int .i64 y)) cb lb ob g G y v es := by
  have hgw := h.hg
  refine ⟨h.cbx.other (p := ⟨lb, 0, none⟩) (bk_two h.cbx h.lbx (by decide)) _, ?_, h.obx.other (p := ⟨lb, 0, none⟩) (bk_two h.obx h.lbx (by decide)) _, own_other h.row (fun e => bk_not h.row h.lbx (by decide) e.symm) _, h.gb.other (p := ⟨lb, 0, none⟩) (by dsimp only; omega) _, h.bel.setCell (p := ⟨lb, 0, none⟩) hlb _, hgw, h.hob⟩
  have := h.lbx.store 0 (.int .i64 y)
  simpa using this
theorem BS.fresh {w W : World} {cb lb ob g : Nat} {G : Gr} {l : Int} {v : Value} {es : List Ed} (h : BS w W cb lb ob g G l v es) (y : Int) : BS w (W.alloc (.cells #[.int .i64 y] 2)) cb W.heap.size ob g G y v es :=
  ⟨h.cbx.alloc _, Bk.new W _ _, h.obx.alloc _, World.ownsRow.alloc h.row _, h.gb.alloc _, h.bel.alloc h.bel.size _, h.hg, h.hob⟩

set_option maxHeartbeats 1600000 in
set_option maxRecDepth 100000 in
/-- boundary. -/
theorem boundary_any (g : Nat) (G : Gr) (w : World) (hG : GB w g 89 G) :
    Calls Tryz.prog 27 #[.pointer (some ⟨g, 0, none⟩)] w fun e w' => ∃ v, e = .returned v ∧ EL w' w.heap.size v (srtE (bndTo G 81)) ∧ Below w.heap.size w w' := by
  have hg := hG.lt
  have S0 : BS w ((((w.alloc (.cells #[.pointer (some ⟨g, 0, none⟩)] 60)).alloc (.cells #[] 48)).alloc (.cells #[.slice (some ⟨w.heap.size + 1, 0, none⟩) 0 0] 41)).alloc (.cells #[.int .i64 (-40)] 2)) w.heap.size (w.heap.size + 1 + 1 + 1) (w.heap.size + 1 + 1) g G (-40) (.slice (some ⟨w.heap.size + 1, 0, none⟩) 0 0) [] := by
    have s1 : (w.alloc (.cells #[.pointer (some ⟨g, 0, none⟩)] 60)).heap.size = w.heap.size + 1 := by simp
    have s2 : ((w.alloc (.cells #[.pointer (some ⟨g, 0, none⟩)] 60)).alloc (.cells #[] 48)).heap.size = w.heap.size + 1 + 1 := by simp
    have s3 : (((w.alloc (.cells #[.pointer (some ⟨g, 0, none⟩)] 60)).alloc (.cells #[] 48)).alloc (.cells #[.slice (some ⟨w.heap.size + 1, 0, none⟩) 0 0] 41)).heap.size = w.heap.size + 1 + 1 + 1 := by simp
    have r1 : EL ((w.alloc (.cells #[.pointer (some ⟨g, 0, none⟩)] 60)).alloc (.cells #[] 48)) w.heap.size (.slice (some ⟨w.heap.size + 1, 0, none⟩) 0 0) [] := by
      have := World.ownsRow_lit (e := 48) (size := 4) (base := w.heap.size) (w.alloc (.cells #[.pointer (some ⟨g, 0, none⟩)] 60)) #[] 0 (by simp) (by simp [maxLen]) (by simp)
      rw [s1] at this
      exact this
    refine ⟨(((Bk.new w _ _).alloc _).alloc _).alloc _, ?_, ?_, World.ownsRow.alloc (World.ownsRow.alloc r1 _) _, (((hG.alloc _).alloc _).alloc _).alloc _, ((((Below.refl _ _).alloc (Nat.le_refl _) _).alloc (by simp) _).alloc (by simp; omega) _).alloc (by simp; omega) _, hg, by omega⟩
    · rw [← s3]; exact Bk.new _ _ _
    · have := (Bk.new ((w.alloc (.cells #[.pointer (some ⟨g, 0, none⟩)] 60)).alloc (.cells #[] 48)) 41 #[.slice (some ⟨w.heap.size + 1, 0, none⟩) 0 0]).alloc (.cells #[.int .i64 (-40)] 2)
      rw [s2] at this
      exact this
  clear hG
  go_enter Tryz.func27, Tryz.ntmps27
  go_wp2
  go_loopw [4] (fun pv wr => ∃ (n lb : Nat) (v : Value), n ≤ 81 ∧ pv = .pointer (some ⟨lb, 0, none⟩) ∧ w.heap.size ≤ lb ∧ BS w wr w.heap.size lb (w.heap.size + 1 + 1) g G ((n : Int) - 40) v (bndTo G n)) (fun pv wr => linesLeft pv wr)
  case atStart => exact ⟨0, _, _, by omega, rfl, by omega, S0⟩
  case round =>
    obtain ⟨n, lb, v, hn, rfl, hlb, S⟩ := hrel
    clear S0
    have hlen := bndTo_len G n
    have d0 : wr.cell? ⟨lb, 0, none⟩ = some (.int .i64 ((n : Int) - 40)) := S.lbx.cell 0
    by_cases hn8 : n < 81
    · have h1 : (n : Int) - 40 ≤ 40 := by omega
      have en := Go.IntWalk.i64_in ((n : Int) - 40 + 1) (by omega)
      have hl2 : (lineL G false ((n : Int) - 40)).length ≤ 80 := lineE_len G false _ 80 (-40)
      go_wp2_with fail
      refine (runsH_any w _ w.heap.size lb (w.heap.size + 1 + 1) g G ((n : Int) - 40) v (bndTo G n) S (by omega) (by omega)).mono ?_
      rintro e w1 ⟨rfl, v1, S1⟩
      have hm0 := linesLeft_eq (x := (n : Int) - 40) d0
      clear S d0
      go_wp2_with fail
      refine (runsV_any w _ w.heap.size lb (w.heap.size + 1 + 1) g G ((n : Int) - 40) v1 _ S1 (by omega) (by rw [List.length_append]; omega)).mono ?_
      rintro e w2 ⟨rfl, v2, S2⟩
      have d2 : w2.cell? ⟨lb, 0, none⟩ = some (.int .i64 ((n : Int) - 40)) := S2.lbx.cell 0
      have S3 := S2.fresh ((n : Int) - 40 + 1)
      have hsz := S2.bel.size
      rw [← bndTo_succ] at S3
      rw [show (n : Int) - 40 + 1 = ((n + 1 : Nat) : Int) - 40 by omega] at en S3
      have hm := linesLeft_eq (x := ((n + 1 : Nat) : Int) - 40) (S3.lbx.cell 0)
      clear S1 S2
      have en2 : (n : Int) - 40 + 1 = ((n + 1 : Nat) : Int) - 40 := by omega
      go_wp2
      refine ⟨⟨n + 1, w2.heap.size, v2, by omega, rfl, hsz, ?_⟩, ?_⟩
      · rw [show (n : Int) + 1 - 40 = ((n + 1 : Nat) : Int) - 40 by omega]
        exact S3
      · rw [show (n : Int) + 1 - 40 = ((n + 1 : Nat) : Int) - 40 by omega, hm, hm0]
        omega
    · obtain rfl : n = 81 := by omega
      obtain ⟨A, c, rfl, -, -, -⟩ := S.row.form
      have d1 : wr.cell? ⟨w.heap.size + 1 + 1, 0, none⟩ = some (.slice A (bndTo G 81).length c) := S.obx.cell 0
      have h1 : ¬ (((81 : Nat) : Int) - 40 ≤ 40) := by omega
      have HS := Lib.hid S
      have Hlen := Lib.hid hlen
      clear S hlen
      go_wp2_with fail
      refine (sortE_any _ _ _ w.heap.size HS.out.row (by have := Hlen.out; omega)).mono ?_
      rintro e w2 ⟨rfl, hR, hgr⟩
      have d3 : w2.cell? ⟨w.heap.size + 1 + 1, 0, none⟩ = some (.slice A (bndTo G 81).length c) := (HS.out.obx.grown hgr (bk_not HS.out.row HS.out.obx (by decide))).cell 0
      have hb := HS.out.bel.grown hgr HS.out.bel.size (fun q hq => (World.ownsRow.lt HS.out.row q hq).1)
      go_wp2
      go_ret
      exact ⟨_, rfl, hR, hb⟩

end Go.Proofs.YtjiljodchebniaaGreat
