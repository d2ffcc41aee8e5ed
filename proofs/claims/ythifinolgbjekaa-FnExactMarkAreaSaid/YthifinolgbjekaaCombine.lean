/- Contracts: the program's combine over an operation on two flags, told by a contract of the literal; Difference. No conditions. -/
import Derived.Test.YthifinolgbjekaaNearMath
import Derived.Test.YthifinolgbjekaaOk
import Derived.Test.YthifinolgbjekaaHead
import Derived.Deep.RegionHeld3
namespace Go.Proofs.Ythifinolgbjekaa
open Go.RowKit

/-- Two sets, cell by cell. -/
def interG (G H : Gr) : Gr := fun i => G i && H i
def unionG (G H : Gr) : Gr := fun i => G i || H i
/-- The first n cells are done. -/
def partG (F : Gr) (n : Nat) : Gr := fun i => decide (i < n) && F i
theorem partG_zero (F : Gr) : partG F 0 = emptyG := by funext i; simp [partG, emptyG]
theorem partG_step (F : Gr) (n : Nat) : updG (partG F n) n (F n) = partG F (n + 1) := by
  funext i
  unfold updG partG
  by_cases h : i = n
  · subst h; simp
  · rw [if_neg h]
    have : decide (i < n + 1) = decide (i < n) := by rw [decide_eq_decide]; omega
    rw [this]
theorem partG_all (F : Gr) : sameG (partG F 6400) F := fun i hi => by simp [partG, hi]

/-- The literal of Difference. -/
theorem diff_lit (a b : Bool) (w : World) : Calls Try.prog 100 #[.bool a, .bool b] w fun e w' => e = .returned (.bool ((fun a b => a && !b) a b)) ∧ w = w' := by
  cases a <;> cases b
  all_goals
    go_enter Try.func100, Try.ntmps100
    go_wp2
    go_ret
    exact ⟨rfl, rfl⟩

set_option maxHeartbeats 1600000 in
set_option maxRecDepth 100000 in
/-- combine, Difference. -/
theorem combine_diff (v u : Value) (rs qs : List Rc) (w : World) (hv : RL w 0 v rs) (hu : RL w 0 u qs) (h1 : isReg rs = true) (h2 : isReg qs = true) :
    Calls Try.prog 99 #[v, u, .func (.func 100) #[] #[]] w fun e w' => ∃ z, e = .returned z ∧ RL w' w.heap.size z (canon (diffG (cellsG rs) (cellsG qs))) ∧ Below w.heap.size w w' := by
  go_enter Try.func99, Try.ntmps99
  go_wp2_with fail
  refine (isRegion_any v rs _ hv).mono ?_
  rintro e w1 ⟨rfl, hb1⟩
  rw [h1]
  go_wp2_with fail
  refine (isRegion_any u qs _ (hu.on hb1)).mono ?_
  rintro e w2 ⟨rfl, hb2⟩
  rw [h2]
  go_wp2_with fail
  refine (cellsOf_any v rs _ ((hv.on hb1).on hb2)).mono ?_
  rintro e w3 ⟨gx, rfl, hx, hX, hb3⟩
  go_wp2_with fail
  refine (cellsOf_any u qs _ (((hu.on hb1).on hb2).on hb3)).mono ?_
  rintro e w4 ⟨gy, rfl, hy, hY, hb4⟩
  have t2 := hb1.trans (hb2.mono hb1.size)
  have t3 := t2.trans (hb3.mono t2.size)
  have t4 := t3.trans (hb4.mono t3.size)
  have hX4 := (hX.on hb4).alloc (.cells Try.zeroCells62 62)
  have hY4 := hY.alloc (.cells Try.zeroCells62 62)
  have g0 := GB.zero w4 62
  have t5 := t4.alloc t4.size (.cells Try.zeroCells62 62)
  have hxl := (hX.on hb4).lt
  have hyl := hY.lt
  go_wp2
  go_loopw [26] (fun iv wr => ∃ a : Nat, a ≤ 80 ∧ iv = .int .i64 a ∧ GB wr w4.heap.size 62 (partG (diffG (cellsG rs) (cellsG qs)) (a * 80)) ∧ GB wr gx 62 (cellsG rs) ∧ GB wr gy 62 (cellsG qs) ∧ Below w.heap.size w wr) (fun iv _ => 80 - (intOf iv).toNat)
  case atStart => exact ⟨0, by omega, rfl, by rw [Nat.zero_mul, partG_zero]; exact g0, hX4, hY4, t5⟩
  case round =>
    obtain ⟨a, ha, rfl, hG, hX5, hY5, hb⟩ := hrel
    clear g0 hX4 hY4 t5 hX hY
    by_cases hlt : a < 80
    · have hd : decide ((a : Int) < 80) = true := decide_eq_true (by omega)
      go_wp2
      try rw [hd]
      go_loopw [29] (fun kv wi => ∃ b : Nat, b ≤ 80 ∧ kv = .int .i64 b ∧ GB wi w4.heap.size 62 (partG (diffG (cellsG rs) (cellsG qs)) (a * 80 + b)) ∧ GB wi gx 62 (cellsG rs) ∧ GB wi gy 62 (cellsG qs) ∧ Below w.heap.size w wi) (fun kv _ => 80 - (intOf kv).toNat)
      case atStart => exact ⟨0, by omega, rfl, hG, hX5, hY5, hb⟩
      case round =>
        obtain ⟨b, hb8, rfl, hG6, hX6, hY6, hb6⟩ := hrel
        clear hG hX5 hY5 hb
        by_cases hltb : b < 80
        · have ha0 : (0 : Int) ≤ (a : Int) ∧ (a : Int) < 80 ∧ (0 : Int) ≤ (b : Int) ∧ (b : Int) < 80 := by omega
          have cx := hX6.cell (i := a * 80 + b) (by omega)
          have cy := hY6.cell (i := a * 80 + b) (by omega)
          have hz := hG6.frozen (a * 80 + b)
          have co := hG6.cell (i := a * 80 + b) (by omega)
          have hst := (hG6.store (j := a * 80 + b) (by omega) (diffG (cellsG rs) (cellsG qs) (a * 80 + b)))
          rw [partG_step] at hst
          have sx := fun u => (hX6.other (p := ⟨w4.heap.size, a * 80 + b, none⟩) (show gx ≠ w4.heap.size by omega) u).cell (i := a * 80 + b) (by omega)
          have sy := fun u => (hY6.other (p := ⟨w4.heap.size, a * 80 + b, none⟩) (show gy ≠ w4.heap.size by omega) u).cell (i := a * 80 + b) (by omega)
          go_wp2
          go_region_held3 (fun w' => w'.cell? ⟨gx, a * 80 + b, none⟩ = some (.bool (cellsG rs (a * 80 + b))) ∧ w'.cell? ⟨gy, a * 80 + b, none⟩ = some (.bool (cellsG qs (a * 80 + b)))) (first | exact ⟨cx, cy⟩ | exact ⟨sx _, sy _⟩)
            (first | (go_at_call 100; refine (diff_lit _ _ _).mono ?_; rintro e w7 ⟨rfl, rfl⟩))
          all_goals
            go_wp2
            refine ⟨⟨b + 1, by omega, by go_num, ?_, hX6.other (p := ⟨w4.heap.size, _, none⟩) (show gx ≠ w4.heap.size by omega) _, hY6.other (p := ⟨w4.heap.size, _, none⟩) (show gy ≠ w4.heap.size by omega) _, (hb6.setCell (p := ⟨w4.heap.size, _, none⟩) t4.size _).drew⟩, by simp [intOf]; omega⟩
            exact hst
        · go_wp2
          have hbe : b = 80 := by omega
          refine ⟨⟨a + 1, by omega, by go_num, ?_, hX6, hY6, hb6⟩, by simp [intOf]; omega⟩
          rw [hbe] at hG6
          rw [Nat.succ_mul]
          exact hG6
    · have hae : a = 80 := by omega
      rw [hae] at hG
      go_wp2_with fail
      refine (region_any _ _ _ hG).mono ?_
      rintro e w9 ⟨z, rfl, hR, hb9⟩
      go_wp2
      go_ret
      refine ⟨_, rfl, ?_, hb.trans (hb9.mono hb.size)⟩
      rw [canon_congr (partG_all _)] at hR
      exact hR.less hb.size


set_option maxHeartbeats 400000 in
/-- Difference of two regions. -/
theorem diff_any (v u : Value) (rs qs : List Rc) (w : World) (hv : RL w 0 v rs) (hu : RL w 0 u qs) (h1 : isReg rs = true) (h2 : isReg qs = true) :
    Calls Try.prog 59 #[v, u] w fun e w' => ∃ z, e = .returned z ∧ RL w' w.heap.size z (canon (diffG (cellsG rs) (cellsG qs))) ∧ Below w.heap.size w w' := by
  go_enter Try.func59, Try.ntmps59
  go_wp2_with fail
  refine (combine_diff v u rs qs _ hv hu h1 h2).mono ?_
  rintro e w1 ⟨z, rfl, hR, hb1⟩
  go_wp2
  go_ret
  exact ⟨_, rfl, hR, hb1⟩

/-- The literal of Intersection. -/
theorem inter_lit (a b : Bool) (w : World) : Calls Try.prog 109 #[.bool a, .bool b] w fun e w' => e = .returned (.bool ((fun a b => a && b) a b)) ∧ w = w' := by
  cases a <;> cases b
  all_goals
    go_enter Try.func109, Try.ntmps109
    go_wp2
    go_ret
    exact ⟨rfl, rfl⟩

set_option maxHeartbeats 1600000 in
set_option maxRecDepth 100000 in
/-- combine, Intersection. -/
theorem combine_inter (v u : Value) (rs qs : List Rc) (w : World) (hv : RL w 0 v rs) (hu : RL w 0 u qs) (h1 : isReg rs = true) (h2 : isReg qs = true) :
    Calls Try.prog 99 #[v, u, .func (.func 109) #[] #[]] w fun e w' => ∃ z, e = .returned z ∧ RL w' w.heap.size z (canon (interG (cellsG rs) (cellsG qs))) ∧ Below w.heap.size w w' := by
  go_enter Try.func99, Try.ntmps99
  go_wp2_with fail
  refine (isRegion_any v rs _ hv).mono ?_
  rintro e w1 ⟨rfl, hb1⟩
  rw [h1]
  go_wp2_with fail
  refine (isRegion_any u qs _ (hu.on hb1)).mono ?_
  rintro e w2 ⟨rfl, hb2⟩
  rw [h2]
  go_wp2_with fail
  refine (cellsOf_any v rs _ ((hv.on hb1).on hb2)).mono ?_
  rintro e w3 ⟨gx, rfl, hx, hX, hb3⟩
  go_wp2_with fail
  refine (cellsOf_any u qs _ (((hu.on hb1).on hb2).on hb3)).mono ?_
  rintro e w4 ⟨gy, rfl, hy, hY, hb4⟩
  have t2 := hb1.trans (hb2.mono hb1.size)
  have t3 := t2.trans (hb3.mono t2.size)
  have t4 := t3.trans (hb4.mono t3.size)
  have hX4 := (hX.on hb4).alloc (.cells Try.zeroCells62 62)
  have hY4 := hY.alloc (.cells Try.zeroCells62 62)
  have g0 := GB.zero w4 62
  have t5 := t4.alloc t4.size (.cells Try.zeroCells62 62)
  have hxl := (hX.on hb4).lt
  have hyl := hY.lt
  go_wp2
  go_loopw [26] (fun iv wr => ∃ a : Nat, a ≤ 80 ∧ iv = .int .i64 a ∧ GB wr w4.heap.size 62 (partG (interG (cellsG rs) (cellsG qs)) (a * 80)) ∧ GB wr gx 62 (cellsG rs) ∧ GB wr gy 62 (cellsG qs) ∧ Below w.heap.size w wr) (fun iv _ => 80 - (intOf iv).toNat)
  case atStart => exact ⟨0, by omega, rfl, by rw [Nat.zero_mul, partG_zero]; exact g0, hX4, hY4, t5⟩
  case round =>
    obtain ⟨a, ha, rfl, hG, hX5, hY5, hb⟩ := hrel
    clear g0 hX4 hY4 t5 hX hY
    by_cases hlt : a < 80
    · have hd : decide ((a : Int) < 80) = true := decide_eq_true (by omega)
      go_wp2
      try rw [hd]
      go_loopw [29] (fun kv wi => ∃ b : Nat, b ≤ 80 ∧ kv = .int .i64 b ∧ GB wi w4.heap.size 62 (partG (interG (cellsG rs) (cellsG qs)) (a * 80 + b)) ∧ GB wi gx 62 (cellsG rs) ∧ GB wi gy 62 (cellsG qs) ∧ Below w.heap.size w wi) (fun kv _ => 80 - (intOf kv).toNat)
      case atStart => exact ⟨0, by omega, rfl, hG, hX5, hY5, hb⟩
      case round =>
        obtain ⟨b, hb8, rfl, hG6, hX6, hY6, hb6⟩ := hrel
        clear hG hX5 hY5 hb
        by_cases hltb : b < 80
        · have ha0 : (0 : Int) ≤ (a : Int) ∧ (a : Int) < 80 ∧ (0 : Int) ≤ (b : Int) ∧ (b : Int) < 80 := by omega
          have cx := hX6.cell (i := a * 80 + b) (by omega)
          have cy := hY6.cell (i := a * 80 + b) (by omega)
          have hz := hG6.frozen (a * 80 + b)
          have co := hG6.cell (i := a * 80 + b) (by omega)
          have hst := (hG6.store (j := a * 80 + b) (by omega) (interG (cellsG rs) (cellsG qs) (a * 80 + b)))
          rw [partG_step] at hst
          have sx := fun u => (hX6.other (p := ⟨w4.heap.size, a * 80 + b, none⟩) (show gx ≠ w4.heap.size by omega) u).cell (i := a * 80 + b) (by omega)
          have sy := fun u => (hY6.other (p := ⟨w4.heap.size, a * 80 + b, none⟩) (show gy ≠ w4.heap.size by omega) u).cell (i := a * 80 + b) (by omega)
          go_wp2
          go_region_held3 (fun w' => w'.cell? ⟨gx, a * 80 + b, none⟩ = some (.bool (cellsG rs (a * 80 + b))) ∧ w'.cell? ⟨gy, a * 80 + b, none⟩ = some (.bool (cellsG qs (a * 80 + b)))) (first | exact ⟨cx, cy⟩ | exact ⟨sx _, sy _⟩)
            (first | (go_at_call 109; refine (inter_lit _ _ _).mono ?_; rintro e w7 ⟨rfl, rfl⟩))
          all_goals
            go_wp2
            refine ⟨⟨b + 1, by omega, by go_num, ?_, hX6.other (p := ⟨w4.heap.size, _, none⟩) (show gx ≠ w4.heap.size by omega) _, hY6.other (p := ⟨w4.heap.size, _, none⟩) (show gy ≠ w4.heap.size by omega) _, (hb6.setCell (p := ⟨w4.heap.size, _, none⟩) t4.size _).drew⟩, by simp [intOf]; omega⟩
            exact hst
        · go_wp2
          have hbe : b = 80 := by omega
          refine ⟨⟨a + 1, by omega, by go_num, ?_, hX6, hY6, hb6⟩, by simp [intOf]; omega⟩
          rw [hbe] at hG6
          rw [Nat.succ_mul]
          exact hG6
    · have hae : a = 80 := by omega
      rw [hae] at hG
      go_wp2_with fail
      refine (region_any _ _ _ hG).mono ?_
      rintro e w9 ⟨z, rfl, hR, hb9⟩
      go_wp2
      go_ret
      refine ⟨_, rfl, ?_, hb.trans (hb9.mono hb.size)⟩
      rw [canon_congr (partG_all _)] at hR
      exact hR.less hb.size


set_option maxHeartbeats 400000 in
/-- Intersection of two regions. -/
theorem inter_any (v u : Value) (rs qs : List Rc) (w : World) (hv : RL w 0 v rs) (hu : RL w 0 u qs) (h1 : isReg rs = true) (h2 : isReg qs = true) :
    Calls Try.prog 81 #[v, u] w fun e w' => ∃ z, e = .returned z ∧ RL w' w.heap.size z (canon (interG (cellsG rs) (cellsG qs))) ∧ Below w.heap.size w w' := by
  go_enter Try.func81, Try.ntmps81
  go_wp2_with fail
  refine (combine_inter v u rs qs _ hv hu h1 h2).mono ?_
  rintro e w1 ⟨z, rfl, hR, hb1⟩
  go_wp2
  go_ret
  exact ⟨_, rfl, hR, hb1⟩





end Go.Proofs.Ythifinolgbjekaa
