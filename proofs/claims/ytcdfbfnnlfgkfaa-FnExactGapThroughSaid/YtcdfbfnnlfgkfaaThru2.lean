/- Contracts: GapThrough of the reference and of the program. No conditions. -/
import Derived.Test.YtcdfbfnnlfgkfaaThru1
import Derived.Test.YtcdfbfnnlfgkfaaNot
namespace Go.Proofs.Ytcdfbfnnlfgkfaa
open Go.RowKit

/-- The gap through a cell. -/
def gtV (rs : List Rc) (x y : Int) (vert : Bool) : Option Rc := if isReg rs = true ∧ hasG (notG (cellsG rs)) x y = true then some (runR (notG (cellsG rs)) x y vert) else none
theorem gtV_yes {rs : List Rc} {x y : Int} {vert : Bool} (h : isReg rs = true) (hc : hasG (notG (cellsG rs)) x y = true) : gtV rs x y vert = some (runR (notG (cellsG rs)) x y vert) := if_pos ⟨h, hc⟩
theorem gtV_no1 {rs : List Rc} {x y : Int} {vert : Bool} (h : isReg rs = false) : gtV rs x y vert = none := if_neg (by rw [h]; simp)
theorem gtV_no2 {rs : List Rc} {x y : Int} {vert : Bool} (h : hasG (notG (cellsG rs)) x y = false) : gtV rs x y vert = none := if_neg (by rw [h]; simp)

set_option maxHeartbeats 1600000 in
set_option maxRecDepth 100000 in
theorem gt_spec (v : Value) (rs : List Rc) (x y : Int) (vert : Bool) (w : World) (hv : RL w 0 v rs) : Calls Try.prog 31 #[v, .agg #[.int .i64 x, .int .i64 y], .bool vert] w fun e w' => e = .returned (.tuple #[.agg #[.int .i64 (witX (gtV rs x y vert)).x0, .int .i64 (witX (gtV rs x y vert)).y0, .int .i64 (witX (gtV rs x y vert)).x1, .int .i64 (witX (gtV rs x y vert)).y1], .bool (witB (gtV rs x y vert))]) ∧ Below w.heap.size w w' := by
  have zp := (Bk.new w 40 #[.int .i64 x, .int .i64 y]).alloc (.cells #[.int .i64 0, .int .i64 0, .int .i64 0, .int .i64 0] 33)
  have zr := Bk.new (w.alloc (.cells #[.int .i64 x, .int .i64 y] 40)) 33 #[.int .i64 0, .int .i64 0, .int .i64 0, .int .i64 0]
  have ez : (w.alloc (.cells #[.int .i64 x, .int .i64 y] 40)).heap.size = w.heap.size + 1 := by simp
  rw [ez] at zr
  clear ez
  have tw := ((Below.refl w.heap.size w).alloc (Nat.le_refl _) (.cells #[.int .i64 x, .int .i64 y] 40)).alloc (by simp) (.cells #[.int .i64 0, .int .i64 0, .int .i64 0, .int .i64 0] 33)
  have hvA := (hv.alloc (.cells #[.int .i64 x, .int .i64 y] 40)).alloc (.cells #[.int .i64 0, .int .i64 0, .int .i64 0, .int .i64 0] 33)
  clear hv
  replace zp := zp.drew
  replace zr := zr.drew
  replace tw := tw.drew
  replace hvA := hvA.on ((Below.refl _ _).drew)
  by_cases h : isReg rs = true
  · have hok := okAll_reg h
    by_cases hc : hasG (notG (cellsG rs)) x y = true
    · rw [gtV_yes h hc]
      have hin := hasG_in hc
      go_enter Try.func31, Try.ntmps31
      go_wp2
      go_region_held3 (fun w' => w'.cell? ⟨w.heap.size, 0, none⟩ = some (.int .i64 x) ∧ w'.cell? ⟨w.heap.size, 1, none⟩ = some (.int .i64 y)) (exact box2 zp)
        (first | (go_at_call 48; refine (l03Ok_any v rs _ hvA).mono ?_; rintro e w1 ⟨rfl, hb1⟩; have hvA := hvA.on hb1; have zp := zp.on hb1; have zr := zr.on hb1; have tw := tw.trans (hb1.mono tw.size))
               | (go_at_call 51; refine (l03Bits_any v rs _ hvA hok).mono ?_; rintro e w2 ⟨u2, rfl, hG2, hb2⟩; have hvA := hvA.on hb2; have zp := zp.on hb2; have zr := zr.on hb2; have tw := tw.trans (hb2.mono tw.size))
               | (go_at_call 61; refine (l18Outside_any _ _ _ (GS.less hG2 (Nat.zero_le _))).mono ?_; rintro e w3 ⟨u3, rfl, hG2, hb3⟩; have hvA := hvA.on hb3; have zp := zp.on hb3; have zr := zr.on hb3; have tw := tw.trans (hb3.mono tw.size))
               | (go_at_call 55; refine (l17Cell_any _ _ _ _ _ (GS.less hG2 (Nat.zero_le _))).mono ?_; rintro e w4 ⟨rfl, rfl⟩))
      go_wp2
      replace zp := zp.drew
      replace zr := zr.drew
      replace tw := tw.drew
      replace hvA := hvA.on ((Below.refl _ _).drew)
      go_region_held3 (fun w' => w'.cell? ⟨w.heap.size, 0, none⟩ = some (.int .i64 x) ∧ w'.cell? ⟨w.heap.size, 1, none⟩ = some (.int .i64 y)) (first | exact box2 zp | exact box2 (((((zp.other (p := ⟨w.heap.size + 1, 0, none⟩) (Nat.ne_of_lt (Nat.lt_succ_self _)) _).other (p := ⟨w.heap.size + 1, 1, none⟩) (Nat.ne_of_lt (Nat.lt_succ_self _)) _).other (p := ⟨w.heap.size + 1, 2, none⟩) (Nat.ne_of_lt (Nat.lt_succ_self _)) _).other (p := ⟨w.heap.size + 1, 3, none⟩) (Nat.ne_of_lt (Nat.lt_succ_self _)) _)))
        (first | (go_at_call 51; refine (l03Bits_any v rs _ hvA hok).mono ?_; rintro e w5 ⟨u5, rfl, hG5, hb5⟩; have zp := zp.on hb5; have zr := zr.on hb5; have tw := tw.trans (hb5.mono tw.size))
               | (go_at_call 61; refine (l18Outside_any _ _ _ (GS.less hG5 (Nat.zero_le _))).mono ?_; rintro e w6 ⟨u6, rfl, hG5, hb6⟩; have zp := zp.on hb6; have zr := zr.on hb6; have tw := tw.trans (hb6.mono tw.size))
               | (go_at_call 56; refine (l17Run_ag _ _ _ _ _ _ (GS.less hG5 (Nat.zero_le _)) ⟨hin.1, hin.2.1⟩ ⟨hin.2.2.1, hin.2.2.2⟩).mono ?_; rintro e w7 ⟨rfl, hb7⟩; have zp := zp.on hb7; have zr := zr.on hb7; have tw := tw.trans (hb7.mono tw.size); obtain ⟨e0, e1, e2, e3⟩ := box4 zr; have q0 := zr.frozen 0; have q1 := zr.frozen 1; have q2 := zr.frozen 2; have q3 := zr.frozen 3))
      go_wp2
      obtain ⟨s0, s1, s2, s3⟩ := set4of zr (.int .i64 (runR (notG (cellsG rs)) x y vert).x0) (.int .i64 (runR (notG (cellsG rs)) x y vert).y0) (.int .i64 (runR (notG (cellsG rs)) x y vert).x1) (.int .i64 (runR (notG (cellsG rs)) x y vert).y1)
      refine bodyPost_ret (v := .tuple #[.agg #[.int .i64 (runR (notG (cellsG rs)) x y vert).x0, .int .i64 (runR (notG (cellsG rs)) x y vert).y0, .int .i64 (runR (notG (cellsG rs)) x y vert).x1, .int .i64 (runR (notG (cellsG rs)) x y vert).y1], .bool true]) (by simp [results, Try.results31, go_sem, s0, s1, s2, s3]) rfl ⟨rfl, below4 tw (Nat.le_succ _) _ _ _ _⟩
    · have hc' : hasG (notG (cellsG rs)) x y = false := by simpa using hc
      clear hc
      rw [gtV_no2 hc']
      go_enter Try.func31, Try.ntmps31
      go_wp2
      go_region_held3 (fun w' => w'.cell? ⟨w.heap.size, 0, none⟩ = some (.int .i64 x) ∧ w'.cell? ⟨w.heap.size, 1, none⟩ = some (.int .i64 y)) (exact box2 zp)
        (first | (go_at_call 48; refine (l03Ok_any v rs _ hvA).mono ?_; rintro e w1 ⟨rfl, hb1⟩; have hvA := hvA.on hb1; have zp := zp.on hb1; have zr := zr.on hb1; have tw := tw.trans (hb1.mono tw.size))
               | (go_at_call 51; refine (l03Bits_any v rs _ hvA hok).mono ?_; rintro e w2 ⟨u2, rfl, hG2, hb2⟩; have hvA := hvA.on hb2; have zp := zp.on hb2; have zr := zr.on hb2; have tw := tw.trans (hb2.mono tw.size))
               | (go_at_call 61; refine (l18Outside_any _ _ _ (GS.less hG2 (Nat.zero_le _))).mono ?_; rintro e w3 ⟨u3, rfl, hG2, hb3⟩; have hvA := hvA.on hb3; have zp := zp.on hb3; have zr := zr.on hb3; have tw := tw.trans (hb3.mono tw.size))
               | (go_at_call 55; refine (l17Cell_any _ _ _ _ _ (GS.less hG2 (Nat.zero_le _))).mono ?_; rintro e w4 ⟨rfl, rfl⟩))
      obtain ⟨e0, e1, e2, e3⟩ := box4 zr
      have q0 := zr.frozen 0
      have q1 := zr.frozen 1
      have q2 := zr.frozen 2
      have q3 := zr.frozen 3
      go_wp2
      obtain ⟨s0, s1, s2, s3⟩ := set4of zr (.int .i64 0) (.int .i64 0) (.int .i64 0) (.int .i64 0)
      refine bodyPost_ret (v := .tuple #[.agg #[.int .i64 0, .int .i64 0, .int .i64 0, .int .i64 0], .bool false]) (by simp [results, Try.results31, go_sem, s0, s1, s2, s3]) rfl ⟨rfl, below4 tw (Nat.le_succ _) _ _ _ _⟩
  · have h' : isReg rs = false := by simpa using h
    clear h
    rw [gtV_no1 h']
    go_enter Try.func31, Try.ntmps31
    go_wp2
    refine wp_region_held_drew (S := fun _ => True) (by kernel_rfl) trivial (fun _ => ?_)
    refine wpAnyH_take (i := 0) (oi := ⟨_, _, _, _, _, _⟩) (v := v) rfl (by kernel_rfl) (by kernel_rfl) (by kernel_rfl) (fun _ _ _ h => h) (Or.inl ⟨by rfl, fun _ _ => by go_simp⟩) trivial ?_
    try simp only [Act.put, List.setIfInBounds_toArray, List.set_cons_succ, List.set_cons_zero]
    refine wpAnyH_ready (rs := [1]) (by kernel_rfl) (by simp) (AllReadyH.cons (o := ⟨_, _, _, _, _, _⟩) rfl (fun K hK => ?_) AllReadyH.nil)
    go_simp
    refine (l03Ok_any v rs _ hvA).mono ?_
    rintro e w1 ⟨rfl, hb1⟩
    rw [h']
    replace zr := zr.on hb1
    replace tw := tw.trans (hb1.mono tw.size)
    clear zp hvA
    go_wp2_with fail
    refine hK.out _ _ trivial (fun _ => ?_)
    clear hK K
    try simp only [Act.put, List.setIfInBounds_toArray, List.set_cons_succ, List.set_cons_zero]
    refine wpAnyH_take (i := 2) (oi := ⟨_, _, _, _, _, _⟩) (v := .bool true) rfl (by kernel_rfl) (by kernel_rfl) (by kernel_rfl) (fun _ _ _ h => h) (Or.inl ⟨by rfl, fun _ _ => by go_simp⟩) trivial ?_
    try simp only [Act.put, List.setIfInBounds_toArray, List.set_cons_succ, List.set_cons_zero]
    refine wpAnyH_take (i := 3) (oi := ⟨_, _, _, _, _, _⟩) (v := .bool true) rfl (by kernel_rfl) (by kernel_rfl) (by kernel_rfl) (fun _ _ _ h => h) (Or.inl ⟨by rfl, fun _ _ => by go_simp⟩) trivial ?_
    try simp only [Act.put, List.setIfInBounds_toArray, List.set_cons_succ, List.set_cons_zero]
    refine wpAnyH_take (i := 4) (oi := ⟨_, _, _, _, _, _⟩) (v := undef) rfl (by kernel_rfl) (by kernel_rfl) (by kernel_rfl) (fun _ _ _ h => h) (Or.inr ⟨by rfl, rfl⟩) trivial ?_
    try simp only [Act.put, List.setIfInBounds_toArray, List.set_cons_succ, List.set_cons_zero]
    refine wpAnyH_take (i := 5) (oi := ⟨_, _, _, _, _, _⟩) (v := undef) rfl (by kernel_rfl) (by kernel_rfl) (by kernel_rfl) (fun _ _ _ h => h) (Or.inr ⟨by rfl, rfl⟩) trivial ?_
    try simp only [Act.put, List.setIfInBounds_toArray, List.set_cons_succ, List.set_cons_zero]
    refine wpAnyH_take (i := 6) (oi := ⟨_, _, _, _, _, _⟩) (v := undef) rfl (by kernel_rfl) (by kernel_rfl) (by kernel_rfl) (fun _ _ _ h => h) (Or.inr ⟨by rfl, rfl⟩) trivial ?_
    try simp only [Act.put, List.setIfInBounds_toArray, List.set_cons_succ, List.set_cons_zero]
    refine wpAnyH_take (i := 7) (oi := ⟨_, _, _, _, _, _⟩) (v := undef) rfl (by kernel_rfl) (by kernel_rfl) (by kernel_rfl) (fun _ _ _ h => h) (Or.inr ⟨by rfl, rfl⟩) trivial ?_
    try simp only [Act.put, List.setIfInBounds_toArray, List.set_cons_succ, List.set_cons_zero]
    refine wpAnyH_take (i := 8) (oi := ⟨_, _, _, _, _, _⟩) (v := undef) rfl (by kernel_rfl) (by kernel_rfl) (by kernel_rfl) (fun _ _ _ h => h) (Or.inr ⟨by rfl, rfl⟩) trivial ?_
    try simp only [Act.put, List.setIfInBounds_toArray, List.set_cons_succ, List.set_cons_zero]
    refine wpAnyH_take (i := 9) (oi := ⟨_, _, _, _, _, _⟩) (v := undef) rfl (by kernel_rfl) (by kernel_rfl) (by kernel_rfl) (fun _ _ _ h => h) (Or.inr ⟨by rfl, rfl⟩) trivial ?_
    try simp only [Act.put, List.setIfInBounds_toArray, List.set_cons_succ, List.set_cons_zero]
    refine wpAnyH_take (i := 10) (oi := ⟨_, _, _, _, _, _⟩) (v := undef) rfl (by kernel_rfl) (by kernel_rfl) (by kernel_rfl) (fun _ _ _ h => h) (Or.inr ⟨by rfl, rfl⟩) trivial ?_
    try simp only [Act.put, List.setIfInBounds_toArray, List.set_cons_succ, List.set_cons_zero]
    refine wpAnyH_take (i := 11) (oi := ⟨_, _, _, _, _, _⟩) (v := undef) rfl (by kernel_rfl) (by kernel_rfl) (by kernel_rfl) (fun _ _ _ h => h) (Or.inr ⟨by rfl, rfl⟩) trivial ?_
    try simp only [Act.put, List.setIfInBounds_toArray, List.set_cons_succ, List.set_cons_zero]
    refine wpAnyH_take (i := 12) (oi := ⟨_, _, _, _, _, _⟩) (v := undef) rfl (by kernel_rfl) (by kernel_rfl) (by kernel_rfl) (fun _ _ _ h => h) (Or.inr ⟨by rfl, rfl⟩) trivial ?_
    try simp only [Act.put, List.setIfInBounds_toArray, List.set_cons_succ, List.set_cons_zero]
    refine wpAnyH_take (i := 13) (oi := ⟨_, _, _, _, _, _⟩) (v := .bool true) rfl (by kernel_rfl) (by kernel_rfl) (by kernel_rfl) (fun _ _ _ h => h) (Or.inl ⟨by rfl, fun _ _ => by go_simp⟩) trivial ?_
    try simp only [Act.put, List.setIfInBounds_toArray, List.set_cons_succ, List.set_cons_zero]
    refine wpAnyH_done (by kernel_rfl) ?_ _
    obtain ⟨e0, e1, e2, e3⟩ := box4 zr
    have q0 := zr.frozen 0
    have q1 := zr.frozen 1
    have q2 := zr.frozen 2
    have q3 := zr.frozen 3
    go_wp2
    obtain ⟨s0, s1, s2, s3⟩ := set4of zr (.int .i64 0) (.int .i64 0) (.int .i64 0) (.int .i64 0)
    refine bodyPost_ret (v := .tuple #[.agg #[.int .i64 0, .int .i64 0, .int .i64 0, .int .i64 0], .bool false]) (by simp [results, Try.results31, go_sem, s0, s1, s2, s3]) rfl ⟨rfl, below4 tw (Nat.le_succ _) _ _ _ _⟩

set_option maxHeartbeats 1600000 in
set_option maxRecDepth 100000 in
theorem gt_impl (v : Value) (rs : List Rc) (x y : Int) (vert : Bool) (w : World) (hv : RL w 0 v rs) : Calls Try.prog 32 #[v, .agg #[.int .i64 x, .int .i64 y], .bool vert] w fun e w' => e = .returned (.tuple #[.agg #[.int .i64 (witX (gtV rs x y vert)).x0, .int .i64 (witX (gtV rs x y vert)).y0, .int .i64 (witX (gtV rs x y vert)).x1, .int .i64 (witX (gtV rs x y vert)).y1], .bool (witB (gtV rs x y vert))]) ∧ Below w.heap.size w w' := by
  have zp := (Bk.new w 40 #[.int .i64 x, .int .i64 y]).alloc (.cells #[.int .i64 0, .int .i64 0, .int .i64 0, .int .i64 0] 33)
  have zr := Bk.new (w.alloc (.cells #[.int .i64 x, .int .i64 y] 40)) 33 #[.int .i64 0, .int .i64 0, .int .i64 0, .int .i64 0]
  have ez : (w.alloc (.cells #[.int .i64 x, .int .i64 y] 40)).heap.size = w.heap.size + 1 := by simp
  rw [ez] at zr
  clear ez
  have tw := ((Below.refl w.heap.size w).alloc (Nat.le_refl _) (.cells #[.int .i64 x, .int .i64 y] 40)).alloc (by simp) (.cells #[.int .i64 0, .int .i64 0, .int .i64 0, .int .i64 0] 33)
  have hvA := (hv.alloc (.cells #[.int .i64 x, .int .i64 y] 40)).alloc (.cells #[.int .i64 0, .int .i64 0, .int .i64 0, .int .i64 0] 33)
  clear hv
  have p0 := (box2 zp).1
  have p1 := (box2 zp).2
  by_cases h : isReg rs = true
  · by_cases hon : onC x y = true
    · by_cases hc : hasG (notG (cellsG rs)) x y = true
      · rw [gtV_yes h hc]
        have hin := hasG_in hc
        go_enter Try.func32, Try.ntmps32
        go_wp2_with fail
        refine (isRegion_any v rs _ hvA).mono ?_
        rintro e w1 ⟨rfl, hb1⟩
        replace hvA := hvA.on hb1
        replace zp := zp.on hb1
        replace zr := zr.on hb1
        replace tw := tw.trans (hb1.mono tw.size)
        obtain ⟨p0, p1⟩ := box2 zp
        rw [h]
        go_wp2_with fail
        refine (isUnitCell_any x y _).mono ?_
        rintro e w2 ⟨rfl, hb2⟩
        replace hvA := hvA.on hb2
        replace zp := zp.on hb2
        replace zr := zr.on hb2
        replace tw := tw.trans (hb2.mono tw.size)
        obtain ⟨p0, p1⟩ := box2 zp
        rw [hon]
        go_wp2_with fail
        refine (cellsOf_any v rs _ hvA).mono ?_
        rintro e w3 ⟨g3, rfl, hg3, hG3, hb3⟩
        replace hvA := hvA.on hb3
        replace zp := zp.on hb3
        replace zr := zr.on hb3
        replace tw := tw.trans (hb3.mono tw.size)
        obtain ⟨p0, p1⟩ := box2 zp
        go_wp2_with fail
        refine (not_any _ _ _ hG3).mono ?_
        rintro e w4 ⟨g4, rfl, hg4, hG4, hb4⟩
        replace hvA := hvA.on hb4
        replace zp := zp.on hb4
        replace zr := zr.on hb4
        replace tw := tw.trans (hb4.mono tw.size)
        obtain ⟨p0, p1⟩ := box2 zp
        go_wp2_with fail
        refine (has_any _ _ _ _ _ hG4).mono ?_
        rintro e w5 ⟨rfl, hb5⟩
        replace hvA := hvA.on hb5
        replace zp := zp.on hb5
        replace zr := zr.on hb5
        replace tw := tw.trans (hb5.mono tw.size)
        obtain ⟨p0, p1⟩ := box2 zp
        rw [hc]
        go_wp2_with fail
        refine (through_ag _ _ x y vert _ (hG4.on hb5) ⟨hin.1, hin.2.1⟩ ⟨hin.2.2.1, hin.2.2.2⟩).mono ?_
        rintro e w6 ⟨rfl, hb6⟩
        replace hvA := hvA.on hb6
        replace zp := zp.on hb6
        replace zr := zr.on hb6
        replace tw := tw.trans (hb6.mono tw.size)
        obtain ⟨p0, p1⟩ := box2 zp
        obtain ⟨e0, e1, e2, e3⟩ := box4 zr
        have q0 := zr.frozen 0
        have q1 := zr.frozen 1
        have q2 := zr.frozen 2
        have q3 := zr.frozen 3
        go_wp2
        obtain ⟨s0, s1, s2, s3⟩ := set4of zr (.int .i64 (runR (notG (cellsG rs)) x y vert).x0) (.int .i64 (runR (notG (cellsG rs)) x y vert).y0) (.int .i64 (runR (notG (cellsG rs)) x y vert).x1) (.int .i64 (runR (notG (cellsG rs)) x y vert).y1)
        refine bodyPost_ret (v := .tuple #[.agg #[.int .i64 (runR (notG (cellsG rs)) x y vert).x0, .int .i64 (runR (notG (cellsG rs)) x y vert).y0, .int .i64 (runR (notG (cellsG rs)) x y vert).x1, .int .i64 (runR (notG (cellsG rs)) x y vert).y1], .bool true]) (by simp [results, Try.results32, go_sem, s0, s1, s2, s3]) rfl ⟨rfl, below4 tw (Nat.le_succ _) _ _ _ _⟩
      · have hc' : hasG (notG (cellsG rs)) x y = false := by simpa using hc
        clear hc
        rw [gtV_no2 hc']
        go_enter Try.func32, Try.ntmps32
        go_wp2_with fail
        refine (isRegion_any v rs _ hvA).mono ?_
        rintro e w1 ⟨rfl, hb1⟩
        replace hvA := hvA.on hb1
        replace zp := zp.on hb1
        replace zr := zr.on hb1
        replace tw := tw.trans (hb1.mono tw.size)
        obtain ⟨p0, p1⟩ := box2 zp
        rw [h]
        go_wp2_with fail
        refine (isUnitCell_any x y _).mono ?_
        rintro e w2 ⟨rfl, hb2⟩
        replace hvA := hvA.on hb2
        replace zp := zp.on hb2
        replace zr := zr.on hb2
        replace tw := tw.trans (hb2.mono tw.size)
        obtain ⟨p0, p1⟩ := box2 zp
        rw [hon]
        go_wp2_with fail
        refine (cellsOf_any v rs _ hvA).mono ?_
        rintro e w3 ⟨g3, rfl, hg3, hG3, hb3⟩
        replace hvA := hvA.on hb3
        replace zp := zp.on hb3
        replace zr := zr.on hb3
        replace tw := tw.trans (hb3.mono tw.size)
        obtain ⟨p0, p1⟩ := box2 zp
        go_wp2_with fail
        refine (not_any _ _ _ hG3).mono ?_
        rintro e w4 ⟨g4, rfl, hg4, hG4, hb4⟩
        replace hvA := hvA.on hb4
        replace zp := zp.on hb4
        replace zr := zr.on hb4
        replace tw := tw.trans (hb4.mono tw.size)
        obtain ⟨p0, p1⟩ := box2 zp
        go_wp2_with fail
        refine (has_any _ _ _ _ _ hG4).mono ?_
        rintro e w5 ⟨rfl, hb5⟩
        replace hvA := hvA.on hb5
        replace zp := zp.on hb5
        replace zr := zr.on hb5
        replace tw := tw.trans (hb5.mono tw.size)
        obtain ⟨p0, p1⟩ := box2 zp
        rw [hc']
        obtain ⟨e0, e1, e2, e3⟩ := box4 zr
        have q0 := zr.frozen 0
        have q1 := zr.frozen 1
        have q2 := zr.frozen 2
        have q3 := zr.frozen 3
        go_wp2
        obtain ⟨s0, s1, s2, s3⟩ := set4of zr (.int .i64 0) (.int .i64 0) (.int .i64 0) (.int .i64 0)
        refine bodyPost_ret (v := .tuple #[.agg #[.int .i64 0, .int .i64 0, .int .i64 0, .int .i64 0], .bool false]) (by simp [results, Try.results32, go_sem, s0, s1, s2, s3]) rfl ⟨rfl, below4 tw (Nat.le_succ _) _ _ _ _⟩
    · have hon' : onC x y = false := by simpa using hon
      clear hon
      rw [gtV_no2 (hasG_off hon')]
      go_enter Try.func32, Try.ntmps32
      go_wp2_with fail
      refine (isRegion_any v rs _ hvA).mono ?_
      rintro e w1 ⟨rfl, hb1⟩
      replace hvA := hvA.on hb1
      replace zp := zp.on hb1
      replace zr := zr.on hb1
      replace tw := tw.trans (hb1.mono tw.size)
      obtain ⟨p0, p1⟩ := box2 zp
      rw [h]
      go_wp2_with fail
      refine (isUnitCell_any x y _).mono ?_
      rintro e w2 ⟨rfl, hb2⟩
      replace hvA := hvA.on hb2
      replace zp := zp.on hb2
      replace zr := zr.on hb2
      replace tw := tw.trans (hb2.mono tw.size)
      obtain ⟨p0, p1⟩ := box2 zp
      rw [hon']
      obtain ⟨e0, e1, e2, e3⟩ := box4 zr
      have q0 := zr.frozen 0
      have q1 := zr.frozen 1
      have q2 := zr.frozen 2
      have q3 := zr.frozen 3
      go_wp2
      obtain ⟨s0, s1, s2, s3⟩ := set4of zr (.int .i64 0) (.int .i64 0) (.int .i64 0) (.int .i64 0)
      refine bodyPost_ret (v := .tuple #[.agg #[.int .i64 0, .int .i64 0, .int .i64 0, .int .i64 0], .bool false]) (by simp [results, Try.results32, go_sem, s0, s1, s2, s3]) rfl ⟨rfl, below4 tw (Nat.le_succ _) _ _ _ _⟩
  · have h' : isReg rs = false := by simpa using h
    clear h
    rw [gtV_no1 h']
    go_enter Try.func32, Try.ntmps32
    go_wp2_with fail
    refine (isRegion_any v rs _ hvA).mono ?_
    rintro e w1 ⟨rfl, hb1⟩
    replace hvA := hvA.on hb1
    replace zp := zp.on hb1
    replace zr := zr.on hb1
    replace tw := tw.trans (hb1.mono tw.size)
    obtain ⟨p0, p1⟩ := box2 zp
    rw [h']
    obtain ⟨e0, e1, e2, e3⟩ := box4 zr
    have q0 := zr.frozen 0
    have q1 := zr.frozen 1
    have q2 := zr.frozen 2
    have q3 := zr.frozen 3
    go_wp2
    obtain ⟨s0, s1, s2, s3⟩ := set4of zr (.int .i64 0) (.int .i64 0) (.int .i64 0) (.int .i64 0)
    refine bodyPost_ret (v := .tuple #[.agg #[.int .i64 0, .int .i64 0, .int .i64 0, .int .i64 0], .bool false]) (by simp [results, Try.results32, go_sem, s0, s1, s2, s3]) rfl ⟨rfl, below4 tw (Nat.le_succ _) _ _ _ _⟩

end Go.Proofs.Ytcdfbfnnlfgkfaa
