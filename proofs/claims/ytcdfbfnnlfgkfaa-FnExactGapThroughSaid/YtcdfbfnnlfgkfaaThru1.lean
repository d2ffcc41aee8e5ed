/- Contracts: RunThrough of the reference and of the program. No conditions. -/
import Derived.Test.YtcdfbfnnlfgkfaaThrough
import Derived.Test.YtcdfbfnnlfgkfaaContains
import Derived.Test.YtcdfbfnnlfgkfaaWidth4
import Derived.Deep.RegionHeld3
namespace Go.Proofs.Ytcdfbfnnlfgkfaa
open Go.RowKit

theorem l17Run_ag (v : Value) (G : Gr) (x y : Int) (vert : Bool) (w : World) (hG : GS w 0 v G) (hx : -40 ≤ x ∧ x ≤ 39) (hy : -40 ≤ y ∧ y ≤ 39) :
    Calls Try.prog 56 #[v, .int .i64 x, .int .i64 y, .bool vert] w fun e w' => e = .returned (.agg #[.int .i64 (runR G x y vert).x0, .int .i64 (runR G x y vert).y0, .int .i64 (runR G x y vert).x1, .int .i64 (runR G x y vert).y1]) ∧ Below w.heap.size w w' := l17Run_any v G x y vert w hG hx hy
theorem through_ag (g : Nat) (G : Gr) (x y : Int) (vert : Bool) (w : World) (hG : GB w g 84 G) (hx : -40 ≤ x ∧ x ≤ 39) (hy : -40 ≤ y ∧ y ≤ 39) :
    Calls Try.prog 59 #[.pointer (some ⟨g, 0, none⟩), .agg #[.int .i64 x, .int .i64 y], .bool vert] w fun e w' => e = .returned (.agg #[.int .i64 (runR G x y vert).x0, .int .i64 (runR G x y vert).y0, .int .i64 (runR G x y vert).x1, .int .i64 (runR G x y vert).y1]) ∧ Below w.heap.size w w' := through_any g G x y vert w hG hx hy

/-- The run through a cell. -/
def rtV (rs : List Rc) (x y : Int) (vert : Bool) : Option Rc := if isReg rs = true ∧ hasG (cellsG rs) x y = true then some (runR (cellsG rs) x y vert) else none
theorem rtV_yes {rs : List Rc} {x y : Int} {vert : Bool} (h : isReg rs = true) (hc : hasG (cellsG rs) x y = true) : rtV rs x y vert = some (runR (cellsG rs) x y vert) := if_pos ⟨h, hc⟩
theorem rtV_no1 {rs : List Rc} {x y : Int} {vert : Bool} (h : isReg rs = false) : rtV rs x y vert = none := if_neg (by rw [h]; simp)
theorem rtV_no2 {rs : List Rc} {x y : Int} {vert : Bool} (h : hasG (cellsG rs) x y = false) : rtV rs x y vert = none := if_neg (by rw [h]; simp)

set_option maxHeartbeats 1600000 in
set_option maxRecDepth 100000 in
theorem rt_spec (v : Value) (rs : List Rc) (x y : Int) (vert : Bool) (w : World) (hv : RL w 0 v rs) : Calls Try.prog 25 #[v, .agg #[.int .i64 x, .int .i64 y], .bool vert] w fun e w' => e = .returned (.tuple #[.agg #[.int .i64 (witX (rtV rs x y vert)).x0, .int .i64 (witX (rtV rs x y vert)).y0, .int .i64 (witX (rtV rs x y vert)).x1, .int .i64 (witX (rtV rs x y vert)).y1], .bool (witB (rtV rs x y vert))]) ∧ Below w.heap.size w w' := by
  have zp := (Bk.new w 40 #[.int .i64 x, .int .i64 y]).alloc (.cells #[.int .i64 0, .int .i64 0, .int .i64 0, .int .i64 0] 33)
  have zr := Bk.new (w.alloc (.cells #[.int .i64 x, .int .i64 y] 40)) 33 #[.int .i64 0, .int .i64 0, .int .i64 0, .int .i64 0]
  have ez : (w.alloc (.cells #[.int .i64 x, .int .i64 y] 40)).heap.size = w.heap.size + 1 := by simp
  rw [ez] at zr
  clear ez
  have tw := ((Below.refl w.heap.size w).alloc (Nat.le_refl _) (.cells #[.int .i64 x, .int .i64 y] 40)).alloc (by simp) (.cells #[.int .i64 0, .int .i64 0, .int .i64 0, .int .i64 0] 33)
  have hvA := (hv.alloc (.cells #[.int .i64 x, .int .i64 y] 40)).alloc (.cells #[.int .i64 0, .int .i64 0, .int .i64 0, .int .i64 0] 33)
  clear hv
  replace zp := zp.drew
  replace zr := zr.drew
  replace tw := tw.drew
  replace hvA := hvA.on ((Below.refl _ _).drew)
  by_cases h : isReg rs = true
  · have hok := okAll_reg h
    by_cases hc : hasG (cellsG rs) x y = true
    · rw [rtV_yes h hc]
      have hin := hasG_in hc
      go_enter Try.func25, Try.ntmps25
      go_wp2
      go_region_held3 (fun w' => w'.cell? ⟨w.heap.size, 0, none⟩ = some (.int .i64 x) ∧ w'.cell? ⟨w.heap.size, 1, none⟩ = some (.int .i64 y)) (exact box2 zp)
        (first | (go_at_call 48; refine (l03Ok_any v rs _ hvA).mono ?_; rintro e w1 ⟨rfl, hb1⟩; have hvA := hvA.on hb1; have zp := zp.on hb1; have zr := zr.on hb1; have tw := tw.trans (hb1.mono tw.size))
               | (go_at_call 51; refine (l03Bits_any v rs _ hvA hok).mono ?_; rintro e w2 ⟨u2, rfl, hG2, hb2⟩; have hvA := hvA.on hb2; have zp := zp.on hb2; have zr := zr.on hb2; have tw := tw.trans (hb2.mono tw.size))
               | (go_at_call 55; refine (l17Cell_any _ _ _ _ _ (GS.less hG2 (Nat.zero_le _))).mono ?_; rintro e w4 ⟨rfl, rfl⟩))
      go_wp2
      replace zp := zp.drew
      replace zr := zr.drew
      replace tw := tw.drew
      replace hvA := hvA.on ((Below.refl _ _).drew)
      go_region_held3 (fun w' => w'.cell? ⟨w.heap.size, 0, none⟩ = some (.int .i64 x) ∧ w'.cell? ⟨w.heap.size, 1, none⟩ = some (.int .i64 y)) (first | exact box2 zp | exact box2 (((((zp.other (p := ⟨w.heap.size + 1, 0, none⟩) (Nat.ne_of_lt (Nat.lt_succ_self _)) _).other (p := ⟨w.heap.size + 1, 1, none⟩) (Nat.ne_of_lt (Nat.lt_succ_self _)) _).other (p := ⟨w.heap.size + 1, 2, none⟩) (Nat.ne_of_lt (Nat.lt_succ_self _)) _).other (p := ⟨w.heap.size + 1, 3, none⟩) (Nat.ne_of_lt (Nat.lt_succ_self _)) _)))
        (first | (go_at_call 51; refine (l03Bits_any v rs _ hvA hok).mono ?_; rintro e w5 ⟨u5, rfl, hG5, hb5⟩; have zp := zp.on hb5; have zr := zr.on hb5; have tw := tw.trans (hb5.mono tw.size))
               | (go_at_call 56; refine (l17Run_ag _ _ _ _ _ _ (GS.less hG5 (Nat.zero_le _)) ⟨hin.1, hin.2.1⟩ ⟨hin.2.2.1, hin.2.2.2⟩).mono ?_; rintro e w7 ⟨rfl, hb7⟩; have zp := zp.on hb7; have zr := zr.on hb7; have tw := tw.trans (hb7.mono tw.size); obtain ⟨e0, e1, e2, e3⟩ := box4 zr; have q0 := zr.frozen 0; have q1 := zr.frozen 1; have q2 := zr.frozen 2; have q3 := zr.frozen 3))
      go_wp2
      obtain ⟨s0, s1, s2, s3⟩ := set4of zr (.int .i64 (runR (cellsG rs) x y vert).x0) (.int .i64 (runR (cellsG rs) x y vert).y0) (.int .i64 (runR (cellsG rs) x y vert).x1) (.int .i64 (runR (cellsG rs) x y vert).y1)
      refine bodyPost_ret (v := .tuple #[.agg #[.int .i64 (runR (cellsG rs) x y vert).x0, .int .i64 (runR (cellsG rs) x y vert).y0, .int .i64 (runR (cellsG rs) x y vert).x1, .int .i64 (runR (cellsG rs) x y vert).y1], .bool true]) (by simp [results, Try.results25, go_sem, s0, s1, s2, s3]) rfl ⟨rfl, below4 tw (Nat.le_succ _) _ _ _ _⟩
    · have hc' : hasG (cellsG rs) x y = false := by simpa using hc
      clear hc
      rw [rtV_no2 hc']
      go_enter Try.func25, Try.ntmps25
      go_wp2
      go_region_held3 (fun w' => w'.cell? ⟨w.heap.size, 0, none⟩ = some (.int .i64 x) ∧ w'.cell? ⟨w.heap.size, 1, none⟩ = some (.int .i64 y)) (exact box2 zp)
        (first | (go_at_call 48; refine (l03Ok_any v rs _ hvA).mono ?_; rintro e w1 ⟨rfl, hb1⟩; have hvA := hvA.on hb1; have zp := zp.on hb1; have zr := zr.on hb1; have tw := tw.trans (hb1.mono tw.size))
               | (go_at_call 51; refine (l03Bits_any v rs _ hvA hok).mono ?_; rintro e w2 ⟨u2, rfl, hG2, hb2⟩; have hvA := hvA.on hb2; have zp := zp.on hb2; have zr := zr.on hb2; have tw := tw.trans (hb2.mono tw.size))
               | (go_at_call 55; refine (l17Cell_any _ _ _ _ _ (GS.less hG2 (Nat.zero_le _))).mono ?_; rintro e w4 ⟨rfl, rfl⟩))
      obtain ⟨e0, e1, e2, e3⟩ := box4 zr
      have q0 := zr.frozen 0
      have q1 := zr.frozen 1
      have q2 := zr.frozen 2
      have q3 := zr.frozen 3
      go_wp2
      obtain ⟨s0, s1, s2, s3⟩ := set4of zr (.int .i64 0) (.int .i64 0) (.int .i64 0) (.int .i64 0)
      refine bodyPost_ret (v := .tuple #[.agg #[.int .i64 0, .int .i64 0, .int .i64 0, .int .i64 0], .bool false]) (by simp [results, Try.results25, go_sem, s0, s1, s2, s3]) rfl ⟨rfl, below4 tw (Nat.le_succ _) _ _ _ _⟩
  · have h' : isReg rs = false := by simpa using h
    clear h
    rw [rtV_no1 h']
    go_enter Try.func25, Try.ntmps25
    go_wp2
    refine wp_region_held_drew (S := fun _ => True) (by kernel_rfl) trivial (fun _ => ?_)
    refine wpAnyH_take (i := 0) (oi := ⟨_, _, _, _, _, _⟩) (v := v) rfl (by kernel_rfl) (by kernel_rfl) (by kernel_rfl) (fun _ _ _ h => h) (Or.inl ⟨by rfl, fun _ _ => by go_simp⟩) trivial ?_
    try simp only [Act.put, List.setIfInBounds_toArray, List.set_cons_succ, List.set_cons_zero]
    refine wpAnyH_ready (rs := [1]) (by kernel_rfl) (by simp) (AllReadyH.cons (o := ⟨_, _, _, _, _, _⟩) rfl (fun K hK => ?_) AllReadyH.nil)
    go_simp
    refine (l03Ok_any v rs _ hvA).mono ?_
    rintro e w1 ⟨rfl, hb1⟩
    rw [h']
    replace zr := zr.on hb1
    replace tw := tw.trans (hb1.mono tw.size)
    clear zp hvA
    go_wp2_with fail
    refine hK.out _ _ trivial (fun _ => ?_)
    clear hK K
    try simp only [Act.put, List.setIfInBounds_toArray, List.set_cons_succ, List.set_cons_zero]
    refine wpAnyH_take (i := 2) (oi := ⟨_, _, _, _, _, _⟩) (v := .bool true) rfl (by kernel_rfl) (by kernel_rfl) (by kernel_rfl) (fun _ _ _ h => h) (Or.inl ⟨by rfl, fun _ _ => by go_simp⟩) trivial ?_
    try simp only [Act.put, List.setIfInBounds_toArray, List.set_cons_succ, List.set_cons_zero]
    refine wpAnyH_take (i := 3) (oi := ⟨_, _, _, _, _, _⟩) (v := .bool true) rfl (by kernel_rfl) (by kernel_rfl) (by kernel_rfl) (fun _ _ _ h => h) (Or.inl ⟨by rfl, fun _ _ => by go_simp⟩) trivial ?_
    try simp only [Act.put, List.setIfInBounds_toArray, List.set_cons_succ, List.set_cons_zero]
    refine wpAnyH_take (i := 4) (oi := ⟨_, _, _, _, _, _⟩) (v := undef) rfl (by kernel_rfl) (by kernel_rfl) (by kernel_rfl) (fun _ _ _ h => h) (Or.inr ⟨by rfl, rfl⟩) trivial ?_
    try simp only [Act.put, List.setIfInBounds_toArray, List.set_cons_succ, List.set_cons_zero]
    refine wpAnyH_take (i := 5) (oi := ⟨_, _, _, _, _, _⟩) (v := undef) rfl (by kernel_rfl) (by kernel_rfl) (by kernel_rfl) (fun _ _ _ h => h) (Or.inr ⟨by rfl, rfl⟩) trivial ?_
    try simp only [Act.put, List.setIfInBounds_toArray, List.set_cons_succ, List.set_cons_zero]
    refine wpAnyH_take (i := 6) (oi := ⟨_, _, _, _, _, _⟩) (v := undef) rfl (by kernel_rfl) (by kernel_rfl) (by kernel_rfl) (fun _ _ _ h => h) (Or.inr ⟨by rfl, rfl⟩) trivial ?_
    try simp only [Act.put, List.setIfInBounds_toArray, List.set_cons_succ, List.set_cons_zero]
    refine wpAnyH_take (i := 7) (oi := ⟨_, _, _, _, _, _⟩) (v := undef) rfl (by kernel_rfl) (by kernel_rfl) (by kernel_rfl) (fun _ _ _ h => h) (Or.inr ⟨by rfl, rfl⟩) trivial ?_
    try simp only [Act.put, List.setIfInBounds_toArray, List.set_cons_succ, List.set_cons_zero]
    refine wpAnyH_take (i := 8) (oi := ⟨_, _, _, _, _, _⟩) (v := undef) rfl (by kernel_rfl) (by kernel_rfl) (by kernel_rfl) (fun _ _ _ h => h) (Or.inr ⟨by rfl, rfl⟩) trivial ?_
    try simp only [Act.put, List.setIfInBounds_toArray, List.set_cons_succ, List.set_cons_zero]
    refine wpAnyH_take (i := 9) (oi := ⟨_, _, _, _, _, _⟩) (v := undef) rfl (by kernel_rfl) (by kernel_rfl) (by kernel_rfl) (fun _ _ _ h => h) (Or.inr ⟨by rfl, rfl⟩) trivial ?_
    try simp only [Act.put, List.setIfInBounds_toArray, List.set_cons_succ, List.set_cons_zero]
    refine wpAnyH_take (i := 10) (oi := ⟨_, _, _, _, _, _⟩) (v := undef) rfl (by kernel_rfl) (by kernel_rfl) (by kernel_rfl) (fun _ _ _ h => h) (Or.inr ⟨by rfl, rfl⟩) trivial ?_
    try simp only [Act.put, List.setIfInBounds_toArray, List.set_cons_succ, List.set_cons_zero]
    refine wpAnyH_take (i := 11) (oi := ⟨_, _, _, _, _, _⟩) (v := undef) rfl (by kernel_rfl) (by kernel_rfl) (by kernel_rfl) (fun _ _ _ h => h) (Or.inr ⟨by rfl, rfl⟩) trivial ?_
    try simp only [Act.put, List.setIfInBounds_toArray, List.set_cons_succ, List.set_cons_zero]
    refine wpAnyH_take (i := 12) (oi := ⟨_, _, _, _, _, _⟩) (v := .bool true) rfl (by kernel_rfl) (by kernel_rfl) (by kernel_rfl) (fun _ _ _ h => h) (Or.inl ⟨by rfl, fun _ _ => by go_simp⟩) trivial ?_
    try simp only [Act.put, List.setIfInBounds_toArray, List.set_cons_succ, List.set_cons_zero]
    refine wpAnyH_done (by kernel_rfl) ?_ _
    obtain ⟨e0, e1, e2, e3⟩ := box4 zr
    have q0 := zr.frozen 0
    have q1 := zr.frozen 1
    have q2 := zr.frozen 2
    have q3 := zr.frozen 3
    go_wp2
    obtain ⟨s0, s1, s2, s3⟩ := set4of zr (.int .i64 0) (.int .i64 0) (.int .i64 0) (.int .i64 0)
    refine bodyPost_ret (v := .tuple #[.agg #[.int .i64 0, .int .i64 0, .int .i64 0, .int .i64 0], .bool false]) (by simp [results, Try.results25, go_sem, s0, s1, s2, s3]) rfl ⟨rfl, below4 tw (Nat.le_succ _) _ _ _ _⟩

set_option maxHeartbeats 1600000 in
set_option maxRecDepth 100000 in
theorem rt_impl (v : Value) (rs : List Rc) (x y : Int) (vert : Bool) (w : World) (hv : RL w 0 v rs) : Calls Try.prog 27 #[v, .agg #[.int .i64 x, .int .i64 y], .bool vert] w fun e w' => e = .returned (.tuple #[.agg #[.int .i64 (witX (rtV rs x y vert)).x0, .int .i64 (witX (rtV rs x y vert)).y0, .int .i64 (witX (rtV rs x y vert)).x1, .int .i64 (witX (rtV rs x y vert)).y1], .bool (witB (rtV rs x y vert))]) ∧ Below w.heap.size w w' := by
  have zp := (Bk.new w 40 #[.int .i64 x, .int .i64 y]).alloc (.cells #[.int .i64 0, .int .i64 0, .int .i64 0, .int .i64 0] 33)
  have zr := Bk.new (w.alloc (.cells #[.int .i64 x, .int .i64 y] 40)) 33 #[.int .i64 0, .int .i64 0, .int .i64 0, .int .i64 0]
  have ez : (w.alloc (.cells #[.int .i64 x, .int .i64 y] 40)).heap.size = w.heap.size + 1 := by simp
  rw [ez] at zr
  clear ez
  have tw := ((Below.refl w.heap.size w).alloc (Nat.le_refl _) (.cells #[.int .i64 x, .int .i64 y] 40)).alloc (by simp) (.cells #[.int .i64 0, .int .i64 0, .int .i64 0, .int .i64 0] 33)
  have hvA := (hv.alloc (.cells #[.int .i64 x, .int .i64 y] 40)).alloc (.cells #[.int .i64 0, .int .i64 0, .int .i64 0, .int .i64 0] 33)
  clear hv
  have p0 := (box2 zp).1
  have p1 := (box2 zp).2
  by_cases h : isReg rs = true
  · by_cases hc : hasG (cellsG rs) x y = true
    · rw [rtV_yes h hc]
      have hin := hasG_in hc
      have hgo : (isReg rs && hasG (cellsG rs) x y) = true := by rw [h, hc]; rfl
      go_enter Try.func27, Try.ntmps27
      go_wp2_with fail
      refine (regionContains_any v rs x y _ hvA).mono ?_
      rintro e w1 ⟨rfl, hb1⟩
      replace hvA := hvA.on hb1
      replace zp := zp.on hb1
      replace zr := zr.on hb1
      replace tw := tw.trans (hb1.mono tw.size)
      obtain ⟨p0, p1⟩ := box2 zp
      rw [hgo]
      go_wp2
      replace zp := zp.drew
      replace zr := zr.drew
      replace tw := tw.drew
      replace hvA := hvA.on ((Below.refl _ _).drew)
      go_region_held3 (fun w' => w'.cell? ⟨w.heap.size, 0, none⟩ = some (.int .i64 x) ∧ w'.cell? ⟨w.heap.size, 1, none⟩ = some (.int .i64 y)) (first | exact box2 zp | exact box2 (((((zp.other (p := ⟨w.heap.size + 1, 0, none⟩) (Nat.ne_of_lt (Nat.lt_succ_self _)) _).other (p := ⟨w.heap.size + 1, 1, none⟩) (Nat.ne_of_lt (Nat.lt_succ_self _)) _).other (p := ⟨w.heap.size + 1, 2, none⟩) (Nat.ne_of_lt (Nat.lt_succ_self _)) _).other (p := ⟨w.heap.size + 1, 3, none⟩) (Nat.ne_of_lt (Nat.lt_succ_self _)) _)))
        (first | (go_at_call 58; refine (cellsOf_any v rs _ hvA).mono ?_; rintro e w5 ⟨g5, rfl, hg5, hG5, hb5⟩; have zp := zp.on hb5; have zr := zr.on hb5; have tw := tw.trans (hb5.mono tw.size))
               | (go_at_call 59; refine (through_ag _ _ _ _ _ _ hG5 ⟨hin.1, hin.2.1⟩ ⟨hin.2.2.1, hin.2.2.2⟩).mono ?_; rintro e w7 ⟨rfl, hb7⟩; have zp := zp.on hb7; have zr := zr.on hb7; have tw := tw.trans (hb7.mono tw.size); obtain ⟨e0, e1, e2, e3⟩ := box4 zr; have q0 := zr.frozen 0; have q1 := zr.frozen 1; have q2 := zr.frozen 2; have q3 := zr.frozen 3))
      go_wp2
      obtain ⟨s0, s1, s2, s3⟩ := set4of zr (.int .i64 (runR (cellsG rs) x y vert).x0) (.int .i64 (runR (cellsG rs) x y vert).y0) (.int .i64 (runR (cellsG rs) x y vert).x1) (.int .i64 (runR (cellsG rs) x y vert).y1)
      refine bodyPost_ret (v := .tuple #[.agg #[.int .i64 (runR (cellsG rs) x y vert).x0, .int .i64 (runR (cellsG rs) x y vert).y0, .int .i64 (runR (cellsG rs) x y vert).x1, .int .i64 (runR (cellsG rs) x y vert).y1], .bool true]) (by simp [results, Try.results27, go_sem, s0, s1, s2, s3]) rfl ⟨rfl, below4 tw (Nat.le_succ _) _ _ _ _⟩
    · have hc' : hasG (cellsG rs) x y = false := by simpa using hc
      clear hc
      rw [rtV_no2 hc']
      have hgo : (isReg rs && hasG (cellsG rs) x y) = false := by rw [hc']; simp
      go_enter Try.func27, Try.ntmps27
      go_wp2_with fail
      refine (regionContains_any v rs x y _ hvA).mono ?_
      rintro e w1 ⟨rfl, hb1⟩
      replace hvA := hvA.on hb1
      replace zp := zp.on hb1
      replace zr := zr.on hb1
      replace tw := tw.trans (hb1.mono tw.size)
      obtain ⟨p0, p1⟩ := box2 zp
      rw [hgo]
      obtain ⟨e0, e1, e2, e3⟩ := box4 zr
      have q0 := zr.frozen 0
      have q1 := zr.frozen 1
      have q2 := zr.frozen 2
      have q3 := zr.frozen 3
      go_wp2
      obtain ⟨s0, s1, s2, s3⟩ := set4of zr (.int .i64 0) (.int .i64 0) (.int .i64 0) (.int .i64 0)
      refine bodyPost_ret (v := .tuple #[.agg #[.int .i64 0, .int .i64 0, .int .i64 0, .int .i64 0], .bool false]) (by simp [results, Try.results27, go_sem, s0, s1, s2, s3]) rfl ⟨rfl, below4 tw (Nat.le_succ _) _ _ _ _⟩
  · have h' : isReg rs = false := by simpa using h
    clear h
    rw [rtV_no1 h']
    have hgo : (isReg rs && hasG (cellsG rs) x y) = false := by rw [h']; simp
    go_enter Try.func27, Try.ntmps27
    go_wp2_with fail
    refine (regionContains_any v rs x y _ hvA).mono ?_
    rintro e w1 ⟨rfl, hb1⟩
    replace hvA := hvA.on hb1
    replace zp := zp.on hb1
    replace zr := zr.on hb1
    replace tw := tw.trans (hb1.mono tw.size)
    obtain ⟨p0, p1⟩ := box2 zp
    rw [hgo]
    obtain ⟨e0, e1, e2, e3⟩ := box4 zr
    have q0 := zr.frozen 0
    have q1 := zr.frozen 1
    have q2 := zr.frozen 2
    have q3 := zr.frozen 3
    go_wp2
    obtain ⟨s0, s1, s2, s3⟩ := set4of zr (.int .i64 0) (.int .i64 0) (.int .i64 0) (.int .i64 0)
    refine bodyPost_ret (v := .tuple #[.agg #[.int .i64 0, .int .i64 0, .int .i64 0, .int .i64 0], .bool false]) (by simp [results, Try.results27, go_sem, s0, s1, s2, s3]) rfl ⟨rfl, below4 tw (Nat.le_succ _) _ _ _ _⟩

end Go.Proofs.Ytcdfbfnnlfgkfaa
