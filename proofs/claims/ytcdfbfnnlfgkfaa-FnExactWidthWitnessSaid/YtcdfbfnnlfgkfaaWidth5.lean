/- Contracts: firstShorter, WidthWitness of the reference and of the program. No conditions. -/
import Derived.Test.YtcdfbfnnlfgkfaaWidth4
namespace Go.Proofs.Ytcdfbfnnlfgkfaa
open Go.RowKit

set_option maxHeartbeats 400000 in
set_option maxRecDepth 100000 in
/-- firstShorter. -/
theorem firstShorter_any (v : Value) (rs : List Rc) (d : Int) (w : World) (hv : RL w 0 v rs) (hok : okAll rs = true) : Calls Try.prog 74 #[v, .int .i64 d] w fun e w' => e = .returned (witV (firstA rs d)) ∧ Below w.heap.size w w' := by
  obtain ⟨A, c, rfl, hc, hm, -⟩ := hv.form
  have Hok := Lib.hid hok
  clear hok
  have hm' : rs.length ≤ 9223372036854775807 := by unfold maxLen at hm; omega
  have z0 := Bk.new w 33 #[.int .i64 0, .int .i64 0, .int .i64 0, .int .i64 0]
  have b0 : Below w.heap.size w (w.alloc (.cells #[.int .i64 0, .int .i64 0, .int .i64 0, .int .i64 0] 33)) := (Below.refl _ _).alloc (Nat.le_refl _) _
  have Hf := Lib.hid (first_start rs d)
  go_enter Try.func74, Try.ntmps74
  go_wp2
  go_loopw [10] (fun i wr => ∃ k : Nat, k ≤ rs.length ∧ i = .int .i64 k ∧ Hid (firstA (rs.drop k) d = firstA rs d) ∧ Bk wr w.heap.size 33 #[.int .i64 0, .int .i64 0, .int .i64 0, .int .i64 0] ∧ Below w.heap.size w wr) (fun i _ => rs.length - (intOf i).toNat)
  case atStart => exact ⟨0, Nat.zero_le _, rfl, Hf, z0, b0⟩
  case round =>
    obtain ⟨k, hk, rfl, hf, hz, hb⟩ := hrel
    clear z0 b0 Hf
    by_cases hlt : k < rs.length
    · obtain ⟨g, x0, y0, x1, y1, rfl, hr, hg, f0, f1, f2, f3⟩ := (hv.on hb).elem hlt
      have Hr := Lib.hid hr
      have hok := okAll_at Hok.out hr
      clear hr
      have hbA := hb.alloc hb.size (.cells #[.int .i64 x0, .int .i64 y0, .int .i64 x1, .int .i64 y1] 33)
      have hBx := Bk.new wr 33 #[.int .i64 x0, .int .i64 y0, .int .i64 x1, .int .i64 y1]
      have hzA := hz.alloc (.cells #[.int .i64 x0, .int .i64 y0, .int .i64 x1, .int .i64 y1] 33)
      by_cases hd : areaR ⟨x0, y0, x1, y1⟩ < d
      · have He := Lib.hid (hf.out.symm.trans (first_yes Hr.out hd))
        go_wp2_with (go_at_call 99; refine (runLength_any ⟨x0, y0, x1, y1⟩ hok _).mono ?_; rintro e w1 ⟨rfl, hb1⟩; obtain ⟨f0', f1', f2', f3'⟩ := box4 (hBx.on hb1); have hz1 := hzA.on hb1; obtain ⟨e0, e1, e2, e3⟩ := box4 hz1; have q0 := hz1.frozen 0; have q1 := hz1.frozen 1; have q2 := hz1.frozen 2; have q3 := hz1.frozen 3)
        obtain ⟨s0, s1, s2, s3⟩ := stored4 hz1 (.int .i64 x0) (.int .i64 y0) (.int .i64 x1) (.int .i64 y1)
        refine bodyPost_ret (v := .tuple #[.agg #[.int .i64 x0, .int .i64 y0, .int .i64 x1, .int .i64 y1], .bool true]) (by simp [results, Try.results74, go_sem, s0, s1, s2, s3]) rfl ⟨?_, ?_⟩
        · rw [He.out]; rfl
        · have t1 := hbA.trans (hb1.mono hbA.size)
          exact (((t1.setCell (Nat.le_refl _) _).setCell (Nat.le_refl _) _).setCell (Nat.le_refl _) _).setCell (Nat.le_refl _) _
      · have He := Lib.hid ((first_no Hr.out hd).symm.trans hf.out)
        go_wp2_with (go_at_call 99; refine (runLength_any ⟨x0, y0, x1, y1⟩ hok _).mono ?_; rintro e w1 ⟨rfl, hb1⟩)
        exact ⟨⟨k + 1, by omega, by go_num, He, hzA.on hb1, hbA.trans (hb1.mono hbA.size)⟩, by simp [intOf]; omega⟩
    · have He := Lib.hid (hf.out.symm.trans (first_end (by omega)))
      obtain ⟨e0, e1, e2, e3⟩ := box4 hz
      have q0 := hz.frozen 0
      have q1 := hz.frozen 1
      have q2 := hz.frozen 2
      have q3 := hz.frozen 3
      go_wp2
      obtain ⟨s0, s1, s2, s3⟩ := stored4 hz (.int .i64 0) (.int .i64 0) (.int .i64 0) (.int .i64 0)
      refine bodyPost_ret (v := .tuple #[.agg #[.int .i64 0, .int .i64 0, .int .i64 0, .int .i64 0], .bool false]) (by simp [results, Try.results74, go_sem, s0, s1, s2, s3]) rfl ⟨?_, ?_⟩
      · rw [He.out]; rfl
      · exact (((hb.setCell (Nat.le_refl _) _).setCell (Nat.le_refl _) _).setCell (Nat.le_refl _) _).setCell (Nat.le_refl _) _

/-- The first run that is too short. -/
def wwV (rs : List Rc) (x : Int) : Option Rc := if chkV rs x = true then firstA (allG (cellsG rs)) x else none
theorem wwV_yes {rs : List Rc} {x : Int} (h : chkV rs x = true) : wwV rs x = firstA (allG (cellsG rs)) x := if_pos h
theorem wwV_no {rs : List Rc} {x : Int} (h : chkV rs x = false) : wwV rs x = none := if_neg (by rw [h]; simp)

set_option maxHeartbeats 400000 in
set_option maxRecDepth 100000 in
theorem ww_spec (v : Value) (rs : List Rc) (x : Int) (w : World) (hv : RL w 0 v rs) : Calls Try.prog 37 #[v, .int .i64 x] w fun e w' => e = .returned (.tuple #[.agg #[.int .i64 (witX (wwV rs x)).x0, .int .i64 (witX (wwV rs x)).y0, .int .i64 (witX (wwV rs x)).x1, .int .i64 (witX (wwV rs x)).y1], .bool (witB (wwV rs x))]) ∧ Below w.heap.size w w' := by
  have hzA := Bk.new w 33 #[.int .i64 0, .int .i64 0, .int .i64 0, .int .i64 0]
  have hvA := hv.alloc (.cells #[.int .i64 0, .int .i64 0, .int .i64 0, .int .i64 0] 33)
  have hbA : Below w.heap.size w (w.alloc (.cells #[.int .i64 0, .int .i64 0, .int .i64 0, .int .i64 0] 33)) := (Below.refl _ _).alloc (Nat.le_refl _) _
  by_cases h : isReg rs = true
  · by_cases hx : inB 1 x 8 = true
    · rw [wwV_yes ((chkV_of h).trans hx)]
      have hok := okAll_reg h
      have hall := allG_ok (cellsG rs)
      go_enter Try.func37, Try.ntmps37
      go_wp2_with (first | (go_at_call 48; refine (l03Ok_any v rs _ hvA).mono ?_; rintro e w1 ⟨rfl, hb1⟩; have hv1 := hvA.on hb1; have hz1 := hzA.on hb1) | (go_at_call 71; refine (l17Distance_any x _).mono ?_; rintro e w0 ⟨rfl, rfl⟩)
                         | (go_at_call 51; refine (l03Bits_any v rs _ hv1 hok).mono ?_; rintro e w2 ⟨u2, rfl, hG, hb2⟩)
                         | (go_at_call 68; refine (l17All_any u2 (cellsG rs) _ (GS.less hG (Nat.zero_le _))).mono ?_; rintro e w3 ⟨u3, rfl, hR, hb3⟩)
                         | (go_at_call 72; refine (l17First_any u3 _ x _ (hR.less (Nat.zero_le _)) hall).mono ?_; unfold witV; rintro e w4 ⟨rfl, hb4⟩; have hz1 := ((hz1.on hb2).on hb3).on hb4; obtain ⟨e0, e1, e2, e3⟩ := box4 hz1; have q0 := hz1.frozen 0; have q1 := hz1.frozen 1; have q2 := hz1.frozen 2; have q3 := hz1.frozen 3))
      have t1 := hbA.trans (hb1.mono hbA.size)
      have t2 := t1.trans (hb2.mono t1.size)
      have t3 := t2.trans (hb3.mono t2.size)
      have t4 := t3.trans (hb4.mono t3.size)
      obtain ⟨s0, s1, s2, s3⟩ := stored4 hz1 (.int .i64 (witX (firstA (allG (cellsG rs)) x)).x0) (.int .i64 (witX (firstA (allG (cellsG rs)) x)).y0) (.int .i64 (witX (firstA (allG (cellsG rs)) x)).x1) (.int .i64 (witX (firstA (allG (cellsG rs)) x)).y1)
      refine bodyPost_ret (v := .tuple #[.agg #[.int .i64 (witX (firstA (allG (cellsG rs)) x)).x0, .int .i64 (witX (firstA (allG (cellsG rs)) x)).y0, .int .i64 (witX (firstA (allG (cellsG rs)) x)).x1, .int .i64 (witX (firstA (allG (cellsG rs)) x)).y1], .bool (witB (firstA (allG (cellsG rs)) x))]) (by simp [results, Try.results37, go_sem, s0, s1, s2, s3]) rfl ⟨rfl, ?_⟩
      exact ((((t4).setCell (Nat.le_refl _) _).setCell (Nat.le_refl _) _).setCell (Nat.le_refl _) _).setCell (Nat.le_refl _) _
    · have hx' : inB 1 x 8 = false := by simpa using hx
      clear hx
      rw [wwV_no ((chkV_of h).trans hx')]
      go_enter Try.func37, Try.ntmps37
      go_wp2_with (first | (go_at_call 48; refine (l03Ok_any v rs _ hvA).mono ?_; rintro e w1 ⟨rfl, hb1⟩; have hv1 := hvA.on hb1; have hz1 := hzA.on hb1; obtain ⟨e0, e1, e2, e3⟩ := box4 hz1; have q0 := hz1.frozen 0; have q1 := hz1.frozen 1; have q2 := hz1.frozen 2; have q3 := hz1.frozen 3) | (go_at_call 71; refine (l17Distance_any x _).mono ?_; rintro e w0 ⟨rfl, rfl⟩))
      have t1 := hbA.trans (hb1.mono hbA.size)
      obtain ⟨s0, s1, s2, s3⟩ := stored4 hz1 (.int .i64 0) (.int .i64 0) (.int .i64 0) (.int .i64 0)
      refine bodyPost_ret (v := .tuple #[.agg #[.int .i64 0, .int .i64 0, .int .i64 0, .int .i64 0], .bool false]) (by simp [results, Try.results37, go_sem, s0, s1, s2, s3]) rfl ⟨rfl, ?_⟩
      exact ((((t1).setCell (Nat.le_refl _) _).setCell (Nat.le_refl _) _).setCell (Nat.le_refl _) _).setCell (Nat.le_refl _) _
  · have h' : isReg rs = false := by simpa using h
    clear h
    rw [wwV_no (chkV_no h')]
    go_enter Try.func37, Try.ntmps37
    go_wp2_with (go_at_call 48; refine (l03Ok_any v rs _ hvA).mono ?_; rintro e w1 ⟨rfl, hb1⟩; have hv1 := hvA.on hb1; have hz1 := hzA.on hb1; obtain ⟨e0, e1, e2, e3⟩ := box4 hz1; have q0 := hz1.frozen 0; have q1 := hz1.frozen 1; have q2 := hz1.frozen 2; have q3 := hz1.frozen 3)
    have t1 := hbA.trans (hb1.mono hbA.size)
    obtain ⟨s0, s1, s2, s3⟩ := stored4 hz1 (.int .i64 0) (.int .i64 0) (.int .i64 0) (.int .i64 0)
    refine bodyPost_ret (v := .tuple #[.agg #[.int .i64 0, .int .i64 0, .int .i64 0, .int .i64 0], .bool false]) (by simp [results, Try.results37, go_sem, s0, s1, s2, s3]) rfl ⟨rfl, ?_⟩
    exact ((((t1).setCell (Nat.le_refl _) _).setCell (Nat.le_refl _) _).setCell (Nat.le_refl _) _).setCell (Nat.le_refl _) _

set_option maxHeartbeats 400000 in
set_option maxRecDepth 100000 in
theorem ww_impl (v : Value) (rs : List Rc) (x : Int) (w : World) (hv : RL w 0 v rs) : Calls Try.prog 38 #[v, .int .i64 x] w fun e w' => e = .returned (.tuple #[.agg #[.int .i64 (witX (wwV rs x)).x0, .int .i64 (witX (wwV rs x)).y0, .int .i64 (witX (wwV rs x)).x1, .int .i64 (witX (wwV rs x)).y1], .bool (witB (wwV rs x))]) ∧ Below w.heap.size w w' := by
  have hzA := Bk.new w 33 #[.int .i64 0, .int .i64 0, .int .i64 0, .int .i64 0]
  have hvA := hv.alloc (.cells #[.int .i64 0, .int .i64 0, .int .i64 0, .int .i64 0] 33)
  have hbA : Below w.heap.size w (w.alloc (.cells #[.int .i64 0, .int .i64 0, .int .i64 0, .int .i64 0] 33)) := (Below.refl _ _).alloc (Nat.le_refl _) _
  by_cases h : chkV rs x = true
  · rw [wwV_yes h]
    have hall := allG_ok (cellsG rs)
    go_enter Try.func38, Try.ntmps38
    go_wp2_with (first | (go_at_call 73; refine (checkable_any v rs x _ hvA).mono ?_; rintro e w1 ⟨rfl, hb1⟩; have hv1 := hvA.on hb1; have hz1 := hzA.on hb1)
                       | (go_at_call 70; refine (allRuns_any v rs _ hv1).mono ?_; rintro e w3 ⟨u3, rfl, hR, hb3⟩)
                       | (go_at_call 74; refine (firstShorter_any u3 _ x _ (hR.less (Nat.zero_le _)) hall).mono ?_; unfold witV; rintro e w4 ⟨rfl, hb4⟩; have hz1 := (hz1.on hb3).on hb4; obtain ⟨e0, e1, e2, e3⟩ := box4 hz1; have q0 := hz1.frozen 0; have q1 := hz1.frozen 1; have q2 := hz1.frozen 2; have q3 := hz1.frozen 3))
    have t1 := hbA.trans (hb1.mono hbA.size)
    have t3 := t1.trans (hb3.mono t1.size)
    have t4 := t3.trans (hb4.mono t3.size)
    obtain ⟨s0, s1, s2, s3⟩ := stored4 hz1 (.int .i64 (witX (firstA (allG (cellsG rs)) x)).x0) (.int .i64 (witX (firstA (allG (cellsG rs)) x)).y0) (.int .i64 (witX (firstA (allG (cellsG rs)) x)).x1) (.int .i64 (witX (firstA (allG (cellsG rs)) x)).y1)
    refine bodyPost_ret (v := .tuple #[.agg #[.int .i64 (witX (firstA (allG (cellsG rs)) x)).x0, .int .i64 (witX (firstA (allG (cellsG rs)) x)).y0, .int .i64 (witX (firstA (allG (cellsG rs)) x)).x1, .int .i64 (witX (firstA (allG (cellsG rs)) x)).y1], .bool (witB (firstA (allG (cellsG rs)) x))]) (by simp [results, Try.results38, go_sem, s0, s1, s2, s3]) rfl ⟨rfl, ?_⟩
    exact ((((t4).setCell (Nat.le_refl _) _).setCell (Nat.le_refl _) _).setCell (Nat.le_refl _) _).setCell (Nat.le_refl _) _
  · have h' : chkV rs x = false := by simpa using h
    clear h
    rw [wwV_no h']
    go_enter Try.func38, Try.ntmps38
    go_wp2_with (go_at_call 73; refine (checkable_any v rs x _ hvA).mono ?_; rintro e w1 ⟨rfl, hb1⟩; have hv1 := hvA.on hb1; have hz1 := hzA.on hb1; obtain ⟨e0, e1, e2, e3⟩ := box4 hz1; have q0 := hz1.frozen 0; have q1 := hz1.frozen 1; have q2 := hz1.frozen 2; have q3 := hz1.frozen 3)
    have t1 := hbA.trans (hb1.mono hbA.size)
    obtain ⟨s0, s1, s2, s3⟩ := stored4 hz1 (.int .i64 0) (.int .i64 0) (.int .i64 0) (.int .i64 0)
    refine bodyPost_ret (v := .tuple #[.agg #[.int .i64 0, .int .i64 0, .int .i64 0, .int .i64 0], .bool false]) (by simp [results, Try.results38, go_sem, s0, s1, s2, s3]) rfl ⟨rfl, ?_⟩
    exact ((((t1).setCell (Nat.le_refl _) _).setCell (Nat.le_refl _) _).setCell (Nat.le_refl _) _).setCell (Nat.le_refl _) _

end Go.Proofs.Ytcdfbfnnlfgkfaa
