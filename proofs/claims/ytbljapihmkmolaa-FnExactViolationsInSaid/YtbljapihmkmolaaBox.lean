/- Contracts: boxOf of the program, l02Box of the reference, ViolationBox of both. Condition: a list of rectangles in memory that is not empty. -/
import Derived.Test.YtbljapihmkmolaaPartsP
namespace Go.Proofs.Ytbljapihmkmolaa
open Go.RowKit

theorem comps_empty : ∀ n i : Nat, 6400 - i ≤ n → compsF emptyG i = []
  | 0, i, h => compsF_end (by omega)
  | n + 1, i, h => by
    by_cases hi : i < 6400
    · rw [compsF_no hi rfl, comps_empty n (i + 1) (by omega)]
    · exact compsF_end (by omega)
theorem conn_ne {rs : List Rc} (h : connV rs = true) : rs ≠ [] := by
  rintro rfl
  unfold connV at h
  rw [cellsG_nil, comps, comps_empty 6400 0 (by omega)] at h
  simp at h
theorem conn_reg {rs : List Rc} (h : connV rs = true) : isReg rs = true := by
  unfold connV at h
  rw [Bool.and_eq_true] at h
  exact h.1
theorem vio_conn {k : Int} {rs : List Rc} (h : vioV k rs = true) : connV rs = true := by
  unfold vioV at h
  rw [Bool.and_eq_true] at h
  exact h.2

def spanR (a r : Rc) : Rc := ⟨min a.x0 r.x0, min a.y0 r.y0, max a.x1 r.x1, max a.y1 r.y1⟩
def boxT (rs : List Rc) (k : Nat) : Rc := (rs.take k).foldl spanR (rs.headD ⟨0, 0, 0, 0⟩)
def boxR (rs : List Rc) : Rc := boxT rs rs.length
theorem boxT_step {rs : List Rc} {k : Nat} {r : Rc} (h : rs[k]? = some r) : boxT rs (k + 1) = spanR (boxT rs k) r := by
  unfold boxT
  rw [List.take_add_one, h, Option.toList, List.foldl_append]
  rfl
theorem boxT_zero (rs : List Rc) : boxT rs 0 = rs.headD ⟨0, 0, 0, 0⟩ := rfl
theorem boxT_one {rs : List Rc} {r : Rc} (h : rs[0]? = some r) : boxT rs 1 = r := by
  obtain ⟨x0, y0, x1, y1⟩ := r
  match rs, h with
  | a :: l, h =>
    simp at h
    subst h
    simp [boxT, spanR]
theorem headD_get {rs : List Rc} {r : Rc} (h : rs[0]? = some r) : rs.headD ⟨0, 0, 0, 0⟩ = r := by
  match rs, h with
  | a :: l, h => simpa using h

set_option maxHeartbeats 1600000 in
set_option maxRecDepth 100000 in
theorem box_impl (v : Value) (rs : List Rc) (w : World) (hv : RL w 0 v rs) (hne : rs ≠ []) : Calls Try.prog 44 #[v] w fun e w' => e = .returned (boxR rs).val ∧ Below w.heap.size w w' := by
  have h0 : 0 < rs.length := List.length_pos_iff.2 hne
  obtain ⟨A, c, rfl, hc, hm, -⟩ := hv.form
  obtain ⟨g, a0, b0, a1, b1, rfl, hr, hg, f0, f1, f2, f3⟩ := hv.elem h0
  unfold maxLen at hm
  have Hh := Lib.hid ((boxT_zero rs).trans (headD_get hr))
  have s1 := (Bk.new w 34 #[.int .i64 0, .int .i64 0, .int .i64 0, .int .i64 0]).alloc (.cells #[.int .i64 a0, .int .i64 b0, .int .i64 a1, .int .i64 b1] 34)
  have s2 := Bk.new (w.alloc (.cells #[.int .i64 0, .int .i64 0, .int .i64 0, .int .i64 0] 34)) 34 #[.int .i64 a0, .int .i64 b0, .int .i64 a1, .int .i64 b1]
  have e1 : (w.alloc (.cells #[.int .i64 0, .int .i64 0, .int .i64 0, .int .i64 0] 34)).heap.size = w.heap.size + 1 := by simp
  rw [e1] at s2
  have hv2 := RL.alloc (RL.alloc hv (.cells #[.int .i64 0, .int .i64 0, .int .i64 0, .int .i64 0] 34)) (.cells #[.int .i64 a0, .int .i64 b0, .int .i64 a1, .int .i64 b1] 34)
  have hb2 := ((Below.refl w.heap.size w).alloc (Nat.le_refl _) (.cells #[.int .i64 0, .int .i64 0, .int .i64 0, .int .i64 0] 34)).alloc (by simp) (.cells #[.int .i64 a0, .int .i64 b0, .int .i64 a1, .int .i64 b1] 34)
  have S1 := Lib.hid s1
  have S2 := Lib.hid s2
  have V2 := Lib.hid hv2
  have B2 := Lib.hid hb2
  clear s1 s2 hv2 hb2 e1 hr hv
  go_enter Try.func44, Try.ntmps44
  go_wp2
  clear f0 f1 f2 f3
  go_loopw [11] (fun iv wr => ∃ k : Nat, k ≤ rs.length ∧ iv = .int .i64 k ∧ Bk wr (w.heap.size + 1) 34 #[.int .i64 (boxT rs k).x0, .int .i64 (boxT rs k).y0, .int .i64 (boxT rs k).x1, .int .i64 (boxT rs k).y1] ∧ Bk wr w.heap.size 34 #[.int .i64 0, .int .i64 0, .int .i64 0, .int .i64 0] ∧ RL wr 0 (.slice (some ⟨g, 0, none⟩) rs.length c) rs ∧ Below w.heap.size w wr) (fun iv _ => rs.length - (intOf iv).toNat)
  case atStart => exact ⟨0, Nat.zero_le _, rfl, by rw [Hh.out]; exact S2.out, S1.out, V2.out, B2.out⟩
  case round =>
    obtain ⟨k, hk, rfl, hB, hA, hR, hb⟩ := hrel
    clear S1 S2 V2 B2
    by_cases hlt : k < rs.length
    · obtain ⟨g', x0, y0, x1, y1, hg', hr, hgw, f0, f1, f2, f3⟩ := hR.elem hlt
      cases hg'
      have Hst := Lib.hid (boxT_step hr)
      generalize hq : boxT rs k = q at *
      obtain ⟨p0, p1, p2, p3⟩ := q
      clear hq hr
      dsimp only at hB
      obtain ⟨c0, c1, c2, c3⟩ := box4 hB
      have hk9 : k < 9223372036854775807 := by omega
      have hB1 := hB.alloc (.cells #[.int .i64 x0, .int .i64 y0, .int .i64 x1, .int .i64 y1] 34)
      have z0 := hB1.frozen 0
      have z1 := hB1.frozen 1
      have z2 := hB1.frozen 2
      have z3 := hB1.frozen 3
      obtain ⟨d0, d1, d2, d3⟩ := box4 hB1
      have HB := Lib.hid ((((hB1.store 0 (.int .i64 (min p0 x0))).store 1 (.int .i64 (min p1 y0))).store 2 (.int .i64 (max p2 x1))).store 3 (.int .i64 (max p3 y1)))
      have HA := Lib.hid (((((hA.alloc (.cells #[.int .i64 x0, .int .i64 y0, .int .i64 x1, .int .i64 y1] 34)).other (p := ⟨w.heap.size + 1, 0, none⟩) (show w.heap.size ≠ w.heap.size + 1 by omega) (.int .i64 (min p0 x0))).other (p := ⟨w.heap.size + 1, 1, none⟩) (show w.heap.size ≠ w.heap.size + 1 by omega) (.int .i64 (min p1 y0))).other (p := ⟨w.heap.size + 1, 2, none⟩) (show w.heap.size ≠ w.heap.size + 1 by omega) (.int .i64 (max p2 x1))).other (p := ⟨w.heap.size + 1, 3, none⟩) (show w.heap.size ≠ w.heap.size + 1 by omega) (.int .i64 (max p3 y1)))
      have hgl : some (w.heap.size + 1) ≠ (Value.slice (some ⟨g, 0, none⟩) rs.length c).ownBlock := by simp [Value.ownBlock]; omega
      have HR := Lib.hid (own_other (p := ⟨w.heap.size + 1, 3, none⟩) (own_other (p := ⟨w.heap.size + 1, 2, none⟩) (own_other (p := ⟨w.heap.size + 1, 1, none⟩) (own_other (p := ⟨w.heap.size + 1, 0, none⟩) (RL.alloc hR (.cells #[.int .i64 x0, .int .i64 y0, .int .i64 x1, .int .i64 y1] 34)) hgl.symm (.int .i64 (min p0 x0))) hgl.symm (.int .i64 (min p1 y0))) hgl.symm (.int .i64 (max p2 x1))) hgl.symm (.int .i64 (max p3 y1)))
      have Hb := Lib.hid (((((hb.alloc hb.size (.cells #[.int .i64 x0, .int .i64 y0, .int .i64 x1, .int .i64 y1] 34)).setCell (p := ⟨w.heap.size + 1, 0, none⟩) (Nat.le_succ _) (.int .i64 (min p0 x0))).setCell (p := ⟨w.heap.size + 1, 1, none⟩) (Nat.le_succ _) (.int .i64 (min p1 y0))).setCell (p := ⟨w.heap.size + 1, 2, none⟩) (Nat.le_succ _) (.int .i64 (max p2 x1))).setCell (p := ⟨w.heap.size + 1, 3, none⟩) (Nat.le_succ _) (.int .i64 (max p3 y1)))
      clear hB hB1 hA hR hb
      go_wp2
      exact ⟨⟨k + 1, by omega, by go_num, by rw [Hst.out]; exact HB.out, HA.out, HR.out, Hb.out⟩, by simp [intOf]; omega⟩
    · have hke : k = rs.length := by omega
      subst hke
      have Hbx := Lib.hid (show boxR rs = boxT rs rs.length from rfl)
      generalize hq : boxT rs rs.length = q at *
      obtain ⟨p0, p1, p2, p3⟩ := q
      clear hq
      dsimp only at hB
      obtain ⟨c0, c1, c2, c3⟩ := box4 hB
      have z0 := hA.frozen 0
      have z1 := hA.frozen 1
      have z2 := hA.frozen 2
      have z3 := hA.frozen 3
      obtain ⟨d0, d1, d2, d3⟩ := box4 hA
      have A1 := ((((hA.store 0 (.int .i64 p0)).store 1 (.int .i64 p1)).store 2 (.int .i64 p2)).store 3 (.int .i64 p3))
      have Hb := Lib.hid ((((hb.setCell (p := ⟨w.heap.size, 0, none⟩) (Nat.le_refl _) (.int .i64 p0)).setCell (p := ⟨w.heap.size, 1, none⟩) (Nat.le_refl _) (.int .i64 p1)).setCell (p := ⟨w.heap.size, 2, none⟩) (Nat.le_refl _) (.int .i64 p2)).setCell (p := ⟨w.heap.size, 3, none⟩) (Nat.le_refl _) (.int .i64 p3))
      have q0 := A1.cell 0
      have q1 := A1.cell 1
      have q2 := A1.cell 2
      have q3 := A1.cell 3
      simp at q0 q1 q2 q3
      clear hB hA hR hb A1
      go_wp2
      refine bodyPost_ret (v := .agg #[.int .i64 p0, .int .i64 p1, .int .i64 p2, .int .i64 p3]) (by simp [results, Try.results44, go_sem, *]) rfl ?_
      exact ⟨by rw [Hbx.out]; rfl, Hb.out⟩

set_option maxHeartbeats 1600000 in
set_option maxRecDepth 100000 in
theorem box_spec (v : Value) (rs : List Rc) (w : World) (hv : RL w 0 v rs) (hne : rs ≠ []) : Calls Try.prog 43 #[v] w fun e w' => e = .returned (boxR rs).val ∧ Below w.heap.size w w' := by
  have h0 : 0 < rs.length := List.length_pos_iff.2 hne
  obtain ⟨A, c, rfl, hc, hm, -⟩ := hv.form
  obtain ⟨g, a0, b0, a1, b1, rfl, hr, hg, f0, f1, f2, f3⟩ := hv.elem h0
  unfold maxLen at hm
  have Hh := Lib.hid (boxT_one hr)
  have s1 := (Bk.new w 34 #[.int .i64 0, .int .i64 0, .int .i64 0, .int .i64 0]).alloc (.cells #[.int .i64 a0, .int .i64 b0, .int .i64 a1, .int .i64 b1] 34)
  have s2 := Bk.new (w.alloc (.cells #[.int .i64 0, .int .i64 0, .int .i64 0, .int .i64 0] 34)) 34 #[.int .i64 a0, .int .i64 b0, .int .i64 a1, .int .i64 b1]
  have e1 : (w.alloc (.cells #[.int .i64 0, .int .i64 0, .int .i64 0, .int .i64 0] 34)).heap.size = w.heap.size + 1 := by simp
  rw [e1] at s2
  have hv2 := RL.alloc (RL.alloc hv (.cells #[.int .i64 0, .int .i64 0, .int .i64 0, .int .i64 0] 34)) (.cells #[.int .i64 a0, .int .i64 b0, .int .i64 a1, .int .i64 b1] 34)
  have hb2 := ((Below.refl w.heap.size w).alloc (Nat.le_refl _) (.cells #[.int .i64 0, .int .i64 0, .int .i64 0, .int .i64 0] 34)).alloc (by simp) (.cells #[.int .i64 a0, .int .i64 b0, .int .i64 a1, .int .i64 b1] 34)
  have S1 := Lib.hid s1
  have S2 := Lib.hid s2
  have V2 := Lib.hid hv2
  have B2 := Lib.hid hb2
  clear s1 s2 hv2 hb2 e1 hr hv
  go_enter Try.func43, Try.ntmps43
  go_wp2
  clear f0 f1 f2 f3
  go_loopw [4] (fun iv wr => ∃ k : Nat, 1 ≤ k ∧ k ≤ rs.length ∧ iv = .int .i64 k ∧ Bk wr (w.heap.size + 1) 34 #[.int .i64 (boxT rs k).x0, .int .i64 (boxT rs k).y0, .int .i64 (boxT rs k).x1, .int .i64 (boxT rs k).y1] ∧ Bk wr w.heap.size 34 #[.int .i64 0, .int .i64 0, .int .i64 0, .int .i64 0] ∧ RL wr 0 (.slice (some ⟨g, 0, none⟩) rs.length c) rs ∧ Below w.heap.size w wr) (fun iv _ => rs.length - (intOf iv).toNat)
  case atStart => exact ⟨1, Nat.le_refl _, h0, rfl, by rw [Hh.out]; exact S2.out, S1.out, V2.out, B2.out⟩
  case round =>
    obtain ⟨k, hk1, hk, rfl, hB, hA, hR, hb⟩ := hrel
    clear S1 S2 V2 B2
    by_cases hlt : k < rs.length
    · obtain ⟨g', x0, y0, x1, y1, hg', hr, hgw, f0, f1, f2, f3⟩ := hR.elem hlt
      cases hg'
      have Hst := Lib.hid (boxT_step hr)
      generalize hq : boxT rs k = q at *
      obtain ⟨p0, p1, p2, p3⟩ := q
      clear hq hr
      dsimp only at hB
      obtain ⟨c0, c1, c2, c3⟩ := box4 hB
      have hk9 : k < 9223372036854775807 := by omega
      have hB1 := hB.alloc (.cells #[.int .i64 x0, .int .i64 y0, .int .i64 x1, .int .i64 y1] 34)
      have z0 := hB1.frozen 0
      have z1 := hB1.frozen 1
      have z2 := hB1.frozen 2
      have z3 := hB1.frozen 3
      obtain ⟨d0, d1, d2, d3⟩ := box4 hB1
      have HB := Lib.hid ((((hB1.store 0 (.int .i64 (min p0 x0))).store 1 (.int .i64 (min p1 y0))).store 2 (.int .i64 (max p2 x1))).store 3 (.int .i64 (max p3 y1)))
      have HA := Lib.hid (((((hA.alloc (.cells #[.int .i64 x0, .int .i64 y0, .int .i64 x1, .int .i64 y1] 34)).other (p := ⟨w.heap.size + 1, 0, none⟩) (show w.heap.size ≠ w.heap.size + 1 by omega) (.int .i64 (min p0 x0))).other (p := ⟨w.heap.size + 1, 1, none⟩) (show w.heap.size ≠ w.heap.size + 1 by omega) (.int .i64 (min p1 y0))).other (p := ⟨w.heap.size + 1, 2, none⟩) (show w.heap.size ≠ w.heap.size + 1 by omega) (.int .i64 (max p2 x1))).other (p := ⟨w.heap.size + 1, 3, none⟩) (show w.heap.size ≠ w.heap.size + 1 by omega) (.int .i64 (max p3 y1)))
      have hgl : some (w.heap.size + 1) ≠ (Value.slice (some ⟨g, 0, none⟩) rs.length c).ownBlock := by simp [Value.ownBlock]; omega
      have HR := Lib.hid (own_other (p := ⟨w.heap.size + 1, 3, none⟩) (own_other (p := ⟨w.heap.size + 1, 2, none⟩) (own_other (p := ⟨w.heap.size + 1, 1, none⟩) (own_other (p := ⟨w.heap.size + 1, 0, none⟩) (RL.alloc hR (.cells #[.int .i64 x0, .int .i64 y0, .int .i64 x1, .int .i64 y1] 34)) hgl.symm (.int .i64 (min p0 x0))) hgl.symm (.int .i64 (min p1 y0))) hgl.symm (.int .i64 (max p2 x1))) hgl.symm (.int .i64 (max p3 y1)))
      have Hb := Lib.hid (((((hb.alloc hb.size (.cells #[.int .i64 x0, .int .i64 y0, .int .i64 x1, .int .i64 y1] 34)).setCell (p := ⟨w.heap.size + 1, 0, none⟩) (Nat.le_succ _) (.int .i64 (min p0 x0))).setCell (p := ⟨w.heap.size + 1, 1, none⟩) (Nat.le_succ _) (.int .i64 (min p1 y0))).setCell (p := ⟨w.heap.size + 1, 2, none⟩) (Nat.le_succ _) (.int .i64 (max p2 x1))).setCell (p := ⟨w.heap.size + 1, 3, none⟩) (Nat.le_succ _) (.int .i64 (max p3 y1)))
      clear hB hB1 hA hR hb
      go_wp2
      exact ⟨⟨k + 1, by omega, by omega, by go_num, by rw [Hst.out]; exact HB.out, HA.out, HR.out, Hb.out⟩, by simp [intOf]; omega⟩
    · have hke : k = rs.length := by omega
      subst hke
      have Hbx := Lib.hid (show boxR rs = boxT rs rs.length from rfl)
      generalize hq : boxT rs rs.length = q at *
      obtain ⟨p0, p1, p2, p3⟩ := q
      clear hq
      dsimp only at hB
      obtain ⟨c0, c1, c2, c3⟩ := box4 hB
      have z0 := hA.frozen 0
      have z1 := hA.frozen 1
      have z2 := hA.frozen 2
      have z3 := hA.frozen 3
      obtain ⟨d0, d1, d2, d3⟩ := box4 hA
      have A1 := ((((hA.store 0 (.int .i64 p0)).store 1 (.int .i64 p1)).store 2 (.int .i64 p2)).store 3 (.int .i64 p3))
      have Hb := Lib.hid ((((hb.setCell (p := ⟨w.heap.size, 0, none⟩) (Nat.le_refl _) (.int .i64 p0)).setCell (p := ⟨w.heap.size, 1, none⟩) (Nat.le_refl _) (.int .i64 p1)).setCell (p := ⟨w.heap.size, 2, none⟩) (Nat.le_refl _) (.int .i64 p2)).setCell (p := ⟨w.heap.size, 3, none⟩) (Nat.le_refl _) (.int .i64 p3))
      have q0 := A1.cell 0
      have q1 := A1.cell 1
      have q2 := A1.cell 2
      have q3 := A1.cell 3
      simp at q0 q1 q2 q3
      clear hB hA hR hb A1
      go_wp2
      refine bodyPost_ret (v := .agg #[.int .i64 p0, .int .i64 p1, .int .i64 p2, .int .i64 p3]) (by simp [results, Try.results43, go_sem, *]) rfl ?_
      exact ⟨by rw [Hbx.out]; rfl, Hb.out⟩

noncomputable def vbR (k : Int) (rs : List Rc) : Rc := if vioV k rs = true then boxR rs else ⟨0, 0, 0, 0⟩
theorem vbR_yes {k : Int} {rs : List Rc} (h : vioV k rs = true) : vbR k rs = boxR rs := if_pos h
theorem vbR_no {k : Int} {rs : List Rc} (h : vioV k rs = false) : vbR k rs = ⟨0, 0, 0, 0⟩ := if_neg (by rw [h]; simp)

set_option maxHeartbeats 800000 in
set_option maxRecDepth 100000 in
theorem vb_impl (k : Int) (v : Value) (rs : List Rc) (w : World) (hv : RL w 0 v rs) : Calls Try.prog 15 #[.agg #[.int .i64 k, v]] w fun e w' => e = .returned (.tuple #[.agg #[.int .i64 (vbR k rs).x0, .int .i64 (vbR k rs).y0, .int .i64 (vbR k rs).x1, .int .i64 (vbR k rs).y1], .bool (vioV k rs)]) ∧ Below w.heap.size w w' := by
  obtain ⟨A, c, rfl, -, -, -⟩ := hv.form
  have e1 : (w.alloc (.cells #[.int .i64 k, .slice A rs.length c] 29)).heap.size = w.heap.size + 1 := by simp
  have x0 := (Bk.new w 29 #[.int .i64 k, .slice A rs.length c]).alloc (.cells #[.int .i64 0, .int .i64 0, .int .i64 0, .int .i64 0] 34)
  have r0 := Bk.new (w.alloc (.cells #[.int .i64 k, .slice A rs.length c] 29)) 34 #[.int .i64 0, .int .i64 0, .int .i64 0, .int .i64 0]
  rw [e1] at r0
  have X0 := Lib.hid x0
  have R0 := Lib.hid r0
  have B0 := Lib.hid (((Below.refl w.heap.size w).alloc (Nat.le_refl _) (.cells #[.int .i64 k, .slice A rs.length c] 29)).alloc (by simp) (.cells #[.int .i64 0, .int .i64 0, .int .i64 0, .int .i64 0] 34))
  have V0 := Lib.hid (RL.alloc (RL.alloc hv (.cells #[.int .i64 k, .slice A rs.length c] 29)) (.cells #[.int .i64 0, .int .i64 0, .int .i64 0, .int .i64 0] 34))
  clear x0 r0 e1 hv
  cases h : vioV k rs with
  | true =>
    rw [vbR_yes h]
    have Hc := Lib.hid (conn_ne (vio_conn h))
    go_enter Try.func15, Try.ntmps15
    go_wp2_with fail
    refine (vio_impl k _ rs _ V0.out).mono ?_
    rintro e w1 ⟨rfl, hb1⟩
    rw [h]
    have b1 := Lib.hid (B0.out.trans (hb1.mono B0.out.size))
    have x1 := Lib.hid (X0.out.on hb1)
    have r1 := Lib.hid (R0.out.on hb1)
    have v1 := Lib.hid (V0.out.on hb1)
    obtain ⟨c0, c1⟩ := box2 x1.out
    clear hb1 X0 R0 B0 V0 h
    go_wp2_with fail
    refine (box_impl _ rs _ v1.out Hc.out).mono ?_
    rintro e w2 ⟨rfl, hb2⟩
    have b2 := b1.out.trans (hb2.mono b1.out.size)
    have r2 := r1.out.on hb2
    clear hb2 x1 r1 v1 b1 c0 c1
    generalize hq : boxR rs = q at *
    obtain ⟨p0, p1, p2, p3⟩ := q
    have Hq := Lib.hid hq
    clear hq
    unfold Rc.val
    dsimp only
    have z0 := r2.frozen 0
    have z1 := r2.frozen 1
    have z2 := r2.frozen 2
    have z3 := r2.frozen 3
    obtain ⟨d0, d1, d2, d3⟩ := box4 r2
    have A1 := ((((r2.store 0 (.int .i64 p0)).store 1 (.int .i64 p1)).store 2 (.int .i64 p2)).store 3 (.int .i64 p3))
    have Hb := Lib.hid ((((b2.setCell (p := ⟨w.heap.size + 1, 0, none⟩) (Nat.le_succ _) (.int .i64 p0)).setCell (p := ⟨w.heap.size + 1, 1, none⟩) (Nat.le_succ _) (.int .i64 p1)).setCell (p := ⟨w.heap.size + 1, 2, none⟩) (Nat.le_succ _) (.int .i64 p2)).setCell (p := ⟨w.heap.size + 1, 3, none⟩) (Nat.le_succ _) (.int .i64 p3))
    have q0 := A1.cell 0
    have q1 := A1.cell 1
    have q2 := A1.cell 2
    have q3 := A1.cell 3
    simp at q0 q1 q2 q3
    clear r2 b2 A1
    go_wp2
    refine bodyPost_ret (v := .tuple #[.agg #[.int .i64 p0, .int .i64 p1, .int .i64 p2, .int .i64 p3], .bool true]) (by simp [results, Try.results15, go_sem, *]) rfl ?_
    exact ⟨by rw [Hq.out], Hb.out⟩
  | false =>
    rw [vbR_no h]
    go_enter Try.func15, Try.ntmps15
    go_wp2_with fail
    refine (vio_impl k _ rs _ V0.out).mono ?_
    rintro e w1 ⟨rfl, hb1⟩
    rw [h]
    have b2 := B0.out.trans (hb1.mono B0.out.size)
    have r2 := R0.out.on hb1
    clear hb1 X0 R0 B0 V0 h
    have z0 := r2.frozen 0
    have z1 := r2.frozen 1
    have z2 := r2.frozen 2
    have z3 := r2.frozen 3
    obtain ⟨d0, d1, d2, d3⟩ := box4 r2
    have A1 := ((((r2.store 0 (.int .i64 0)).store 1 (.int .i64 0)).store 2 (.int .i64 0)).store 3 (.int .i64 0))
    have Hb := Lib.hid ((((b2.setCell (p := ⟨w.heap.size + 1, 0, none⟩) (Nat.le_succ _) (.int .i64 0)).setCell (p := ⟨w.heap.size + 1, 1, none⟩) (Nat.le_succ _) (.int .i64 0)).setCell (p := ⟨w.heap.size + 1, 2, none⟩) (Nat.le_succ _) (.int .i64 0)).setCell (p := ⟨w.heap.size + 1, 3, none⟩) (Nat.le_succ _) (.int .i64 0))
    have q0 := A1.cell 0
    have q1 := A1.cell 1
    have q2 := A1.cell 2
    have q3 := A1.cell 3
    simp at q0 q1 q2 q3
    clear r2 b2 A1
    go_wp2
    refine bodyPost_ret (v := .tuple #[.agg #[.int .i64 0, .int .i64 0, .int .i64 0, .int .i64 0], .bool false]) (by simp [results, Try.results15, go_sem, *]) rfl ?_
    exact ⟨rfl, Hb.out⟩

set_option maxHeartbeats 800000 in
set_option maxRecDepth 100000 in
theorem vb_spec (k : Int) (v : Value) (rs : List Rc) (w : World) (hv : RL w 0 v rs) : Calls Try.prog 14 #[.agg #[.int .i64 k, v]] w fun e w' => e = .returned (.tuple #[.agg #[.int .i64 (vbR k rs).x0, .int .i64 (vbR k rs).y0, .int .i64 (vbR k rs).x1, .int .i64 (vbR k rs).y1], .bool (vioV k rs)]) ∧ Below w.heap.size w w' := by
  obtain ⟨A, c, rfl, -, -, -⟩ := hv.form
  have e1 : (w.alloc (.cells #[.int .i64 k, .slice A rs.length c] 29)).heap.size = w.heap.size + 1 := by simp
  have x0 := (Bk.new w 29 #[.int .i64 k, .slice A rs.length c]).alloc (.cells #[.int .i64 0, .int .i64 0, .int .i64 0, .int .i64 0] 34)
  have r0 := Bk.new (w.alloc (.cells #[.int .i64 k, .slice A rs.length c] 29)) 34 #[.int .i64 0, .int .i64 0, .int .i64 0, .int .i64 0]
  rw [e1] at r0
  have X0 := Lib.hid x0
  have R0 := Lib.hid r0
  have B0 := Lib.hid (((Below.refl w.heap.size w).alloc (Nat.le_refl _) (.cells #[.int .i64 k, .slice A rs.length c] 29)).alloc (by simp) (.cells #[.int .i64 0, .int .i64 0, .int .i64 0, .int .i64 0] 34))
  have V0 := Lib.hid (RL.alloc (RL.alloc hv (.cells #[.int .i64 k, .slice A rs.length c] 29)) (.cells #[.int .i64 0, .int .i64 0, .int .i64 0, .int .i64 0] 34))
  clear x0 r0 e1 hv
  cases h : vioV k rs with
  | true =>
    rw [vbR_yes h]
    have Hc := Lib.hid (conn_ne (vio_conn h))
    go_enter Try.func14, Try.ntmps14
    go_wp2_with fail
    refine (vio_spec k _ rs _ V0.out).mono ?_
    rintro e w1 ⟨rfl, hb1⟩
    rw [h]
    have b1 := Lib.hid (B0.out.trans (hb1.mono B0.out.size))
    have x1 := Lib.hid (X0.out.on hb1)
    have r1 := Lib.hid (R0.out.on hb1)
    have v1 := Lib.hid (V0.out.on hb1)
    obtain ⟨c0, c1⟩ := box2 x1.out
    clear hb1 X0 R0 B0 V0 h
    go_wp2_with fail
    refine (box_spec _ rs _ v1.out Hc.out).mono ?_
    rintro e w2 ⟨rfl, hb2⟩
    have b2 := b1.out.trans (hb2.mono b1.out.size)
    have r2 := r1.out.on hb2
    clear hb2 x1 r1 v1 b1 c0 c1
    generalize hq : boxR rs = q at *
    obtain ⟨p0, p1, p2, p3⟩ := q
    have Hq := Lib.hid hq
    clear hq
    unfold Rc.val
    dsimp only
    have z0 := r2.frozen 0
    have z1 := r2.frozen 1
    have z2 := r2.frozen 2
    have z3 := r2.frozen 3
    obtain ⟨d0, d1, d2, d3⟩ := box4 r2
    have A1 := ((((r2.store 0 (.int .i64 p0)).store 1 (.int .i64 p1)).store 2 (.int .i64 p2)).store 3 (.int .i64 p3))
    have Hb := Lib.hid ((((b2.setCell (p := ⟨w.heap.size + 1, 0, none⟩) (Nat.le_succ _) (.int .i64 p0)).setCell (p := ⟨w.heap.size + 1, 1, none⟩) (Nat.le_succ _) (.int .i64 p1)).setCell (p := ⟨w.heap.size + 1, 2, none⟩) (Nat.le_succ _) (.int .i64 p2)).setCell (p := ⟨w.heap.size + 1, 3, none⟩) (Nat.le_succ _) (.int .i64 p3))
    have q0 := A1.cell 0
    have q1 := A1.cell 1
    have q2 := A1.cell 2
    have q3 := A1.cell 3
    simp at q0 q1 q2 q3
    clear r2 b2 A1
    go_wp2
    refine bodyPost_ret (v := .tuple #[.agg #[.int .i64 p0, .int .i64 p1, .int .i64 p2, .int .i64 p3], .bool true]) (by simp [results, Try.results14, go_sem, *]) rfl ?_
    exact ⟨by rw [Hq.out], Hb.out⟩
  | false =>
    rw [vbR_no h]
    go_enter Try.func14, Try.ntmps14
    go_wp2_with fail
    refine (vio_spec k _ rs _ V0.out).mono ?_
    rintro e w1 ⟨rfl, hb1⟩
    rw [h]
    have b2 := B0.out.trans (hb1.mono B0.out.size)
    have r2 := R0.out.on hb1
    clear hb1 X0 R0 B0 V0 h
    have z0 := r2.frozen 0
    have z1 := r2.frozen 1
    have z2 := r2.frozen 2
    have z3 := r2.frozen 3
    obtain ⟨d0, d1, d2, d3⟩ := box4 r2
    have A1 := ((((r2.store 0 (.int .i64 0)).store 1 (.int .i64 0)).store 2 (.int .i64 0)).store 3 (.int .i64 0))
    have Hb := Lib.hid ((((b2.setCell (p := ⟨w.heap.size + 1, 0, none⟩) (Nat.le_succ _) (.int .i64 0)).setCell (p := ⟨w.heap.size + 1, 1, none⟩) (Nat.le_succ _) (.int .i64 0)).setCell (p := ⟨w.heap.size + 1, 2, none⟩) (Nat.le_succ _) (.int .i64 0)).setCell (p := ⟨w.heap.size + 1, 3, none⟩) (Nat.le_succ _) (.int .i64 0))
    have q0 := A1.cell 0
    have q1 := A1.cell 1
    have q2 := A1.cell 2
    have q3 := A1.cell 3
    simp at q0 q1 q2 q3
    clear r2 b2 A1
    go_wp2
    refine bodyPost_ret (v := .tuple #[.agg #[.int .i64 0, .int .i64 0, .int .i64 0, .int .i64 0], .bool false]) (by simp [results, Try.results14, go_sem, *]) rfl ?_
    exact ⟨rfl, Hb.out⟩

end Go.Proofs.Ytbljapihmkmolaa
