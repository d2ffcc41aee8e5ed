/- Contracts: the number of occurrences, counted by the program and by the reference. Condition: a valid library. -/
import Derived.Test.YtgegbgkokkdmpaaGreatQ31
import Derived.Test.YtgegbgkokkdmpaaGreatQ30
import Derived.Deep.RegionLaw
import Derived.Deep.QuietTactic
import Derived.BigQuiet

namespace Go.Proofs.YtgegbgkokkdmpaaGreat
open Go.RowKit

set_option maxHeartbeats 3200000 in
set_option maxRecDepth 100000 in
/-- elementCount. -/
theorem count_impl (cs : List CellD) (hlib : libB cs = true) (lv : Value) (k : Nat) (w : World) (hk : k < cs.length) (hL : LibV w 0 lv cs) :
    Calls Tryz.prog 57 #[.agg #[lv], .int .i64 k] w fun e w' => e = .returned (.int .i64 (nOcc cs k)) ∧ Below w.heap.size w w' := by
  obtain ⟨AL, cL, rfl, hcap, hm⟩ := hL.form
  obtain ⟨gC, -, -, rfl, -⟩ := hL.elem hk
  have b1 := ((Below.refl w.heap.size w).alloc (Nat.le_refl _) (.cells #[.slice (some ⟨gC, 0, none⟩) cs.length cL] 26)).alloc (by simp) (.cells #[] 2)
  have l1 := IL.lit0 (w.alloc (.cells #[.slice (some ⟨gC, 0, none⟩) cs.length cL] 26)) (B := w.heap.size) (by simp)
  have e1 : (w.alloc (.cells #[.slice (some ⟨gC, 0, none⟩) cs.length cL] 26)).heap.size = w.heap.size + 1 := by simp
  have h8 : cs.length ≤ 8 := (lib_facts hlib).1.2
  rw [e1] at l1
  have HL := Lib.hid hL
  have ek := Go.IntWalk.i64_in ((k : Int) + 1) (by omega)
  have ek2 : (k : Int) + 1 ≤ (cL : Int) := by omega
  have ek3 : ((k : Int) + 1).toNat = k + 1 := by omega
  have hcL : k + 1 ≤ cL := by omega
  clear hL e1 hm
  go_enter Tryz.func57, Tryz.ntmps57
  go_wp2
  go_loopw [5, 18] (fun cv iv wr => ∃ n : Nat, n ≤ k + 1 ∧ iv = .int .i64 n ∧ IL wr w.heap.size cv (cntTo cs n) ∧ Below w.heap.size w wr) (fun _ iv _ => k + 1 - (intOf iv).toNat)
  case atStart => exact ⟨0, Nat.zero_le _, rfl, l1, b1⟩
  case round =>
    obtain ⟨wo, hwo⟩ : ∃ wo, wo = wr := ⟨_, rfl⟩
    subst hwo
    obtain ⟨n, hn, rfl, hC, hb⟩ := hrel
    clear l1 b1
    by_cases hlt : n < k + 1
    · have hnl : n < cs.length := by omega
      have hsz := hb.size
      obtain ⟨gC', c, ⟨us, ul, ui⟩, e0, hcell, hgl, f0, f1, f2, f3, h3⟩ := (HL.out.on hb).elem hnl
      obtain rfl : gC' = gC := by simpa using e0.symm
      obtain ⟨A1, k1, g1, -, -⟩ := h3.s.form
      obtain ⟨A2, k2, g2, -, -⟩ := h3.l.form
      obtain ⟨A3, k3, g3, -, -⟩ := h3.i.form
      dsimp only at g1 g2 g3 f0 f1 f2 f3
      subst g1 g2 g3
      have HI := Lib.hid h3.i
      dsimp only at HI
      have Hcell := Lib.hid hcell
      have zc := Bk.new wo 67 #[.string c.name, .slice A1 c.shapes.length k1, .slice A2 c.labels.length k2, .slice A3 c.insts.length k3]
      have bc := hb.alloc hb.size (.cells #[.string c.name, .slice A1 c.shapes.length k1, .slice A2 c.labels.length k2, .slice A3 c.insts.length k3] 67)
      have HI2 := Lib.hid (HI.out.alloc (.cells #[.string c.name, .slice A1 c.shapes.length k1, .slice A2 c.labels.length k2, .slice A3 c.insts.length k3] 67))
      have HC2 := Lib.hid (IL.alloc hC (.cells #[.string c.name, .slice A1 c.shapes.length k1, .slice A2 c.labels.length k2, .slice A3 c.insts.length k3] 67))
      have d3 := zc.cell 3
      obtain ⟨Ac, kc, g4, -, -⟩ := hC.form
      have hlen := cntTo_len (cs := cs) n (by omega)
      rw [hlen] at g4
      subst g4
      simp at d3
      clear e0 h3 hcell
      have hI8 : c.insts.length ≤ 8 := ((lib_facts hlib).2 n _ Hcell.out).2.1
      go_wp2
      obtain ⟨W2, hW2⟩ : ∃ W, W = wo.alloc (.cells #[.string c.name, .slice A1 c.shapes.length k1, .slice A2 c.labels.length k2, .slice A3 c.insts.length k3] 67) := ⟨_, rfl⟩
      rw [← hW2] at zc bc HI2 HC2 ⊢
      clear hW2 d3 f0 f1 f2 f3
      have hz2 := bc.size
      go_loopw [8, 25] (fun ov iv wr => ∃ j : Nat, j ≤ c.insts.length ∧ iv = .int .i64 j ∧ ov = .int .i64 (cntC (cntTo cs n) c j) ∧ Below W2.heap.size W2 wr) (fun _ iv _ => c.insts.length - (intOf iv).toNat)
      case atStart => exact ⟨0, Nat.zero_le _, rfl, by rw [cntC_zero], Below.refl _ _⟩
      case round =>
        obtain ⟨wp, hwp⟩ : ∃ wp, wp = wr := ⟨_, rfl⟩
        subst hwp
        obtain ⟨j, hj, rfl, rfl, hb2⟩ := hrel
        obtain ⟨v0, Hv0⟩ : ∃ v0, Hid (v0 = cntC (cntTo cs n) c j) := ⟨_, Lib.hid rfl⟩
        have hv0 := cntC_fit hlib Hcell.out j hj
        rw [← Hv0.out] at hv0 ⊢
        by_cases hjl : j < c.insts.length
        · obtain ⟨gI, cl, o, x, y, cols, rows, sx, sy, rfl, hi, hgI, a0, a1, a2, a3, a4, a5, a6, a7⟩ := InL.elem8 (FL.on HI2.out hb2) hjl
          obtain ⟨kc2, y0, e1, hkc, hy, hy1, hy2, hy3, hy4, hy5, hy6⟩ := cnt_step hlib Hcell.out hi
          dsimp only at e1 hy2 hy3 hy4 hy5 hy6
          subst e1
          obtain ⟨gc, y0', rfl, hy', hgc0, hgc, hcc⟩ := (IL.on HC2.out hb2).elem (k := kc2) (by omega)
          obtain rfl : y0' = y0 := by simpa using hy'.symm.trans hy
          have i1 := Go.IntWalk.i64_in (cols * rows) (by omega)
          have i2 := Go.IntWalk.i64_in (cols * rows * y0') (by omega)
          have i3 := Go.IntWalk.i64_in (v0 + cols * rows * y0') (by omega)
          have z9 := Bk.new wp 74 #[.int .i64 kc2, .int .i64 o, .int .i64 x, .int .i64 y, .int .i64 cols, .int .i64 rows, .int .i64 sx, .int .i64 sy]
          have b9 := hb2.alloc hb2.size (.cells #[.int .i64 kc2, .int .i64 o, .int .i64 x, .int .i64 y, .int .i64 cols, .int .i64 rows, .int .i64 sx, .int .i64 sy] 74)
          obtain ⟨q0, q1, q2, q3, q4, q5, q6, q7⟩ := box8 z9
          have hcc2 : (wp.alloc (.cells #[.int .i64 kc2, .int .i64 o, .int .i64 x, .int .i64 y, .int .i64 cols, .int .i64 rows, .int .i64 sx, .int .i64 sy] 74)).cell? ⟨gc, kc2, none⟩ = some (.int .i64 y0') := by
            exact ((bcellN ((Below.refl wp.heap.size wp).alloc (Nat.le_refl _) (.cells #[.int .i64 kc2, .int .i64 o, .int .i64 x, .int .i64 y, .int .i64 cols, .int .i64 rows, .int .i64 sx, .int .i64 sy] 74)) (Nat.le_refl _)).1 gc kc2 hgc).trans hcc
          clear hcc hb2
          go_upto_region 9 with fail
          go_quiet (fail)
          go_wp2
          exact ⟨⟨j + 1, by omega, by go_num, by rw [hy6, ← Hv0.out], below_drewN b9 _⟩, by simp [intOf]; omega⟩
        · obtain rfl : j = c.insts.length := by omega
          have hl2 : (cntTo cs n).length ≤ 1000000 := by omega
          have l3 := IL.on HC2.out hb2
          have b3 := bc.trans (hb2.mono hz2)
          go_wp2_with (at_builtin; refine wpList_append_I rfl (.tmp 43) (.tmp 45) rfl w.heap.size _ (cntTo cs n) rfl l3 v0 rfl hl2 b3.size ?_; intro v3 w3 h31 h32 h33)
          exact ⟨⟨n + 1, by omega, by go_num, by rw [cntTo_succ Hcell.out, ← Hv0.out]; exact h31, b3.trans h33⟩, by simp [intOf]; omega⟩
    · obtain rfl : n = k + 1 := by omega
      obtain ⟨Ac, kc, rfl, -, -⟩ := hC.form
      obtain ⟨gc, y0, rfl, hy', hgc0, hgc, hcc⟩ := hC.elem (k := k) (by rw [cntTo_len _ (by omega)]; omega)
      obtain rfl : y0 = nOcc cs k := by simpa using hy'.symm.trans (cntTo_get hlib (k + 1) (by omega) k (by omega))
      rw [cntTo_len _ (by omega)]
      go_wp2
      go_ret
      exact ⟨rfl, hb⟩

set_option maxHeartbeats 3200000 in
set_option maxRecDepth 100000 in
/-- l09Has. -/
theorem has9_any (cs : List CellD) (hN : ∀ c ∈ cs, NmOk c) (lv : Value) (k : Int) (w : World) (hl : cs.length ≤ 1000000) (hL : LibV w 0 lv cs) :
    Calls Tryz.prog 46 #[.agg #[lv], .int .i64 k] w fun e w' => e = .returned (.bool (libB cs && inB 0 k ((cs.length : Int) - 1))) ∧ Below w.heap.size w w' := by
  obtain ⟨A, c, rfl, -, hm⟩ := hL.form
  have b0 := (Below.refl w.heap.size w).alloc (Nat.le_refl _) (.cells #[.slice A cs.length c] 26)
  have z0 := Bk.new w 26 #[.slice A cs.length c]
  have i1 := Go.IntWalk.i64_in ((cs.length : Int) - 1) (by omega)
  have HS := Lib.hid (fun W (h : LibV W 0 (.slice A cs.length c) cs) => lib_spec _ cs W h hN)
  have hL1 := hL.on ((Below.refl w.heap.size w).alloc (Nat.le_refl _) (.cells #[.slice A cs.length c] 26))
  clear hL
  cases hv : libB cs with
  | true =>
    rw [hv] at HS
    rw [Bool.true_and]
    clear hv
    go_enter Tryz.func46, Tryz.ntmps46
    go_wp2_with (first | (go_at_call 45; (with_reducible refine (HS.out _ hL1).mono ?_); rintro e w1 ⟨rfl, hb1⟩; have z1 := (z0.on hb1).cell 0) | (go_at_call 69; (with_reducible refine (l09In_any k 0 ((cs.length : Int) - 1) _).mono ?_); rintro e w2 ⟨rfl, rfl⟩))
    go_ret
    exact ⟨rfl, b0.trans (hb1.mono b0.size)⟩
  | false =>
    rw [hv] at HS
    rw [Bool.false_and]
    clear hv
    go_enter Tryz.func46, Tryz.ntmps46
    go_wp2_with (go_at_call 45; (with_reducible refine (HS.out _ hL1).mono ?_); rintro e w1 ⟨rfl, hb1⟩)
    go_ret
    exact ⟨rfl, b0.trans (hb1.mono b0.size)⟩

set_option maxHeartbeats 3200000 in
set_option maxRecDepth 100000 in
/-- ElementCount of the reference. -/
theorem count_spec (cs : List CellD) (hlib : libB cs = true) (hN : ∀ c ∈ cs, NmOk c) (lv : Value) (k : Nat) (w : World) (hk : k < cs.length) (hL : LibV w 0 lv cs) :
    Calls Tryz.prog 47 #[.agg #[lv], .int .i64 k] w fun e w' => e = .returned (.int .i64 (nOcc cs k)) ∧ Below w.heap.size w w' := by
  have h8 : cs.length ≤ 8 := (lib_facts hlib).1.2
  have HH := Lib.hid (fun W (h : LibV W 0 lv cs) => has9_any cs hN lv (k : Int) W (by omega) h)
  rw [hlib, show inB 0 (k : Int) ((cs.length : Int) - 1) = true by unfold inB; rw [decide_eq_true]; omega, Bool.true_and] at HH
  obtain ⟨AL, cL, rfl, hcap, hm⟩ := hL.form
  obtain ⟨gC, -, -, rfl, -⟩ := hL.elem hk
  have b0 := (Below.refl w.heap.size w).alloc (Nat.le_refl _) (.cells #[.slice (some ⟨gC, 0, none⟩) cs.length cL] 26)
  have z0 := Bk.new w 26 #[.slice (some ⟨gC, 0, none⟩) cs.length cL]
  have HL := Lib.hid hL
  have hL1 := hL.on b0
  clear hL hm
  go_enter Tryz.func47, Tryz.ntmps47
  go_upto_region 3 with (go_at_call 46; (with_reducible refine (HH.out _ hL1).mono ?_); rintro e w1 ⟨rfl, hb1⟩)
  have b1 := b0.trans (hb1.mono b0.size)
  have z1 := z0.on hb1
  have hs1 := b1.size
  have l1 := IL.lit0 w1 hs1
  have z2 := z1.alloc (.cells #[] 2)
  have b2 := b1.alloc hs1 (.cells #[] 2)
  clear b0 z0 hb1 hL1 b1 z1
  go_wp2
  go_loopw [5, 6] (fun cv iv wr => ∃ n : Nat, n ≤ cs.length ∧ iv = .int .i64 n ∧ IL wr w.heap.size cv (cntTo cs n) ∧ Bk wr w.heap.size 26 #[.slice (some ⟨gC, 0, none⟩) cs.length cL] ∧ Below w.heap.size w wr) (fun _ iv _ => cs.length - (intOf iv).toNat)
  case atStart => exact ⟨0, Nat.zero_le _, rfl, l1, z2, b2⟩
  case round =>
    obtain ⟨wo, hwo⟩ : ∃ wo, wo = wr := ⟨_, rfl⟩
    subst hwo
    obtain ⟨n, hn, rfl, hC, hz, hb⟩ := hrel
    clear l1 b2 z2 hs1
    have d0 := hz.cell 0
    simp at d0
    by_cases hlt : n < cs.length
    · have hsz := hb.size
      obtain ⟨gC', c, ⟨us, ul, ui⟩, e0, hcell, hgl, f0, f1, f2, f3, h3⟩ := (HL.out.on hb).elem hlt
      obtain rfl : gC' = gC := by simpa using e0.symm
      obtain ⟨A3, k3, g3, -, -⟩ := h3.i.form
      dsimp only at g3 f0 f1 f2 f3
      subst g3
      have HI := Lib.hid h3.i
      dsimp only at HI
      have Hcell := Lib.hid hcell
      have HC2 := Lib.hid hC
      obtain ⟨Ac, kc, g4, -, -⟩ := hC.form
      have hlen := cntTo_len (cs := cs) n (by omega)
      rw [hlen] at g4
      subst g4
      clear e0 h3 hcell f0 f1 f2
      have hI8 : c.insts.length ≤ 8 := ((lib_facts hlib).2 n _ Hcell.out).2.1
      go_wp2
      clear f3 d0
      go_loopw [7, 9] (fun ov iv wr => ∃ j : Nat, j ≤ c.insts.length ∧ iv = .int .i64 j ∧ ov = .int .i64 (cntC (cntTo cs n) c j) ∧ Below wo.heap.size wo wr) (fun _ iv _ => c.insts.length - (intOf iv).toNat)
      case atStart => exact ⟨0, Nat.zero_le _, rfl, by rw [cntC_zero], Below.refl _ _⟩
      case round =>
        obtain ⟨wp, hwp⟩ : ∃ wp, wp = wr := ⟨_, rfl⟩
        subst hwp
        obtain ⟨j, hj, rfl, rfl, hb2⟩ := hrel
        obtain ⟨v0, Hv0⟩ : ∃ v0, Hid (v0 = cntC (cntTo cs n) c j) := ⟨_, Lib.hid rfl⟩
        have hv0 := cntC_fit hlib Hcell.out j hj
        rw [← Hv0.out] at hv0 ⊢
        by_cases hjl : j < c.insts.length
        · obtain ⟨gI, cl, o, x, y, cols, rows, sx, sy, rfl, hi, hgI, a0, a1, a2, a3, a4, a5, a6, a7⟩ := InL.elem8 (FL.on HI.out hb2) hjl
          obtain ⟨kc2, y0, e1, hkc, hy, hy1, hy2, hy3, hy4, hy5, hy6⟩ := cnt_step hlib Hcell.out hi
          dsimp only at e1 hy2 hy3 hy4 hy5 hy6
          subst e1
          obtain ⟨gc, y0', rfl, hy', hgc0, hgc, hcc⟩ := (IL.on HC2.out hb2).elem (k := kc2) (by omega)
          obtain rfl : y0' = y0 := by simpa using hy'.symm.trans hy
          have i1 := Go.IntWalk.i64_in (cols * rows) (by omega)
          have i2 := Go.IntWalk.i64_in (cols * rows * y0') (by omega)
          have i3 := Go.IntWalk.i64_in (v0 + cols * rows * y0') (by omega)
          clear a1 a2 a3 a6 a7
          go_upto_region 12 with fail
          go_quiet (fail)
          go_wp2
          exact ⟨⟨j + 1, by omega, by go_num, by rw [hy6, ← Hv0.out], below_drewN hb2 _⟩, by simp [intOf]; omega⟩
        · obtain rfl : j = c.insts.length := by omega
          have hl2 : (cntTo cs n).length ≤ 1000000 := by omega
          have l3 := IL.on HC2.out hb2
          have hz3 := hz.on hb2
          have b3 := hb.trans (hb2.mono hsz)
          go_wp2_with (at_builtin; refine wpList_append_I rfl (.tmp 56) (.tmp 58) rfl w.heap.size _ (cntTo cs n) rfl l3 v0 rfl hl2 b3.size ?_; intro v3 w3 h31 h32 h33)
          exact ⟨⟨n + 1, by omega, by go_num, by rw [cntTo_succ Hcell.out, ← Hv0.out]; exact h31, hz3.grown h32 (not_row l3 hz3 (by decide)), b3.trans h33⟩, by simp [intOf]; omega⟩
    · obtain rfl : n = cs.length := by omega
      obtain ⟨Ac, kc, rfl, -, -⟩ := hC.form
      obtain ⟨gc, y0, rfl, hy', hgc0, hgc, hcc⟩ := hC.elem (k := k) (by rw [cntTo_len _ (by omega)]; omega)
      obtain rfl : y0 = nOcc cs k := by simpa using hy'.symm.trans (cntTo_get hlib cs.length (by omega) k (by omega))
      rw [cntTo_len _ (by omega)]
      go_wp2
      go_ret
      exact ⟨rfl, hb⟩

end Go.Proofs.YtgegbgkokkdmpaaGreat
