/- Contract: FlattenShapes of the program. Condition: the flattened cell is well. Contracts: the layout of a list of shapes, of the reference and of the program. Condition: valid boxes. -/
import Derived.Test.YtgegbgkokkdmpaaGreatQ35

namespace Go.Proofs.YtgegbgkokkdmpaaGreat
open Go.RowKit

theorem o_allocF (w : World) (o : Obj) : Below w.heap.size w (w.alloc o) := (Below.refl _ _).alloc (Nat.le_refl _) o
set_option maxHeartbeats 3200000 in
set_option maxRecDepth 100000 in
/-- FlattenShapes of the program. -/
theorem flat_impl (cs : List CellD) (hN : ∀ c ∈ cs, NmOk c) (lv : Value) (k : Nat) (hok : flatOk cs (k : Int)) (w : World) (hL : LibV w 0 lv cs) :
    Calls Tryz.prog 33 #[.agg #[lv], .int .i64 k] w fun e w' => ∃ v, e = .returned (.tuple #[v, .int .i64 0]) ∧ ShL w' w.heap.size v (flS cs (occK cs (k : Int))) ∧ Below w.heap.size w w' := by
  obtain ⟨hv, hk, hn, ht, hsh⟩ := hok
  have HO := Lib.hid (fun W (h : LibV W 0 lv cs) => occs_impl cs hN lv k ⟨hv, hk, hn, ht⟩ W h)
  have hkl : k < cs.length := by omega
  have h8 : cs.length ≤ 8 := (lib_facts hv).1.2
  obtain ⟨os, Hos⟩ : ∃ os, Hid (os = occK cs (k : Int)) := ⟨_, Lib.hid rfl⟩
  have HOC := Lib.hid (fun (i : Nat) (o : OcD) (h : os[i]? = some o) => occK_cell hv hkl (by rw [← Hos.out]; exact h))
  have HLN := Lib.hid (fun (i : Nat) (o : OcD) (j : Nat) (h : os[i]? = some o) => show (flAt cs os i o j).length ≤ 10000 by rw [Hos.out]; exact flAt_len hv hkl (by rw [← Hos.out]; exact h) hn)
  have HT := Lib.hid (fun (i : Nat) (o : OcD) (h : os[i]? = some o) => trans_small (ht o (by rw [← Hos.out]; exact List.mem_of_getElem? h)))
  have HV := Lib.hid (fun (i : Nat) (o : OcD) (s : ShapeD) (h : os[i]? = some o) (h2 : s ∈ shAt cs o.cell) => show okRc (mvS o.t s).box = true from hsh (rootP o.path, mvS o.t s) (by
    rw [← Hos.out]
    exact List.mem_flatMap.2 ⟨o, List.mem_of_getElem? h, List.mem_map_of_mem h2⟩))
  obtain ⟨AL, cL, rfl, hcap, hm⟩ := hL.form
  have b0 := (Below.refl w.heap.size w).alloc (Nat.le_refl _) (.cells #[.slice AL cs.length cL] 26)
  have z0 := Bk.new w 26 #[.slice AL cs.length cL]
  have hL1 := hL.on b0
  have hs0 := b0.size
  have HL := Lib.hid hL
  have Hn : Hid (os.length ≤ 200) := Lib.hid (by rw [Hos.out]; exact hn)
  rw [← Hos.out]
  clear hL hm hN ht hsh hn
  go_enter Tryz.func33, Tryz.ntmps33
  go_upto_region 2 with (go_at_call 34; (with_reducible refine (HO.out _ hL1).mono ?_); rintro e w1 ⟨v1, qs, rfl, hQ, HQ, hb1⟩)
  have b1 := b0.trans (hb1.mono hs0)
  have z1 := z0.on hb1
  have HQ1 : Hid (qs.map Prod.fst = os) := Lib.hid (by rw [Hos.out]; exact HQ.out)
  have hq200 : qs.length ≤ 200 := by
    have := congrArg List.length HQ1.out
    rw [List.length_map] at this
    have := Hn.out
    omega
  obtain ⟨AQ, cQ, rfl, -, -⟩ := hQ.form
  have HQ2 := Lib.hid hQ
  have b2 := (Below.refl w1.heap.size w1).alloc (Nat.le_refl _) (.cells #[] 70)
  have l2 : ShL (w1.alloc (.cells #[] 70)) w1.heap.size (.slice (some ⟨w1.heap.size, 0, none⟩) 0 0) [] := FL.lit9 w1 (Nat.le_refl _)
  have hs1 := b1.size
  clear hQ HQ HO b0 hL1 hs0
  go_wp2
  go_loopw [8, 26] (fun lw iv wr => ∃ i : Nat, i ≤ qs.length ∧ iv = .int .i64 i ∧ ShL wr w1.heap.size lw (flS cs (os.take i)) ∧ Below w1.heap.size w1 wr) (fun _ iv _ => qs.length - (intOf iv).toNat)
  case atStart => exact ⟨0, Nat.zero_le _, rfl, by rw [show flS cs (os.take 0) = [] by simp [flS]]; exact l2, b2⟩
  case round =>
    obtain ⟨wo, hwo⟩ : ∃ wo, wo = wr := ⟨_, rfl⟩
    subst hwo
    obtain ⟨i, hi, rfl, hR, hb⟩ := hrel
    clear l2 b2
    by_cases hlt : i < qs.length
    · obtain ⟨gQ, oc, tO, tx, ty, pa, Ap, cp, rfl, hp, hg, A0, A1', A2', A3', A4', -⟩ := HQ2.out.elem5 hlt
      have a0 := bcell1 hb hg A0
      have a1 := bcell1 hb hg A1'
      have a2 := bcell1 hb hg A2'
      have a3 := bcell1 hb hg A3'
      have a4 := bcell1 hb hg A4'
      clear A0 A1' A2' A3' A4'
      have hgo := Nat.lt_of_lt_of_le hg hb.size
      have ho : os[i]? = some ⟨oc, ⟨tO, tx, ty⟩, pa⟩ := by rw [← HQ1.out, List.getElem?_map, hp]; rfl
      obtain ⟨kc, e1, hkc⟩ := HOC.out i _ ho
      dsimp only at e1
      subst e1
      have bw := b1.trans (hb.mono hs1)
      obtain ⟨gC, c, ⟨us, ul, ui⟩, rfl, hcell, hgl, F0, F1, F2, F3, h3⟩ := HL.out.elem hkc
      have f1 := bcell1 bw hgl F1
      clear F0 F1 F2 F3
      have hglo := Nat.lt_of_lt_of_le hgl bw.size
      obtain ⟨A1, k1, g1, -, -⟩ := h3.s.form
      dsimp only at g1 f1
      subst g1
      have HSh := Lib.hid h3.s
      dsimp only at HSh
      have Ho := Lib.hid ho
      have Hcell := Lib.hid hcell
      have d0 := (z1.on hb).cell 0
      simp at d0
      have hw0 := (z1.on hb).lt
      have zo := Bk.new wo 80 #[.int .i64 kc, .int .i64 tO, .int .i64 tx, .int .i64 ty, .slice Ap pa.length cp]
      have bo := hb.alloc hb.size (.cells #[.int .i64 kc, .int .i64 tO, .int .i64 tx, .int .i64 ty, .slice Ap pa.length cp] 80)
      have lo := FL.alloc hR (.cells #[.int .i64 kc, .int .i64 tO, .int .i64 tx, .int .i64 ty, .slice Ap pa.length cp] 80)
      obtain ⟨q0, q1, q2, q3, q4⟩ := box5o zo
      have HSA := Lib.hid (shAt_of Hcell.out)
      obtain ⟨o9, Ho9⟩ : ∃ o9 : OcD, Hid (o9 = ⟨(kc : Int), ⟨tO, tx, ty⟩, pa⟩) := ⟨_, Lib.hid rfl⟩
      have HSB : Hid (shAt cs o9.cell = c.shapes) := Lib.hid (by rw [Ho9.out]; exact HSA.out)
      have HO9 : Hid (os[i]? = some o9) := Lib.hid (by rw [Ho9.out]; exact Ho.out)
      have HSv := Lib.hid (((lib_facts hv).2 kc c Hcell.out).2.2.1)
      have h24 : c.shapes.length ≤ 24 := ((lib_facts hv).2 kc c Hcell.out).1
      clear h3 hcell ho hp
      go_upto_region 8 with fail
      clear a0 a1 a2 a3 a4
      obtain ⟨W3, hW3⟩ : ∃ W, W = wo.alloc (.cells #[.int .i64 kc, .int .i64 tO, .int .i64 tx, .int .i64 ty, .slice Ap pa.length cp] 80) := ⟨_, rfl⟩
      have f1' := bcell1 (o_allocF wo (.cells #[.int .i64 kc, .int .i64 tO, .int .i64 tx, .int .i64 ty, .slice Ap pa.length cp] 80)) hglo f1
      have d0' := bcell1 (o_allocF wo (.cells #[.int .i64 kc, .int .i64 tO, .int .i64 tx, .int .i64 ty, .slice Ap pa.length cp] 80)) hw0 d0
      rw [← hW3] at zo bo lo q0 q1 q2 q3 q4 f1' d0' ⊢
      clear hW3 f1 d0
      go_wp2
      clear f1' d0' q0 q1 q2 q3 q4
      go_loopw [8, 38] (fun lw jv wr => ∃ j : Nat, j ≤ c.shapes.length ∧ jv = .int .i64 j ∧ ShL wr w1.heap.size lw (flAt cs os i o9 j) ∧ Bk wr wo.heap.size 80 #[.int .i64 kc, .int .i64 tO, .int .i64 tx, .int .i64 ty, .slice Ap pa.length cp] ∧ Below w1.heap.size w1 wr) (fun _ jv _ => c.shapes.length - (intOf jv).toNat)
      case atStart => exact ⟨0, Nat.zero_le _, rfl, by rw [flAt_zero]; exact lo, zo, bo⟩
      case round =>
        obtain ⟨wp, hwp⟩ : ∃ wp, wp = wr := ⟨_, rfl⟩
        subst hwp
        clear lo zo bo
        obtain ⟨j, hj, rfl, hR, hz, hb3⟩ := hrel
        by_cases hjl : j < c.shapes.length
        · have hb4 := b1.trans (hb3.mono hs1)
          obtain ⟨gS, l, x0, y0, x1, y1, rfl, hs, hgS, s0, s1, s2, s3, s4⟩ := ShL.elem5 (FL.on HSh.out hb4) hjl
          have Hok := Lib.hid (shape_ok (HSv.out _ (List.mem_of_getElem? hs)))
          have HR10 := Lib.hid (fun W => moveRect_any ⟨tO, tx, ty⟩ ⟨x0, y0, x1, y1⟩ (HT.out i _ Ho.out) Hok.out W)
          have Hfs := Lib.hid (flAt_succ (os := os) (i := i) (o := o9) (j := j) (s := ⟨l, ⟨x0, y0, x1, y1⟩⟩) (by rw [HSB.out]; exact hs))
          have Hmv : Hid (mvS o9.t ⟨l, ⟨x0, y0, x1, y1⟩⟩ = ⟨l, moveR ⟨tO, tx, ty⟩ ⟨x0, y0, x1, y1⟩⟩) := Lib.hid (by rw [Ho9.out]; rfl)
          have hokr := HV.out i o9 ⟨l, ⟨x0, y0, x1, y1⟩⟩ HO9.out (by rw [HSB.out]; exact List.mem_of_getElem? hs)
          rw [Hmv.out] at hokr
          dsimp only at hokr
          obtain ⟨⟨r0, r1, r2, r3⟩, hr⟩ : ∃ r : Rc, r = moveR ⟨tO, tx, ty⟩ ⟨x0, y0, x1, y1⟩ := ⟨_, rfl⟩
          rw [← hr] at HR10 Hmv hokr
          have HC := Lib.hid (show ∀ W : World, Calls Tryz.prog 54 #[.agg #[.int .i64 tO, .int .i64 tx, .int .i64 ty], .agg #[.int .i64 x0, .int .i64 y0, .int .i64 x1, .int .i64 y1]] W fun e w' => e = .returned (.agg #[.int .i64 r0, .int .i64 r1, .int .i64 r2, .int .i64 r3]) ∧ Below W.heap.size W w' from HR10.out)
          have HV9 := Lib.hid (fun W => valid_impl ⟨r0, r1, r2, r3⟩ W)
          rw [hokr] at HV9
          unfold Rc.val at HV9
          dsimp only at HV9
          clear hr HR10 hs hokr
          obtain ⟨AR2, cR2, rfl, -, -⟩ := hR.form
          have zs := Bk.new wp 70 #[.int .i64 l, .int .i64 x0, .int .i64 y0, .int .i64 x1, .int .i64 y1]
          have zp := hz.alloc (.cells #[.int .i64 l, .int .i64 x0, .int .i64 y0, .int .i64 x1, .int .i64 y1] 70)
          have bp := hb3.alloc hb3.size (.cells #[.int .i64 l, .int .i64 x0, .int .i64 y0, .int .i64 x1, .int .i64 y1] 70)
          have lp := FL.alloc hR (.cells #[.int .i64 l, .int .i64 x0, .int .i64 y0, .int .i64 x1, .int .i64 y1] 70)
          obtain ⟨p0, p1, p2, p3, p4⟩ := box5o zs
          obtain ⟨q0, q1, q2, q3, q4⟩ := box5o zp
          have hlen := HLN.out i o9 j HO9.out
          have hlen2 : (flAt cs os i o9 j).length ≤ 1000000 := by omega
          go_upto_region 11 with fail
          obtain ⟨W5, hW5⟩ : ∃ W, W = wp.alloc (.cells #[.int .i64 l, .int .i64 x0, .int .i64 y0, .int .i64 x1, .int .i64 y1] 70) := ⟨_, rfl⟩
          rw [← hW5] at zs zp bp lp p0 p1 p2 p3 p4 q0 q1 q2 q3 q4 ⊢
          clear hW5 s0 s1 s2 s3 s4
          go_upto_region 12 with (go_at_call 54; (with_reducible refine (HC.out _).mono ?_); rintro e W6 ⟨rfl, hb6⟩)
          have b6 := bp.trans (hb6.mono bp.size)
          have zr := Bk.new W6 60 #[.int .i64 r0, .int .i64 r1, .int .i64 r2, .int .i64 r3]
          have zs6 := (zs.on hb6).alloc (.cells #[.int .i64 r0, .int .i64 r1, .int .i64 r2, .int .i64 r3] 60)
          have zp6 := (zp.on hb6).alloc (.cells #[.int .i64 r0, .int .i64 r1, .int .i64 r2, .int .i64 r3] 60)
          have l6 := FL.alloc (FL.on lp hb6) (.cells #[.int .i64 r0, .int .i64 r1, .int .i64 r2, .int .i64 r3] 60)
          have b7 := b6.alloc b6.size (.cells #[.int .i64 r0, .int .i64 r1, .int .i64 r2, .int .i64 r3] 60)
          obtain ⟨v0, v1, v2, v3⟩ := box4 zr
          obtain ⟨W7, hW7⟩ : ∃ W, W = W6.alloc (.cells #[.int .i64 r0, .int .i64 r1, .int .i64 r2, .int .i64 r3] 60) := ⟨_, rfl⟩
          rw [← hW7] at zr zs6 zp6 l6 b7 v0 v1 v2 v3 ⊢
          clear hW7 p0 p1 p2 p3 p4 q0 q1 q2 q3 q4 zs zp bp lp b6
          go_upto_region 14 with (go_at_call 55; (with_reducible refine (HV9.out _).mono ?_); rintro e W8 ⟨rfl, hb8⟩)
          have b8 := b7.trans (hb8.mono b7.size)
          have l8 := FL.on l6 hb8
          have z8 := zp6.on hb8
          have e0 := (box5o (zs6.on hb8)).1
          obtain ⟨u0, u1, u2, u3⟩ := box4 (zr.on hb8)
          clear zr zs6 zp6 l6 b7 v0 v1 v2 v3
          go_wp2_with (at_builtin; refine wpList_append_F (t := 70) (n := 5) (enc := ShapeD.vals) rfl (.tmp 50) (.tmp 55) 46 40 _ infoShape Tryz.underlying46 rfl (by decide) (by decide) rfl w1.heap.size _ (flAt cs os i o9 j) ⟨l, ⟨r0, r1, r2, r3⟩⟩ rfl l8 rfl (shapeV_one _) rfl hlen2 b8.size ?_; intro v' w9 k1 k2)
          have l9 := FL.alloc l8 (.cells (ShapeD.vals ⟨l, ⟨r0, r1, r2, r3⟩⟩).toArray 70)
          have z9 := (z8.alloc (.cells (ShapeD.vals ⟨l, ⟨r0, r1, r2, r3⟩⟩).toArray 70))
          have b9 := b8.alloc b8.size (.cells (ShapeD.vals ⟨l, ⟨r0, r1, r2, r3⟩⟩).toArray 70)
          exact ⟨⟨j + 1, by omega, by go_num, by rw [Hfs.out, Hmv.out]; exact k1, z9.grown k2 (not_row l9 z9 (by decide)), b9.grown k2 b9.size (fun q hq => (World.ownsRow.lt l9 _ hq).1)⟩, by simp [intOf]; omega⟩
        · have hje : j = c.shapes.length := by omega
          go_wp2
          have hfa := flAt_all (j := j) HO9.out (by rw [HSB.out]; exact hje)
          exact ⟨⟨i + 1, by omega, by go_num, by rw [← hfa]; exact hR, hb3⟩, by simp [intOf]; omega⟩
    · obtain rfl : i = qs.length := by omega
      have hol : os.take qs.length = os := List.take_of_length_le (by rw [← HQ1.out, List.length_map]; exact Nat.le_refl _)
      rw [hol] at hR
      obtain ⟨AR, cR, rfl, -, -⟩ := hR.form
      have HR2 := Lib.hid hR
      clear hR hol
      go_wp2
      refine bodyPost_ret (v := .tuple #[.slice AR (flS cs os).length cR, .int .i64 0]) (by simp [results, Tryz.results33, go_sem, *]) rfl ?_
      exact ⟨_, rfl, FL.less HR2.out hs1, b1.trans (hb.mono hs1)⟩

end Go.Proofs.YtgegbgkokkdmpaaGreat

namespace Go.Proofs.YtgegbgkokkdmpaaGreat
open Go.RowKit

theorem layG_snoc {l : List ShapeD} {k : Int} {n : Nat} {s : ShapeD} (h : l[n]? = some s) : layG (l.take (n + 1)) k = if s.layer = k then orR (layG (l.take n) k) s.box else layG (l.take n) k := by
  unfold layG
  rw [List.take_add_one, h, Option.toList_some, List.filter_append, List.map_append]
  by_cases e : s.layer = k
  · rw [if_pos e, List.filter_cons_of_pos (by simpa using e), List.filter_nil]
    exact cellsG_snoc _ _
  · rw [if_neg e, List.filter_cons_of_neg (by simpa using e), List.filter_nil, List.map_nil, List.append_nil]
theorem layG_nil (l : List ShapeD) (k : Int) : layG (l.take 0) k = cellsG [] := by simp [layG]
theorem RLL.lit9 (w : World) {B : Nat} (hB : B ≤ w.heap.size) : RLL (w.alloc (.cells #[] 38)) B (.slice (some ⟨w.heap.size, 0, none⟩) 0 0) [] := ⟨[], World.ownsRow_lit w #[] 0 hB (by simp [maxLen]) rfl, rfl, fun k u rs hu => by simp at hu⟩

set_option maxHeartbeats 3200000 in
set_option maxRecDepth 100000 in
/-- l10Layout. -/
theorem lay10_any (v : Value) (l : List ShapeD) (w : World) (hv : ShL w 0 v l) (hok : ∀ s ∈ l, okRc s.box = true) (hl : l.length ≤ 1000000) :
    Calls Tryz.prog 15 #[v] w fun e w' => ∃ u, e = .returned u ∧ RLL w' w.heap.size u (layL l 8) ∧ Below w.heap.size w w' := by
  obtain ⟨A, c, rfl, hc, hm⟩ := hv.form
  have Hok := Lib.hid hok
  have HV := Lib.hid hv
  have l0 := RLL.lit9 w (Nat.le_refl _)
  have b0 := o_allocF w (.cells #[] 38)
  clear hok hv hm
  go_enter Tryz.func15, Tryz.ntmps15
  go_wp2
  go_loopw [3, 4] (fun ov kv wr => ∃ k : Nat, k ≤ 8 ∧ kv = .int .i64 k ∧ RLL wr w.heap.size ov (layL l k) ∧ Below w.heap.size w wr) (fun _ kv _ => 8 - (intOf kv).toNat)
  case atStart => exact ⟨0, Nat.zero_le _, rfl, l0, b0⟩
  case round =>
    obtain ⟨W0, hW0⟩ : ∃ W0, W0 = wr := ⟨_, rfl⟩
    subst hW0
    obtain ⟨k, hk, rfl, hR, hb⟩ := hrel
    clear l0 b0
    by_cases hlt : k < 8
    · have hkz : (k : Int) < 8 := by omega
      obtain ⟨AO, cO, rfl, -, -⟩ := hR.form
      have HR := Lib.hid hR
      have hs0 := hb.size
      go_upto_region 6 with (go_at_call 31; (with_reducible refine (l03Bits_any (.slice none 0 0) [] _ (RL.nil _ _) rfl).mono ?_); rintro e w1 ⟨u1, rfl, ⟨gb, cb, rfl, hgb, hG1⟩, hb1⟩)
      rw [← layG_nil l (k : Int)] at hG1
      go_wp2
      go_loopw [6] (fun iv wr => ∃ i : Nat, i ≤ l.length ∧ iv = .int .i64 i ∧ GB wr gb 4 (layG (l.take i) (k : Int)) ∧ Below W0.heap.size W0 wr) (fun iv _ => l.length - (intOf iv).toNat)
      case atStart => exact ⟨0, Nat.zero_le _, rfl, hG1, hb1⟩
      case round =>
        obtain ⟨w2, hw2⟩ : ∃ w2, w2 = wr := ⟨_, rfl⟩
        subst hw2
        clear hG1 hb1
        obtain ⟨i, hi, rfl, hG, hb2⟩ := hrel
        by_cases hil : i < l.length
        · have hbw := hb.trans (hb2.mono hs0)
          obtain ⟨gS, sl, x0, y0, x1, y1, rfl, hs, hgS, S0, S1, S2, S3, S4⟩ := ShL.elem5 HV.out hil
          have s0 := bcell1 hbw hgS S0
          have s1 := bcell1 hbw hgS S1
          have s2 := bcell1 hbw hgS S2
          have s3 := bcell1 hbw hgS S3
          have s4 := bcell1 hbw hgS S4
          have Hs := Lib.hid hs
          have hval := (okRc_iff _).1 (Hok.out _ (List.mem_of_getElem? hs))
          dsimp only at hval
          have HSC := Lib.hid (fun (W : World) (h : Below w.heap.size w W) => bcell1 h hgS S0)
          clear S0 S1 S2 S3 S4
          have zr := Bk.new w2 60 #[.int .i64 x0, .int .i64 y0, .int .i64 x1, .int .i64 y1]
          have br := hb2.alloc hb2.size (.cells #[.int .i64 x0, .int .i64 y0, .int .i64 x1, .int .i64 y1] 60)
          have Gr0 := hG.alloc (.cells #[.int .i64 x0, .int .i64 y0, .int .i64 x1, .int .i64 y1] 60)
          have hne : gb ≠ w2.heap.size := by have := hG.lt; omega
          clear hs
          go_upto_region 10 with fail
          obtain ⟨W3, hW3⟩ : ∃ W, W = w2.alloc (.cells #[.int .i64 x0, .int .i64 y0, .int .i64 x1, .int .i64 y1] 60) := ⟨_, rfl⟩
          rw [← hW3] at zr br Gr0 ⊢
          clear hW3 s0 s1 s2 s3 s4
          obtain ⟨c0, c1, c2, c3⟩ := box4 zr
          go_wp2
          clear c0 c1 c2 c3
          by_cases hly : sl = (k : Int)
          · have Hly := Lib.hid hly
            have hlb : (sl == (k : Int)) = true := by simpa using hly
            clear hly
            go_loopw [8] (fun yv wi => ∃ y : Int, y0 ≤ y ∧ y ≤ y1 ∧ yv = .int .i64 y ∧ GB wi gb 4 (orR (layG (l.take i) (k : Int)) ⟨x0, y0, x1, y⟩) ∧ Bk wi w2.heap.size 60 #[.int .i64 x0, .int .i64 y0, .int .i64 x1, .int .i64 y1] ∧ Below W0.heap.size W0 wi) (fun yv _ => (40 - intOf yv).toNat)
            case atStart => exact ⟨y0, by omega, by omega, rfl, by rw [orR_empty _ _ (.inr (Int.le_refl _))]; exact Gr0, zr, br⟩
            case round =>
              obtain ⟨w4, hw4⟩ : ∃ w4, w4 = wr := ⟨_, rfl⟩
              subst hw4
              obtain ⟨y, hy0, hy1, rfl, hG', hz, hb4⟩ := hrel
              clear zr br Gr0
              have s0 := HSC.out w4 (hb.trans (hb4.mono hs0))
              obtain ⟨c0, c1, c2, c3⟩ := box4 hz
              have iy := Go.IntWalk.i64_in (y + 1) (by omega)
              by_cases hy : y < y1
              · go_wp2
                clear c0 c1 c2 c3 s0
                go_loopw [9] (fun xv wj => ∃ x : Int, x0 ≤ x ∧ x ≤ x1 ∧ xv = .int .i64 x ∧ GB wj gb 4 (orR (orR (layG (l.take i) (k : Int)) ⟨x0, y0, x1, y⟩) ⟨x0, y, x, y + 1⟩) ∧ Bk wj w2.heap.size 60 #[.int .i64 x0, .int .i64 y0, .int .i64 x1, .int .i64 y1] ∧ Below W0.heap.size W0 wj) (fun xv _ => (40 - intOf xv).toNat)
                case atStart => exact ⟨x0, by omega, by omega, rfl, by rw [orR_empty _ ⟨x0, y, x0, y + 1⟩ (.inl (Int.le_refl _))]; exact hG', hz, hb4⟩
                case round =>
                  obtain ⟨w5, hw5⟩ : ∃ w5, w5 = wr := ⟨_, rfl⟩
                  subst hw5
                  clear hG' hz hb4
                  obtain ⟨x, hx0, hx1, rfl, hG2, hz, hb5⟩ := hrel
                  obtain ⟨c0, c1, c2, c3⟩ := box4 hz
                  have ix1 := Go.IntWalk.i64_in (x + 1) (by omega)
                  by_cases hx : x < x1
                  · have hon : onC x y = true := (onC_iff x y).2 (by omega)
                    have hc5 := hG2.ix_ hon
                    have hz5 := hG2.frozen (ix x y).toNat
                    have Hon := Lib.hid hon
                    have i1 := Go.IntWalk.i64_in (y + 40) (by omega)
                    have i2 := Go.IntWalk.i64_in ((y + 40) * 80) (by omega)
                    have i3 := Go.IntWalk.i64_in ((y + 40) * 80 + x) (by omega)
                    have i4 := Go.IntWalk.i64_in ((y + 40) * 80 + x + 40) (by omega)
                    have hi5 : 0 ≤ (y + 40) * 80 + x + 40 ∧ (y + 40) * 80 + x + 40 < 6400 := by omega
                    clear hon
                    unfold ix at hc5 hz5
                    have hst := (hG2.store (j := (ix x y).toNat) (by unfold ix; omega) true).cong (orR_step (by omega) hx0 Hon.out)
                    have hzt := hz.other (p := ⟨gb, (ix x y).toNat, none⟩) (Ne.symm hne) (.bool true)
                    have hbt := hb5.setCell (p := ⟨gb, (ix x y).toNat, none⟩) hgb (.bool true)
                    unfold ix at hst hzt hbt
                    go_wp2
                    exact ⟨⟨x + 1, by omega, by omega, rfl, hst, hzt, hbt⟩, by simp [intOf]; omega⟩
                  · go_wp2
                    have hxe : x = x1 := by omega
                    refine ⟨⟨y + 1, by omega, by omega, rfl, ?_, hz, hb5⟩, by simp [intOf]; omega⟩
                    rw [hxe] at hG2
                    exact hG2.cong (orR_row _ _ _ _ _ hy0)
              · go_wp2
                have hye : y = y1 := by omega
                refine ⟨⟨i + 1, by omega, by go_num, ?_, hb4⟩, by simp [intOf]; omega⟩
                rw [hye] at hG'
                rw [layG_snoc Hs.out, if_pos Hly.out]
                exact hG'
          · have Hly := Lib.hid hly
            have hlb : (sl == (k : Int)) = false := by simpa using hly
            clear hly
            go_loopw [8] (fun yv wi => yv = .int .i64 y0 ∧ GB wi gb 4 (layG (l.take i) (k : Int)) ∧ Below W0.heap.size W0 wi) (fun yv _ => 0)
            case atStart => exact ⟨rfl, Gr0, br⟩
            case round =>
              obtain ⟨w4, hw4⟩ : ∃ w4, w4 = wr := ⟨_, rfl⟩
              subst hw4
              obtain ⟨rfl, hG', hb4⟩ := hrel
              clear zr br Gr0
              have s0 := HSC.out w4 (hb.trans (hb4.mono hs0))
              go_wp2
              refine ⟨⟨i + 1, by omega, by go_num, ?_, hb4⟩, by simp [intOf]; omega⟩
              rw [layG_snoc Hs.out, if_neg Hly.out]
              exact hG'
        · obtain rfl : i = l.length := by omega
          rw [List.take_length] at hG
          have hGS : GS w2 0 (.slice (some ⟨gb, 0, none⟩) 6400 cb) (layG l (k : Int)) := ⟨gb, cb, rfl, Nat.zero_le _, hG⟩
          have R2 := HR.out.on hb2
          have bw := hb.trans (hb2.mono hs0)
          have hlL : (layL l k).length ≤ 1000000 := by rw [layL_len]; omega
          go_wp2_with (first
            | (go_at_call 32; (with_reducible refine (l03Canon_any _ _ _ hGS).mono ?_); rintro e w5 ⟨x5, rfl, hR5, hb5⟩; obtain ⟨A5, c5, rfl, -, -, -⟩ := hR5.form; have R5 := R2.on hb5; have b5 := bw.trans (hb5.mono bw.size); have r5 : RL w5 w.heap.size _ _ := hR5.less bw.size)
            | (at_builtin; refine wpList_append_RLL rfl (.tmp 60) (.tmp 63) rfl w.heap.size _ (layL l k) rfl R5 _ (canon (layG l (k : Int))) r5 rfl hlL b5.size ?_; intro v6 w6 h61 h62 h63))
          exact ⟨⟨k + 1, by omega, by go_num, by rw [layL_succ]; exact h61, b5.trans h63⟩, by simp [intOf]; omega⟩
    · have hkz : ¬ (k : Int) < 8 := by omega
      obtain rfl : k = 8 := by omega
      obtain ⟨AR, cR, rfl, -, -⟩ := hR.form
      have HR := Lib.hid hR
      clear hR
      go_wp2
      go_ret
      exact ⟨_, rfl, HR.out, hb⟩

set_option maxHeartbeats 3200000 in
set_option maxRecDepth 100000 in
/-- layersOf. -/
theorem lay_impl (v : Value) (l : List ShapeD) (w : World) (hv : ShL w 0 v l) (hl : l.length ≤ 1000000) :
    Calls Tryz.prog 37 #[v] w fun e w' => ∃ u, e = .returned u ∧ RLL w' w.heap.size u (layL l 8) ∧ Below w.heap.size w w' := by
  obtain ⟨A, c, rfl, hc, hm⟩ := hv.form
  have HV := Lib.hid hv
  have l0 := RLL.lit9 w (Nat.le_refl _)
  have b0 := o_allocF w (.cells #[] 38)
  clear hv hm
  go_enter Tryz.func37, Tryz.ntmps37
  go_wp2
  go_loopw [3, 9] (fun ov kv wr => ∃ k : Nat, k ≤ 8 ∧ kv = .int .i64 k ∧ RLL wr w.heap.size ov (layL l k) ∧ Below w.heap.size w wr) (fun _ kv _ => 8 - (intOf kv).toNat)
  case atStart => exact ⟨0, Nat.zero_le _, rfl, l0, b0⟩
  case round =>
    obtain ⟨W0, hW0⟩ : ∃ W0, W0 = wr := ⟨_, rfl⟩
    subst hW0
    obtain ⟨k, hk, rfl, hR, hb⟩ := hrel
    clear l0 b0
    by_cases hlt : k < 8
    · have hkz : (k : Int) < 8 := by omega
      obtain ⟨AO, cO, rfl, -, -⟩ := hR.form
      have HR := Lib.hid hR
      have hs0 := hb.size
      have g0 := GB.zero W0 97
      have b0 := o_allocF W0 (.cells Tryz.zeroCells97 97)
      go_wp2
      rw [show emptyG = layG (l.take 0) (k : Int) from (by rw [layG_nil]; rfl)] at g0
      go_loopw [16] (fun iv wr => ∃ i : Nat, i ≤ l.length ∧ iv = .int .i64 i ∧ GB wr W0.heap.size 97 (layG (l.take i) (k : Int)) ∧ Below W0.heap.size W0 wr) (fun iv _ => l.length - (intOf iv).toNat)
      case atStart => exact ⟨0, Nat.zero_le _, rfl, g0, b0⟩
      case round =>
        obtain ⟨w2, hw2⟩ : ∃ w2, w2 = wr := ⟨_, rfl⟩
        subst hw2
        clear g0 b0
        obtain ⟨i, hi, rfl, hG, hb2⟩ := hrel
        by_cases hil : i < l.length
        · have hbw := hb.trans (hb2.mono hs0)
          obtain ⟨gS, sl, x0, y0, x1, y1, rfl, hs, hgS, s0, s1, s2, s3, s4⟩ := ShL.elem5 (FL.on HV.out hbw) hil
          have Hs := Lib.hid hs
          have zs := Bk.new w2 70 #[.int .i64 sl, .int .i64 x0, .int .i64 y0, .int .i64 x1, .int .i64 y1]
          have bs := hb2.alloc hb2.size (.cells #[.int .i64 sl, .int .i64 x0, .int .i64 y0, .int .i64 x1, .int .i64 y1] 70)
          have Gs := hG.alloc (.cells #[.int .i64 sl, .int .i64 x0, .int .i64 y0, .int .i64 x1, .int .i64 y1] 70)
          obtain ⟨p0, p1, p2, p3, p4⟩ := box5o zs
          clear hs
          by_cases hly : sl = (k : Int)
          · have Hly := Lib.hid hly
            have hlb : (sl == (k : Int)) = true := by simpa using hly
            clear hly
            have HP := Lib.hid (fun (W : World) (h : GB W W0.heap.size 97 (layG (l.take i) (k : Int))) => put_any W0.heap.size (layG (l.take i) (k : Int)) ⟨x0, y0, x1, y1⟩ W h)
            unfold Rc.val at HP
            dsimp only at HP
            go_wp2_with (go_at_call 61; (with_reducible refine (HP.out _ Gs).mono ?_); rintro e w5 ⟨rfl, hG5, hO5⟩)
            exact ⟨⟨i + 1, by omega, by go_num, by rw [layG_snoc Hs.out, if_pos Hly.out]; exact hG5, bs.grown hO5 bs.size (fun q hq => by simp only [Option.some.injEq] at hq; omega)⟩, by simp [intOf]; omega⟩
          · have Hly := Lib.hid hly
            have hlb : (sl == (k : Int)) = false := by simpa using hly
            clear hly
            go_wp2
            exact ⟨⟨i + 1, by omega, by go_num, by rw [layG_snoc Hs.out, if_neg Hly.out]; exact Gs, bs⟩, by simp [intOf]; omega⟩
        · obtain rfl : i = l.length := by omega
          rw [List.take_length] at hG
          have R2 := HR.out.on hb2
          have bw := hb.trans (hb2.mono hs0)
          have hlL : (layL l k).length ≤ 1000000 := by rw [layL_len]; omega
          go_wp2_with (first
            | (go_at_call 41; (with_reducible refine (region_any _ _ _ hG).mono ?_); rintro e w5 ⟨x5, rfl, hR5, hb5⟩; obtain ⟨A5, c5, rfl, -, -, -⟩ := hR5.form; have R5 := R2.on hb5; have b5 := bw.trans (hb5.mono bw.size); have r5 : RL w5 w.heap.size _ _ := hR5.less bw.size)
            | (at_builtin; refine wpList_append_RLL rfl (.tmp 29) (.tmp 32) rfl w.heap.size _ (layL l k) rfl R5 _ (canon (layG l (k : Int))) r5 rfl hlL b5.size ?_; intro v6 w6 h61 h62 h63))
          exact ⟨⟨k + 1, by omega, by go_num, by rw [layL_succ]; exact h61, b5.trans h63⟩, by simp [intOf]; omega⟩
    · have hkz : ¬ (k : Int) < 8 := by omega
      obtain rfl : k = 8 := by omega
      obtain ⟨AR, cR, rfl, -, -⟩ := hR.form
      have HR := Lib.hid hR
      clear hR
      go_wp2
      go_ret
      exact ⟨_, rfl, HR.out, hb⟩

end Go.Proofs.YtgegbgkokkdmpaaGreat
