/- Contracts: FlattenLayers of the reference; the rooted shapes of the program. Conditions: a library in memory; for the program, one whose flattened cell is well. -/
import Derived.Test.YtgegbgkokkdmpaaGreatQ37

namespace Go.Proofs.YtgegbgkokkdmpaaGreat
open Go.RowKit

theorem flS_fit {cs : List CellD} {k : Nat} (h : flatOk cs (k : Int)) : (flS cs (occK cs (k : Int))).length ≤ 10000 := by
  have hkl : k < cs.length := by have := h.2.1; omega
  have h1 := flS_len h.1 hkl (occK cs (k : Int)).length (Nat.le_refl _)
  rw [List.take_length] at h1
  have := h.2.2.1
  omega
theorem flS_ok {cs : List CellD} {k : Int} (h : flatOk cs k) : ∀ s ∈ flS cs (occK cs k), okRc s.box = true := by
  intro s hs
  rw [← flS_eq] at hs
  obtain ⟨x, hx, rfl⟩ := List.mem_map.1 hs
  exact h.2.2.2.2 x hx
set_option maxHeartbeats 3200000 in
set_option maxRecDepth 100000 in
/-- FlattenLayers of the reference. -/
theorem fl_spec (cs : List CellD) (hN : ∀ c ∈ cs, NmOk c) (lv : Value) (k : Int) (w : World) (hl : cs.length ≤ 1000000) (hL : LibV w 0 lv cs) :
    Calls Tryz.prog 6 #[.agg #[lv], .int .i64 k] w fun e w' => ∃ (v : Value) (code : Int), e = .returned (.tuple #[v, .int .i64 code]) ∧ Below w.heap.size w w' ∧ (code ≠ 0 ∨ (code = 0 ∧ flatOk cs k ∧ RLL w' w.heap.size v (layL (flS cs (occK cs k)) 8))) := by
  have HO := Lib.hid (fun W (h : LibV W 0 lv cs) => flat_spec cs hN lv k W hl h)
  obtain ⟨AL, cL, rfl, hcap, hm⟩ := hL.form
  have b0 := (Below.refl w.heap.size w).alloc (Nat.le_refl _) (.cells #[.slice AL cs.length cL] 26)
  have hL1 := hL.on b0
  have hs0 := b0.size
  clear hL hm hN
  have z0 := Bk.new w 26 #[.slice AL cs.length cL]
  go_enter Tryz.func6, Tryz.ntmps6
  go_upto_region 2 with (go_at_call 14; (with_reducible refine (HO.out _ hL1).mono ?_); rintro e w1 ⟨v1, code, rfl, hb1, hcase⟩)
  have b1 := b0.trans (hb1.mono hs0)
  rcases hcase with hc | ⟨rfl, hf, hS⟩
  · have hc' : (code == 0) = false := by simpa using hc
    go_wp2
    refine bodyPost_ret (v := .tuple #[.slice none 0 0, .int .i64 code]) (by simp [results, Tryz.results6, go_sem, *]) rfl ?_
    exact ⟨_, code, rfl, b1, .inl hc⟩
  · obtain ⟨kn, rfl⟩ : ∃ kn : Nat, k = kn := ⟨k.toNat, by have := hf.2.1; omega⟩
    have Hf := Lib.hid hf
    have hfit := flS_fit hf
    have HY := Lib.hid (lay10_any v1 _ w1 (FL.less hS (Nat.zero_le _)) (flS_ok hf) (by omega))
    clear hf hfit HO
    go_wp2_with (go_at_call 15; (with_reducible refine HY.out.mono ?_); rintro e w2 ⟨u2, rfl, hR2, hb2⟩)
    refine bodyPost_ret (v := .tuple #[u2, .int .i64 0]) (by simp [results, Tryz.results6, go_sem, *]) rfl ?_
    exact ⟨_, 0, rfl, b1.trans (hb2.mono b1.size), .inr ⟨rfl, Hf.out, hR2.less b1.size⟩⟩

/-- A rooted shape's cells. -/
def rshV (x : Int × ShapeD) : List Value := .int .i64 x.1 :: x.2.vals
theorem rshV_len (x : Int × ShapeD) : (rshV x).length = 6 := rfl
theorem rshV_one (x : Int × ShapeD) : ∀ u ∈ rshV x, u.oneCell' = true := by
  intro u hu
  simp only [rshV, ShapeD.vals, List.mem_cons, List.not_mem_nil, or_false] at hu
  rcases hu with rfl | rfl | rfl | rfl | rfl | rfl <;> rfl
abbrev RtL := FL 87 6 rshV
theorem infoRt : (Tryz.prog.info? 87).map (fun i => (i.zero, i.size, i.bytes)) = some (some (.agg #[.int .i64 0, .int .i64 0, .int .i64 0, .int .i64 0, .int .i64 0, .int .i64 0]), 6, 48) := by kernel_rfl
/-- The rooted shapes before shape j of occurrence i. -/
def rsAt (cs : List CellD) (os : List OcD) (i : Nat) (o : OcD) (j : Nat) : List (Int × ShapeD) := rsAll cs (os.take i) ++ ((shAt cs o.cell).take j).map fun s => (rootP o.path, mvS o.t s)
theorem rsAt_zero (cs : List CellD) (os : List OcD) (i : Nat) (o : OcD) : rsAt cs os i o 0 = rsAll cs (os.take i) := by simp [rsAt]
theorem rsAt_succ {cs : List CellD} {os : List OcD} {i : Nat} {o : OcD} {j : Nat} {s : ShapeD} (h : (shAt cs o.cell)[j]? = some s) : rsAt cs os i o (j + 1) = rsAt cs os i o j ++ [(rootP o.path, mvS o.t s)] := by
  unfold rsAt
  rw [map_take_succ h, List.append_assoc]
theorem rsAll_succ {cs : List CellD} {os : List OcD} {i : Nat} {o : OcD} (h : os[i]? = some o) : rsAll cs (os.take (i + 1)) = rsAll cs (os.take i) ++ rsOf cs o := by
  unfold rsAll
  rw [List.take_add_one, h, Option.toList_some, List.flatMap_append]
  simp
theorem rsAt_all {cs : List CellD} {os : List OcD} {i : Nat} {o : OcD} {j : Nat} (h : os[i]? = some o) (hj : j = (shAt cs o.cell).length) : rsAt cs os i o j = rsAll cs (os.take (i + 1)) := by
  unfold rsAt
  rw [hj, List.take_length, rsAll_succ h]
  rfl
theorem rsAt_fl (cs : List CellD) (os : List OcD) (i : Nat) (o : OcD) (j : Nat) : (rsAt cs os i o j).map Prod.snd = flAt cs os i o j := by
  unfold rsAt flAt
  rw [List.map_append, flS_eq, List.map_map]
  rfl
theorem rsAt_len (cs : List CellD) (os : List OcD) (i : Nat) (o : OcD) (j : Nat) : (rsAt cs os i o j).length = (flAt cs os i o j).length := by
  rw [← rsAt_fl, List.length_map]
theorem flAt_get {cs : List CellD} {os : List OcD} {i : Nat} {o : OcD} {j : Nat} {s : ShapeD} (h : os[i]? = some o) (hs : (shAt cs o.cell)[j]? = some s) : (flS cs os)[(flAt cs os i o j).length]? = some (mvS o.t s) := by
  have hi := (List.getElem?_eq_some_iff.1 h).1
  have h1 : flS cs (os.take (i + 1)) <+: flS cs (os.take os.length) := pre_step (f := fun n => flS cs (os.take n)) (fun n => by
    by_cases hn : n < os.length
    · exact ⟨_, flS_succ (List.getElem?_eq_getElem hn)⟩
    · exact ⟨[], by rw [List.take_of_length_le (by omega), List.take_of_length_le (by omega), List.append_nil]⟩) (by omega)
  rw [List.take_length] at h1
  have hj := (List.getElem?_eq_some_iff.1 hs).1
  have h2 : flAt cs os i o (j + 1) <+: flAt cs os i o (shAt cs o.cell).length := pre_step (f := fun n => flAt cs os i o n) (fun n => by
    by_cases hn : n < (shAt cs o.cell).length
    · exact ⟨_, flAt_succ (List.getElem?_eq_getElem hn)⟩
    · exact ⟨[], by show flAt cs os i o (n + 1) = flAt cs os i o n ++ []; unfold flAt; rw [List.take_of_length_le (l := shAt cs o.cell) (by omega), List.take_of_length_le (l := shAt cs o.cell) (i := n) (by omega), List.append_nil]⟩) (by omega)
  rw [flAt_all h rfl, flAt_succ hs] at h2
  obtain ⟨t1, e1⟩ := h2.trans h1
  rw [← e1, List.append_assoc, List.getElem?_append_right (Nat.le_refl _), Nat.sub_self]
  rfl

set_option maxHeartbeats 3200000 in
set_option maxRecDepth 100000 in
/-- rooted. -/
theorem rooted_any (cs : List CellD) (hN : ∀ c ∈ cs, NmOk c) (lv : Value) (k : Nat) (hok : flatOk cs (k : Int)) (w : World) (hL : LibV w 0 lv cs) :
    Calls Tryz.prog 16 #[.agg #[lv], .int .i64 k] w fun e w' => ∃ v, e = .returned (.tuple #[v, .int .i64 0]) ∧ RtL w' w.heap.size v (rsAll cs (occK cs (k : Int))) ∧ Below w.heap.size w w' := by
  have HFS := Lib.hid (fun W (h : LibV W 0 lv cs) => flat_impl cs hN lv k hok W h)
  have hfit := flS_fit hok
  obtain ⟨hv, hk, hn, ht, hsh⟩ := hok
  have HO := Lib.hid (fun W (h : LibV W 0 lv cs) => occs_impl cs hN lv k ⟨hv, hk, hn, ht⟩ W h)
  have hkl : k < cs.length := by omega
  have h8 : cs.length ≤ 8 := (lib_facts hv).1.2
  obtain ⟨os, Hos⟩ : ∃ os, Hid (os = occK cs (k : Int)) := ⟨_, Lib.hid rfl⟩
  have HOC := Lib.hid (fun (i : Nat) (o : OcD) (h : os[i]? = some o) => occK_cell hv hkl (by rw [← Hos.out]; exact h))
  have HLN := Lib.hid (fun (i : Nat) (o : OcD) (j : Nat) (h : os[i]? = some o) => show (rsAt cs os i o j).length ≤ 10000 by rw [rsAt_len, Hos.out]; exact flAt_len hv hkl (by rw [← Hos.out]; exact h) hn)
  have Hn : Hid (os.length ≤ 200) := Lib.hid (by rw [Hos.out]; exact hn)
  rw [← Hos.out] at HFS hfit ⊢
  obtain ⟨AL, cL, rfl, hcap, hm⟩ := hL.form
  have b0 := (Below.refl w.heap.size w).alloc (Nat.le_refl _) (.cells #[.slice AL cs.length cL] 26)
  have z0 := Bk.new w 26 #[.slice AL cs.length cL]
  have hL1 := hL.on b0
  have hs0 := b0.size
  have HL := Lib.hid hL
  clear hL hm hN ht hsh hn
  go_enter Tryz.func16, Tryz.ntmps16
  go_upto_region 5 with (first
    | (go_at_call 33; (with_reducible refine (HFS.out _ hL1).mono ?_); rintro e w1 ⟨v1, rfl, hS1, hb1⟩; have z1 := (z0.on hb1).cell 0; have hL2 := hL1.on hb1; have b1 := b0.trans (hb1.mono hs0))
    | (go_at_call 34; (with_reducible refine (HO.out _ hL2).mono ?_); rintro e w2 ⟨v2, qs, rfl, hQ, HQ, hb2⟩))
  have b2 := b1.trans (hb2.mono b1.size)
  have z2 := (z0.on hb1).on hb2
  have HQ1 : Hid (qs.map Prod.fst = os) := Lib.hid (by rw [Hos.out]; exact HQ.out)
  have hq200 : qs.length ≤ 200 := by
    have := congrArg List.length HQ1.out
    rw [List.length_map] at this
    have := Hn.out
    omega
  obtain ⟨AQ, cQ, rfl, -, -⟩ := hQ.form
  have HQ2 := Lib.hid hQ
  have hS2 := FL.on hS1 hb2
  obtain ⟨AS, cS, rfl, -, -⟩ := FL.form hS2
  have HS2 := Lib.hid hS2
  have b3 := o_allocF w2 (.cells #[] 87)
  have l3 : RtL (w2.alloc (.cells #[] 87)) w2.heap.size (.slice (some ⟨w2.heap.size, 0, none⟩) 0 0) [] := FL.lit9 w2 (Nat.le_refl _)
  have hs2 := b2.size
  clear hQ HQ HO b0 hL1 hs0 hS1 hS2 hb1 hb2 b1 z0 z1 hL2 HFS
  go_wp2
  go_loopw [10, 32] (fun lw iv wr => ∃ i : Nat, i ≤ qs.length ∧ iv = .int .i64 i ∧ RtL wr w2.heap.size lw (rsAll cs (os.take i)) ∧ Below w2.heap.size w2 wr) (fun _ iv _ => qs.length - (intOf iv).toNat)
  case atStart => exact ⟨0, Nat.zero_le _, rfl, by rw [show rsAll cs (os.take 0) = [] by simp [rsAll]]; exact l3, b3⟩
  case round =>
    obtain ⟨wo, hwo⟩ : ∃ wo, wo = wr := ⟨_, rfl⟩
    subst hwo
    obtain ⟨i, hi, rfl, hR, hb⟩ := hrel
    clear l3 b3
    by_cases hlt : i < qs.length
    · obtain ⟨gQ, oc, tO, tx, ty, pa, Ap, cp, rfl, hp, hg, A0, A1', A2', A3', A4', hpa⟩ := HQ2.out.elem5 hlt
      have a0 := bcell1 hb hg A0
      have a1 := bcell1 hb hg A1'
      have a2 := bcell1 hb hg A2'
      have a3 := bcell1 hb hg A3'
      have a4 := bcell1 hb hg A4'
      clear A0 A1' A2' A3' A4'
      have hgo := Nat.lt_of_lt_of_le hg hb.size
      have ho : os[i]? = some ⟨oc, ⟨tO, tx, ty⟩, pa⟩ := by rw [← HQ1.out, List.getElem?_map, hp]; rfl
      obtain ⟨kc, e1, hkc⟩ := HOC.out i _ ho
      dsimp only at e1
      subst e1
      have bw := b2.trans (hb.mono hs2)
      obtain ⟨gC, c, ⟨us, ul, ui⟩, rfl, hcell, hgl, F0, F1, F2, F3, h3⟩ := HL.out.elem hkc
      have f1 := bcell1 bw hgl F1
      clear F0 F1 F2 F3
      have hglo := Nat.lt_of_lt_of_le hgl bw.size
      obtain ⟨A1, k1, g1, -, -⟩ := h3.s.form
      dsimp only at g1 f1
      subst g1
      have Ho := Lib.hid ho
      have Hcell := Lib.hid hcell
      have d0 := (z2.on hb).cell 0
      simp at d0
      have hw0 := (z2.on hb).lt
      have Hpa := Lib.hid hpa
      have zo := Bk.new wo 80 #[.int .i64 kc, .int .i64 tO, .int .i64 tx, .int .i64 ty, .slice Ap pa.length cp]
      have bo := hb.alloc hb.size (.cells #[.int .i64 kc, .int .i64 tO, .int .i64 tx, .int .i64 ty, .slice Ap pa.length cp] 80)
      have lo := FL.alloc hR (.cells #[.int .i64 kc, .int .i64 tO, .int .i64 tx, .int .i64 ty, .slice Ap pa.length cp] 80)
      obtain ⟨q0, q1, q2, q3, q4⟩ := box5o zo
      have HSA := Lib.hid (shAt_of Hcell.out)
      obtain ⟨o9, Ho9⟩ : ∃ o9 : OcD, Hid (o9 = ⟨(kc : Int), ⟨tO, tx, ty⟩, pa⟩) := ⟨_, Lib.hid rfl⟩
      have HSB : Hid (shAt cs o9.cell = c.shapes) := Lib.hid (by rw [Ho9.out]; exact HSA.out)
      have HPB : Hid (rootP o9.path = rootP pa) := Lib.hid (by rw [Ho9.out])
      have HO9 : Hid (os[i]? = some o9) := Lib.hid (by rw [Ho9.out]; exact Ho.out)
      have h24 : c.shapes.length ≤ 24 := ((lib_facts hv).2 kc c Hcell.out).1
      clear h3 hcell ho hp hpa
      go_upto_region 9 with fail
      clear a0 a1 a2 a3 a4
      obtain ⟨W3, hW3⟩ : ∃ W, W = wo.alloc (.cells #[.int .i64 kc, .int .i64 tO, .int .i64 tx, .int .i64 ty, .slice Ap pa.length cp] 80) := ⟨_, rfl⟩
      have f1' := bcell1 (o_allocF wo (.cells #[.int .i64 kc, .int .i64 tO, .int .i64 tx, .int .i64 ty, .slice Ap pa.length cp] 80)) hglo f1
      have d0' := bcell1 (o_allocF wo (.cells #[.int .i64 kc, .int .i64 tO, .int .i64 tx, .int .i64 ty, .slice Ap pa.length cp] 80)) hw0 d0
      rw [← hW3] at zo bo lo q0 q1 q2 q3 q4 f1' d0' ⊢
      clear hW3 f1 d0
      go_upto_if 39 with fail
      go_cut [13] from 36 to 65 (fun rv wx => rv = .int .i64 (rootP pa) ∧ wx = W3)
      case first =>
        by_cases h0 : 0 < pa.length
        · obtain ⟨gp, x0, rfl, hx0, -, hgp, hc0⟩ := Hpa.out.elem h0
          have hc1 := bcell1 bo hgp hc0
          have hrp : rootP pa = x0 := by
            cases pa with
            | nil => simp at h0
            | cons a t => show a = x0; simpa using hx0
          have hgz : (pa.length : Int) > 0 := by omega
          go_wp2_with fail
          go_meet
          exact ⟨by rw [hrp], rfl⟩
        · have hrp : rootP pa = -1 := by
            cases pa with
            | nil => rfl
            | cons a t => simp at h0
          have hgz : ¬ (pa.length : Int) > 0 := by omega
          go_wp2_with fail
          go_meet
          exact ⟨by rw [hrp], rfl⟩
      case rest =>
        obtain ⟨rfl, rfl⟩ := hcut
        obtain ⟨rp, Hrp⟩ : ∃ rp, Hid (rp = rootP pa) := ⟨_, Lib.hid rfl⟩
        rw [← Hrp.out]
        go_wp2
        clear f1' d0' q0 q1 q2 q3 q4
        go_loopw [10, 52] (fun lw jv wr => ∃ j : Nat, j ≤ c.shapes.length ∧ jv = .int .i64 j ∧ RtL wr w2.heap.size lw (rsAt cs os i o9 j) ∧ Below w2.heap.size w2 wr) (fun _ jv _ => c.shapes.length - (intOf jv).toNat)
        case atStart => exact ⟨0, Nat.zero_le _, rfl, by rw [rsAt_zero]; exact lo, bo⟩
        case round =>
          obtain ⟨wp, hwp⟩ : ∃ wp, wp = wr := ⟨_, rfl⟩
          subst hwp
          clear lo zo bo
          obtain ⟨j, hj, rfl, hR, hb3⟩ := hrel
          by_cases hjl : j < c.shapes.length
          · have hs := List.getElem?_eq_getElem hjl
            have hget := flAt_get HO9.out (by rw [HSB.out]; exact hs)
            rw [← rsAt_len] at hget
            obtain ⟨n, Hn9⟩ : ∃ n, Hid (n = (rsAt cs os i o9 j).length) := ⟨_, Lib.hid rfl⟩
            have hlen := HLN.out i o9 j HO9.out
            obtain ⟨AR2, cR2, e9, -, -⟩ := hR.form
            rw [← Hn9.out] at hget hlen e9
            subst e9
            have HR9 := Lib.hid hR
            obtain ⟨gS, l, x0, y0, x1, y1, rfl, hs2', hgS, s0, s1, s2, s3, s4⟩ := ShL.elem5 (FL.on HS2.out hb3) (List.getElem?_eq_some_iff.1 hget).1
            have Hmv : Hid (mvS o9.t (c.shapes[j]'hjl) = ⟨l, ⟨x0, y0, x1, y1⟩⟩) := Lib.hid (by simpa using hget.symm.trans hs2')
            have Hfs := Lib.hid (rsAt_succ (os := os) (i := i) (o := o9) (j := j) (s := c.shapes[j]'hjl) (by rw [HSB.out]; exact hs))
            have hnl : n < (flS cs os).length := (List.getElem?_eq_some_iff.1 hget).1
            have hlen2 : (rsAt cs os i o9 j).length ≤ 1000000 := by rw [← Hn9.out]; omega
            have Hlen2 := Lib.hid hlen2
            clear hget hs hs2' hlen2 hR
            go_wp2_with (at_builtin; refine wpList_append_F (t := 87) (n := 6) (enc := rshV) rfl (.tmp 54) (.tmp 62) 50 48 _ infoRt Tryz.underlying50 rfl (by decide) (by decide) rfl w2.heap.size _ (rsAt cs os i o9 j) (rp, ⟨l, ⟨x0, y0, x1, y1⟩⟩) rfl HR9.out rfl (rshV_one _) rfl Hlen2.out hb3.size ?_; intro v' w9 k1 k2)
            have l9 := FL.alloc HR9.out (.cells (rshV (rp, ⟨l, ⟨x0, y0, x1, y1⟩⟩)).toArray 87)
            have b9 := hb3.alloc hb3.size (.cells (rshV (rp, ⟨l, ⟨x0, y0, x1, y1⟩⟩)).toArray 87)
            exact ⟨⟨j + 1, by omega, by go_num, by rw [Hfs.out, Hmv.out, HPB.out, ← Hrp.out]; exact k1, b9.grown k2 b9.size (fun q hq => (World.ownsRow.lt l9 _ hq).1)⟩, by simp [intOf]; omega⟩
          · have hje : j = c.shapes.length := by omega
            go_wp2
            have hfa := rsAt_all (j := j) HO9.out (by rw [HSB.out]; exact hje)
            exact ⟨⟨i + 1, by omega, by go_num, by rw [← hfa]; exact hR, hb3⟩, by simp [intOf]; omega⟩
    · obtain rfl : i = qs.length := by omega
      have hol : os.take qs.length = os := List.take_of_length_le (by rw [← HQ1.out, List.length_map]; exact Nat.le_refl _)
      rw [hol] at hR
      obtain ⟨AR, cR, rfl, -, -⟩ := hR.form
      have HR2 := Lib.hid hR
      clear hR hol
      go_wp2
      refine bodyPost_ret (v := .tuple #[.slice AR (rsAll cs os).length cR, .int .i64 0]) (by simp [results, Tryz.results16, go_sem, *]) rfl ?_
      exact ⟨_, rfl, FL.less HR2.out hs2, b2.trans (hb.mono hs2)⟩

end Go.Proofs.YtgegbgkokkdmpaaGreat
