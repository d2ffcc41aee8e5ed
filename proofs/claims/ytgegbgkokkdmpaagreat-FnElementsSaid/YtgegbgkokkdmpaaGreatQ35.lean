/- Contracts: FlattenShapes of the reference and of the program. Conditions: a library in memory; for the program, one whose flattened cell is well. -/
import Derived.Test.YtgegbgkokkdmpaaGreatQ34
import Derived.Deep.RegionLaw
import Derived.Deep.RegionHeld3
import Derived.Deep.CutRange

namespace Go.Proofs.YtgegbgkokkdmpaaGreat
open Go.RowKit

/-- The flattened shapes. -/
def flS (cs : List CellD) (os : List OcD) : List ShapeD := os.flatMap fun o => (shAt cs o.cell).map (mvS o.t)
theorem flS_eq (cs : List CellD) (os : List OcD) : (rsAll cs os).map Prod.snd = flS cs os := by
  unfold rsAll flS rsOf
  rw [List.map_flatMap]
  refine fm_congr fun o _ => ?_
  rw [List.map_map]
  rfl
theorem flS_succ {cs : List CellD} {os : List OcD} {i : Nat} {o : OcD} (h : os[i]? = some o) : flS cs (os.take (i + 1)) = flS cs (os.take i) ++ (shAt cs o.cell).map (mvS o.t) := by
  unfold flS
  rw [List.take_add_one, h, Option.toList_some, List.flatMap_append]
  simp
theorem map_take_succ {α β : Type} {xs : List α} {f : α → β} {j : Nat} {x : α} (h : xs[j]? = some x) : (xs.take (j + 1)).map f = (xs.take j).map f ++ [f x] := by
  rw [List.take_add_one, h, Option.toList_some, List.map_append]
  rfl
theorem occ_cell {cs : List CellD} (hl : libB cs = true) : ∀ (f k : Nat) (t : Tf) (p : List Int), k < cs.length → ∀ o ∈ occ cs f ⟨k, t, p⟩, ∃ kc : Nat, o.cell = (kc : Int) ∧ kc < cs.length := by
  intro f
  induction f with
  | zero => intro k t p _ o ho; cases ho
  | succ f ih =>
    intro k t p hk o ho
    rw [occ_succ, List.mem_cons] at ho
    rcases ho with rfl | ho
    · exact ⟨k, rfl, hk⟩
    · unfold below at ho
      obtain ⟨j, -, hj⟩ := List.mem_flatMap.1 ho
      dsimp only at hj
      cases he : (elAt cs (k : Int))[j]? with
      | none => rw [he] at hj; cases hj
      | some e =>
        rw [he] at hj
        obtain ⟨kc, h1, h2⟩ := el_lt hl hk he
        refine ih kc (compT e.2 t) (p ++ [(j : Int)]) (by omega) o ?_
        have : kid ⟨k, t, p⟩ e j = ⟨(kc : Int), compT e.2 t, p ++ [(j : Int)]⟩ := by unfold kid; rw [h1]
        rw [← this]
        exact hj
theorem occK_cell {cs : List CellD} (hl : libB cs = true) {k : Nat} (hk : k < cs.length) {i : Nat} {o : OcD} (h : (occK cs (k : Int))[i]? = some o) : ∃ kc : Nat, o.cell = (kc : Int) ∧ kc < cs.length := by
  have hm := List.mem_of_getElem? h
  rw [occK_nat] at hm
  exact occ_cell hl _ _ _ _ hk o hm
theorem shAt_of {cs : List CellD} {k : Nat} {c : CellD} (h : cs[k]? = some c) : shAt cs (k : Int) = c.shapes := by
  unfold shAt
  rw [Int.toNat_natCast, h]
theorem flS_len {cs : List CellD} (hl : libB cs = true) {k : Nat} (hk : k < cs.length) : ∀ i, i ≤ (occK cs (k : Int)).length → (flS cs ((occK cs (k : Int)).take i)).length ≤ 24 * i := by
  intro i
  induction i with
  | zero => intro _; simp [flS]
  | succ i ih =>
    intro hi
    have ho := List.getElem?_eq_getElem (show i < (occK cs (k : Int)).length by omega)
    obtain ⟨kc, h1, h2⟩ := occK_cell hl hk ho
    rw [flS_succ ho, List.length_append, List.length_map, h1, shAt_of (List.getElem?_eq_getElem h2)]
    have := ((lib_facts hl).2 kc _ (List.getElem?_eq_getElem h2)).1
    have := ih (by omega)
    omega
/-- The flattened shapes before shape j of occurrence i. -/
def flAt (cs : List CellD) (os : List OcD) (i : Nat) (o : OcD) (j : Nat) : List ShapeD := flS cs (os.take i) ++ ((shAt cs o.cell).take j).map (mvS o.t)
theorem flAt_zero (cs : List CellD) (os : List OcD) (i : Nat) (o : OcD) : flAt cs os i o 0 = flS cs (os.take i) := by simp [flAt]
theorem flAt_succ {cs : List CellD} {os : List OcD} {i : Nat} {o : OcD} {j : Nat} {s : ShapeD} (h : (shAt cs o.cell)[j]? = some s) : flAt cs os i o (j + 1) = flAt cs os i o j ++ [mvS o.t s] := by
  unfold flAt
  rw [map_take_succ h, List.append_assoc]
theorem flAt_all {cs : List CellD} {os : List OcD} {i : Nat} {o : OcD} {j : Nat} (h : os[i]? = some o) (hj : j = (shAt cs o.cell).length) : flAt cs os i o j = flS cs (os.take (i + 1)) := by
  unfold flAt
  rw [hj, List.take_length, flS_succ h]
theorem flAt_len {cs : List CellD} (hl : libB cs = true) {k : Nat} (hk : k < cs.length) {i : Nat} {o : OcD} (h : (occK cs (k : Int))[i]? = some o) (hn : (occK cs (k : Int)).length ≤ 200) {j : Nat} : (flAt cs (occK cs (k : Int)) i o j).length ≤ 10000 := by
  obtain ⟨kc, h1, h2⟩ := occK_cell hl hk h
  have hi := (List.getElem?_eq_some_iff.1 h).1
  have h3 := flS_len hl hk i (by omega)
  have h4 := ((lib_facts hl).2 kc _ (List.getElem?_eq_getElem h2)).1
  unfold flAt
  rw [List.length_append, List.length_map, h1, shAt_of (List.getElem?_eq_getElem h2), List.length_take]
  omega
theorem ShL.elem5 {w : World} {B : Nat} {A : Option Addr} {m c k : Nat} {xs : List ShapeD} (h : ShL w B (.slice A m c) xs) (hk : k < xs.length) : ∃ g l x0 y0 x1 y1, A = some ⟨g, 0, none⟩ ∧ xs[k]? = some ⟨l, ⟨x0, y0, x1, y1⟩⟩ ∧ g < w.heap.size ∧
    w.cell? ⟨g, k * 5, none⟩ = some (.int .i64 l) ∧ w.cell? ⟨g, k * 5 + 1, none⟩ = some (.int .i64 x0) ∧ w.cell? ⟨g, k * 5 + 2, none⟩ = some (.int .i64 y0) ∧ w.cell? ⟨g, k * 5 + 3, none⟩ = some (.int .i64 x1) ∧ w.cell? ⟨g, k * 5 + 4, none⟩ = some (.int .i64 y1) := by
  obtain ⟨g, ⟨l, ⟨x0, y0, x1, y1⟩⟩, hA, hp, -, hg, hc⟩ := FL.elem ShapeD.len h hk
  exact ⟨g, l, x0, y0, x1, y1, hA, hp, hg, hc 0 _ rfl, hc 1 _ rfl, hc 2 _ rfl, hc 3 _ rfl, hc 4 _ rfl⟩
theorem trans_small {o x y : Int} (h : transB o x y = true) : (⟨o, x, y⟩ : Tf).small := by
  unfold transB inB at h
  simp only [Bool.and_eq_true, decide_eq_true_eq] at h
  exact ⟨h.1.1, by dsimp only; omega, by dsimp only; omega⟩
theorem shape_ok {s : ShapeD} (h : shapeB s = true) : okRc s.box = true := by
  unfold shapeB at h
  rw [Bool.and_eq_true] at h
  exact h.2
theorem bcell1 {w W : World} (h : Below w.heap.size w W) {g a : Nat} (hg : g < w.heap.size) {x : Option Value} (h1 : w.cell? ⟨g, a, none⟩ = x) : W.cell? ⟨g, a, none⟩ = x := ((bcellN h (Nat.le_refl _)).1 g a hg).trans h1
theorem mem_snoc9 {α : Type} {p : α → Prop} {xs : List α} {x : α} (h : ∀ y ∈ xs, p y) (hx : p x) : ∀ y ∈ xs ++ [x], p y := by
  intro y hy
  rw [List.mem_append, List.mem_singleton] at hy
  rcases hy with hy | rfl
  · exact h y hy
  · exact hx
/-- A rectangle in a block of its own. -/
structure RBox (w W : World) (rb : Nat) (r0 r1 r2 r3 : Int) : Prop where
  bel : Below w.heap.size w W
  lt : rb < W.heap.size
  c : W.cell? ⟨rb, 0, none⟩ = some (.int .i64 r0) ∧ W.cell? ⟨rb, 1, none⟩ = some (.int .i64 r1) ∧ W.cell? ⟨rb, 2, none⟩ = some (.int .i64 r2) ∧ W.cell? ⟨rb, 3, none⟩ = some (.int .i64 r3)
theorem RBox.late {w W : World} (hb : Below w.heap.size w W) (r0 r1 r2 r3 : Int) : RBox w (W.alloc (.cells #[.int .i64 r0, .int .i64 r1, .int .i64 r2, .int .i64 r3] 60)) W.heap.size r0 r1 r2 r3 :=
  ⟨hb.alloc hb.size _, by simp, box4 (Bk.new W 60 _)⟩
theorem RBox.early {w W : World} (hb : Below (w.alloc (.cells #[.int .i64 0, .int .i64 0, .int .i64 0, .int .i64 0] 60)).drew.heap.size (w.alloc (.cells #[.int .i64 0, .int .i64 0, .int .i64 0, .int .i64 0] 60)).drew W) (r0 r1 r2 r3 : Int) :
    RBox w ((((W.setCell ⟨w.heap.size, 0, none⟩ (.int .i64 r0)).setCell ⟨w.heap.size, 1, none⟩ (.int .i64 r1)).setCell ⟨w.heap.size, 2, none⟩ (.int .i64 r2)).setCell ⟨w.heap.size, 3, none⟩ (.int .i64 r3)) w.heap.size r0 r1 r2 r3 := by
  have h1 : Below w.heap.size w (w.alloc (.cells #[.int .i64 0, .int .i64 0, .int .i64 0, .int .i64 0] 60)).drew := ((Below.refl w.heap.size w).alloc (Nat.le_refl _) _).drew
  have h2 := h1.trans (hb.mono h1.size)
  have z := ((Bk.new w 60 #[.int .i64 0, .int .i64 0, .int .i64 0, .int .i64 0]).drew).on hb
  have x := (((z.store 0 (.int .i64 r0)).store 1 (.int .i64 r1)).store 2 (.int .i64 r2)).store 3 (.int .i64 r3)
  have q0 := x.cell 0
  have q1 := x.cell 1
  have q2 := x.cell 2
  have q3 := x.cell 3
  simp at q0 q1 q2 q3
  exact ⟨(((h2.setCell (p := ⟨w.heap.size, 0, none⟩) (Nat.le_refl _) _).setCell (p := ⟨w.heap.size, 1, none⟩) (Nat.le_refl _) _).setCell (p := ⟨w.heap.size, 2, none⟩) (Nat.le_refl _) _).setCell (p := ⟨w.heap.size, 3, none⟩) (Nat.le_refl _) _, x.lt, by simpa using q0, by simpa using q1, by simpa using q2, by simpa using q3⟩
/-- What FlattenShapes answers. -/
def FsAns (cs : List CellD) (k : Int) (w : World) (e : Ending) (w' : World) : Prop :=
  ∃ (v : Value) (code : Int), e = .returned (.tuple #[v, .int .i64 code]) ∧ Below w.heap.size w w' ∧ (code ≠ 0 ∨ (code = 0 ∧ flatOk cs k ∧ ShL w' w.heap.size v (flS cs (occK cs k))))

set_option maxHeartbeats 3200000 in
set_option maxRecDepth 100000 in
/-- FlattenShapes of the reference. -/
theorem flat_spec (cs : List CellD) (hN : ∀ c ∈ cs, NmOk c) (lv : Value) (k : Int) (w : World) (hl : cs.length ≤ 1000000) (hL : LibV w 0 lv cs) :
    Calls Tryz.prog 14 #[.agg #[lv], .int .i64 k] w (FsAns cs k w) := by
  have HO := Lib.hid (fun W (h : LibV W 0 lv cs) => occs_spec cs hN lv k W hl h)
  obtain ⟨AL, cL, rfl, hcap, hm⟩ := hL.form
  have b0 := (Below.refl w.heap.size w).alloc (Nat.le_refl _) (.cells #[.slice AL cs.length cL] 26)
  have z0 := Bk.new w 26 #[.slice AL cs.length cL]
  have hL1 := hL.on b0
  have hs0 := b0.size
  have HL := Lib.hid hL
  clear hL hm hN
  go_enter Tryz.func14, Tryz.ntmps14
  go_upto_region 2 with (go_at_call 28; (with_reducible refine (HO.out _ hL1).mono ?_); rintro e w1 ⟨v1, code, rfl, hb1, hcase⟩)
  have b1 := b0.trans (hb1.mono hs0)
  have z1 := z0.on hb1
  rcases hcase with hc | ⟨rfl, ⟨hv, hk, hn, ht⟩, qs, hQ, HQ⟩
  · have hc' : (code == 0) = false := by simpa using hc
    go_wp2
    refine bodyPost_ret (v := .tuple #[.slice none 0 0, .int .i64 code]) (by simp [results, Tryz.results14, go_sem, *]) rfl ?_
    exact ⟨_, code, rfl, b1, .inl hc⟩
  · obtain ⟨kn, rfl⟩ : ∃ kn : Nat, k = kn := ⟨k.toNat, by omega⟩
    have hkl : kn < cs.length := by omega
    have h8 : cs.length ≤ 8 := (lib_facts hv).1.2
    obtain ⟨os, Hos⟩ : ∃ os, Hid (os = occK cs (kn : Int)) := ⟨_, Lib.hid rfl⟩
    have HQ1 : Hid (qs.map Prod.fst = os) := Lib.hid (by rw [Hos.out]; exact HQ.out)
    have HOC := Lib.hid (fun (i : Nat) (o : OcD) (h : os[i]? = some o) => occK_cell hv hkl (by rw [← Hos.out]; exact h))
    have HLN := Lib.hid (fun (i : Nat) (o : OcD) (j : Nat) (h : os[i]? = some o) => show (flAt cs os i o j).length ≤ 10000 by rw [Hos.out]; exact flAt_len hv hkl (by rw [← Hos.out]; exact h) hn)
    have HT := Lib.hid (fun (i : Nat) (o : OcD) (h : os[i]? = some o) => trans_small (ht o (by rw [← Hos.out]; exact List.mem_of_getElem? h)))
    have HK := Lib.hid (show occOk cs (kn : Int) from ⟨hv, hk, hn, ht⟩)
    have hq200 : qs.length ≤ 200 := by
      have := congrArg List.length HQ1.out
      rw [Hos.out, List.length_map] at this
      omega
    obtain ⟨AQ, cQ, rfl, -, -⟩ := hQ.form
    have HQ2 := Lib.hid hQ
    have b2 := (Below.refl w1.heap.size w1).alloc (Nat.le_refl _) (.cells #[] 70)
    have l2 : ShL (w1.alloc (.cells #[] 70)) w1.heap.size (.slice (some ⟨w1.heap.size, 0, none⟩) 0 0) [] := FL.lit9 w1 (Nat.le_refl _)
    have hs1 := b1.size
    clear hQ HQ hn ht hk HO b0 hL1 hs0
    go_wp2
    go_loopw [8, 9] (fun lw iv wr => ∃ i : Nat, i ≤ qs.length ∧ iv = .int .i64 i ∧ ShL wr w1.heap.size lw (flS cs (os.take i)) ∧ Hid (∀ s ∈ flS cs (os.take i), okRc s.box = true) ∧ Below w1.heap.size w1 wr) (fun _ iv _ => qs.length - (intOf iv).toNat)
    case atStart => exact ⟨0, Nat.zero_le _, rfl, by rw [show flS cs (os.take 0) = [] by simp [flS]]; exact l2, Lib.hid (by simp [flS]), b2⟩
    case round =>
      obtain ⟨wo, hwo⟩ : ∃ wo, wo = wr := ⟨_, rfl⟩
      subst hwo
      obtain ⟨i, hi, rfl, hR, HR, hb⟩ := hrel
      clear l2 b2
      by_cases hlt : i < qs.length
      · obtain ⟨gQ, oc, tO, tx, ty, pa, Ap, cp, rfl, hp, hg, A0, A1', A2', A3', -, -⟩ := HQ2.out.elem5 hlt
        have HQC := Lib.hid (fun (W : World) (h : Below w1.heap.size w1 W) => And.intro (bcell1 h hg A0) (And.intro (bcell1 h hg A1') (And.intro (bcell1 h hg A2') (bcell1 h hg A3'))))
        obtain ⟨a0, a1, a2, a3⟩ := HQC.out wo hb
        clear A0 A1' A2' A3'
        have hgo := Nat.lt_of_lt_of_le hg hb.size
        have ho : os[i]? = some ⟨oc, ⟨tO, tx, ty⟩, pa⟩ := by rw [← HQ1.out, List.getElem?_map, hp]; rfl
        obtain ⟨kc, e1, hkc⟩ := HOC.out i _ ho
        dsimp only at e1
        subst e1
        have bw := b1.trans (hb.mono hs1)
        obtain ⟨gC, c, ⟨us, ul, ui⟩, rfl, hcell, hgl, F0, F1, F2, F3, h3⟩ := HL.out.elem hkc
        have f0 := bcell1 bw hgl F0
        have f1 := bcell1 bw hgl F1
        have f2 := bcell1 bw hgl F2
        have f3 := bcell1 bw hgl F3
        clear F0 F1 F2 F3
        have hglo := Nat.lt_of_lt_of_le hgl bw.size
        obtain ⟨A1, k1, g1, -, -⟩ := h3.s.form
        obtain ⟨A2, k2, g2, -, -⟩ := h3.l.form
        obtain ⟨A3, k3, g3, -, -⟩ := h3.i.form
        dsimp only at g1 g2 g3 f0 f1 f2 f3
        subst g1 g2 g3
        have HSh := Lib.hid h3.s
        dsimp only at HSh
        have Ho := Lib.hid ho
        have Hcell := Lib.hid hcell
        have d0 := (z1.on hb).cell 0
        simp at d0
        obtain ⟨AR, cR, rfl, -, -⟩ := hR.form
        have HRL := Lib.hid hR
        clear h3 hcell ho hp hR
        have hw0 := (z1.on hb).lt
        go_upto_region 8 with fail
        go_region
        clear a0 a1 a2 a3 f0 f1 f2 f3 d0
        have zc := (Bk.new wo 67 #[.string c.name, .slice A1 c.shapes.length k1, .slice A2 c.labels.length k2, .slice A3 c.insts.length k3]).drew
        have bc := (hb.alloc hb.size (.cells #[.string c.name, .slice A1 c.shapes.length k1, .slice A2 c.labels.length k2, .slice A3 c.insts.length k3] 67)).drew
        have l3 := FL.drew (FL.alloc HRL.out (.cells #[.string c.name, .slice A1 c.shapes.length k1, .slice A2 c.labels.length k2, .slice A3 c.insts.length k3] 67))
        obtain ⟨W3, hW3⟩ : ∃ W, W = (wo.alloc (.cells #[.string c.name, .slice A1 c.shapes.length k1, .slice A2 c.labels.length k2, .slice A3 c.insts.length k3] 67)).drew := ⟨_, rfl⟩
        rw [← hW3] at zc bc l3 ⊢
        clear hW3
        have hsh : shAt cs (kc : Int) = c.shapes := shAt_of Hcell.out
        have HSA := Lib.hid hsh
        obtain ⟨o9, Ho9⟩ : ∃ o9 : OcD, Hid (o9 = ⟨(kc : Int), ⟨tO, tx, ty⟩, pa⟩) := ⟨_, Lib.hid rfl⟩
        have HSB : Hid (shAt cs o9.cell = c.shapes) := Lib.hid (by rw [Ho9.out]; exact hsh)
        have HO9 : Hid (os[i]? = some o9) := Lib.hid (by rw [Ho9.out]; exact Ho.out)
        have HSv := Lib.hid (((lib_facts hv).2 kc c Hcell.out).2.2.1)
        have h24 : c.shapes.length ≤ 24 := ((lib_facts hv).2 kc c Hcell.out).1
        clear hsh
        go_wp2
        go_loopw [8, 11] (fun lw jv wr => ∃ j : Nat, j ≤ c.shapes.length ∧ jv = .int .i64 j ∧ ShL wr w1.heap.size lw (flAt cs os i o9 j) ∧ Hid (∀ s ∈ flAt cs os i o9 j, okRc s.box = true) ∧ Bk wr wo.heap.size 67 #[.string c.name, .slice A1 c.shapes.length k1, .slice A2 c.labels.length k2, .slice A3 c.insts.length k3] ∧ Below w1.heap.size w1 wr) (fun _ jv _ => c.shapes.length - (intOf jv).toNat)
        case atStart => exact ⟨0, Nat.zero_le _, rfl, by rw [flAt_zero]; exact l3, Lib.hid (by rw [flAt_zero]; exact HR.out), zc, bc⟩
        case round =>
          obtain ⟨wp, hwp⟩ : ∃ wp, wp = wr := ⟨_, rfl⟩
          subst hwp
          clear l3 zc bc
          obtain ⟨j, hj, rfl, hR, HRj, hz, hb3⟩ := hrel
          have e1 := hz.cell 1
          simp at e1
          by_cases hjl : j < c.shapes.length
          · have hb4 := b1.trans (hb3.mono hs1)
            obtain ⟨a0, a1, a2, a3⟩ := HQC.out wp hb3
            obtain ⟨gS, l, x0, y0, x1, y1, rfl, hs, hgS, s0, s1, s2, s3, s4⟩ := ShL.elem5 (FL.on HSh.out hb4) hjl
            have hgp := Nat.lt_of_lt_of_le hg hb3.size
            have hzl := hz.lt
            have Hok := Lib.hid (shape_ok (HSv.out _ (List.mem_of_getElem? hs)))
            have HR10 := Lib.hid (fun W => rect10_any ⟨tO, tx, ty⟩ ⟨x0, y0, x1, y1⟩ (HT.out i _ Ho.out) Hok.out W)
            have Hfs := Lib.hid (flAt_succ (os := os) (i := i) (o := o9) (j := j) (s := ⟨l, ⟨x0, y0, x1, y1⟩⟩) (by rw [HSB.out]; exact hs))
            have Hmv : Hid (mvS o9.t ⟨l, ⟨x0, y0, x1, y1⟩⟩ = ⟨l, moveR ⟨tO, tx, ty⟩ ⟨x0, y0, x1, y1⟩⟩) := Lib.hid (by rw [Ho9.out]; rfl)
            obtain ⟨⟨r0, r1, r2, r3⟩, hr⟩ : ∃ r : Rc, r = moveR ⟨tO, tx, ty⟩ ⟨x0, y0, x1, y1⟩ := ⟨_, rfl⟩
            rw [← hr] at HR10 Hmv
            have HC := Lib.hid (show ∀ W : World, Calls Tryz.prog 29 #[.agg #[.int .i64 tO, .int .i64 tx, .int .i64 ty], .agg #[.int .i64 x0, .int .i64 y0, .int .i64 x1, .int .i64 y1]] W fun e w' => e = .returned (.agg #[.int .i64 r0, .int .i64 r1, .int .i64 r2, .int .i64 r3]) ∧ Below W.heap.size W w' from HR10.out)
            have Hs := Lib.hid hs
            clear hr HR10 hs
            obtain ⟨AR2, cR2, rfl, -, -⟩ := hR.form
            have HRL2 := Lib.hid hR
            have zd := (Bk.new wp 60 #[.int .i64 0, .int .i64 0, .int .i64 0, .int .i64 0]).drew
            go_upto_region 12 with fail
            go_cut [12] from 38 to 70 (fun rv wx => ∃ rb, rv = .pointer (some ⟨rb, 0, none⟩) ∧ RBox wp wx rb r0 r1 r2 r3)
            case first =>
              go_region_law (first
                | (go_simp; go_at_call 29; ((with_reducible refine (HC.out ((wp.alloc (.cells #[.int .i64 0, .int .i64 0, .int .i64 0, .int .i64 0] 60)).drew)).mono ?_); rintro e W6 ⟨rfl, hb6⟩; have zr := zd.on hb6; have fr0 := zr.frozen 0; have fr1 := zr.frozen 1; have fr2 := zr.frozen 2; have fr3 := zr.frozen 3; obtain ⟨v0, v1, v2, v3⟩ := box4 zr; have HF := Lib.hid (RBox.early hb6 r0 r1 r2 r3); clear hb6 zr))
                | (go_simp; go_at_call 29; ((with_reducible refine (HC.out wp.drew).mono ?_); rintro e W6 ⟨rfl, hb6⟩; have HF := Lib.hid (RBox.late (show Below wp.heap.size wp W6 from (Below.refl wp.heap.size wp).drew.trans hb6) r0 r1 r2 r3); clear hb6)))
              all_goals
                go_wp2_with fail
                go_meet
                exact ⟨_, rfl, HF.out⟩
            case rest =>
              obtain ⟨rb, rfl, hb7, hl7, q0, q1, q2, q3⟩ := hcut
              clear a0 a1 a2 a3 s0 s1 s2 s3 s4 e1
              have HR9 := Lib.hid (fun W => rect9 ⟨r0, r1, r2, r3⟩ W)
              have z7 := hz.on hb7
              have l7 := FL.on HRL2.out hb7
              have b7 := hb3.trans (hb7.mono hb3.size)
              have hb47 := hb4.trans (hb7.mono hb4.size)
              cases hok : okRc ⟨r0, r1, r2, r3⟩ with
              | true =>
                have Hok2 := Lib.hid hok
                rw [hok] at HR9
                clear hok
                go_upto_region 15 with (go_at_call 30; (with_reducible refine (HR9.out _).mono ?_); rintro e w8 ⟨rfl, hb8⟩)
                have L8 := Lib.hid (FL.drew (FL.alloc (FL.on l7 hb8) (.cells #[.int .i64 l, .int .i64 r0, .int .i64 r1, .int .i64 r2, .int .i64 r3] 70)))
                have z8 := z7.on hb8
                have Z8 := Lib.hid ((z8.alloc (.cells #[.int .i64 l, .int .i64 r0, .int .i64 r1, .int .i64 r2, .int .i64 r3] 70)).drew)
                have b8 := b7.trans (hb8.mono b7.size)
                have B8 := Lib.hid ((b8.alloc b8.size (.cells #[.int .i64 l, .int .i64 r0, .int .i64 r1, .int .i64 r2, .int .i64 r3] 70)).drew)
                have e2 := z8.cell 1
                simp at e2
                have hz8 := z8.lt
                obtain ⟨gS', l', x0', y0', x1', y1', eg, hs', hgS', s0, -⟩ := ShL.elem5 (FL.on HSh.out (hb47.trans (hb8.mono hb47.size))) hjl
                obtain rfl : gS = gS' := by simpa using eg
                have t0 := bcell1 hb8 hl7 q0
                have t1 := bcell1 hb8 hl7 q1
                have t2 := bcell1 hb8 hl7 q2
                have t3 := bcell1 hb8 hl7 q3
                have hl8 := Nat.lt_of_lt_of_le hl7 hb8.size
                obtain rfl : l' = l := by
                  have := hs'.symm.trans Hs.out
                  simp at this
                  exact this.1
                clear q0 q1 q2 q3 eg hs' hb8 z8 l7 z7
                have hlen := HLN.out i o9 j HO9.out
                have hlen2 : (flAt cs os i o9 j).length ≤ 1000000 := by omega
                have hok' : Hid (∀ s ∈ flAt cs os i o9 j ++ [⟨l', ⟨r0, r1, r2, r3⟩⟩], okRc s.box = true) := Lib.hid (mem_snoc9 HRj.out Hok2.out)
                go_region_law (refine step_append_F (t := 70) (n := 5) (enc := ShapeD.vals) rfl (.tmp 60) (.tmp 69) 46 40 _ infoShape Tryz.underlying46 rfl (by decide) (by decide) rfl w1.heap.size (.slice AR2 (flAt cs os i o9 j).length cR2) (flAt cs os i o9 j) ⟨l', ⟨r0, r1, r2, r3⟩⟩ rfl L8.out rfl (shapeV_one _) w8.heap.size rfl (Bk.new w8 _ _).drew hlen2 B8.out.size ?_; intro v' w9 k1 k2 k3; have L9 := Lib.hid k1; have Z9 := Lib.hid (Z8.out.grown k2 (not_row L8.out Z8.out (by decide))); have B9 := Lib.hid (B8.out.grown k2 B8.out.size (fun q hq => (World.ownsRow.lt L8.out _ hq).1)); clear k1 k2 k3)
                all_goals
                  go_wp2
                  exact ⟨⟨j + 1, by omega, by go_num, by rw [Hfs.out, Hmv.out]; exact L9.out, by rw [Hfs.out, Hmv.out]; exact hok', Z9.out, B9.out⟩, by simp [intOf]; omega⟩
              | false =>
                rw [hok] at HR9
                clear hok
                go_wp2_with (go_at_call 30; (with_reducible refine (HR9.out _).mono ?_); rintro e w8 ⟨rfl, hb8⟩)
                refine bodyPost_ret (v := .tuple #[.slice none 0 0, .int .i64 2]) (by simp [results, Tryz.results14, go_sem, *]) rfl ?_
                exact ⟨_, 2, rfl, hb47.trans (hb8.mono hb47.size), .inl (by decide)⟩
          · have hje : j = c.shapes.length := by omega
            go_wp2
            have hfa := flAt_all (j := j) HO9.out (by rw [HSB.out]; exact hje)
            exact ⟨⟨i + 1, by omega, by go_num, by rw [← hfa]; exact hR, by rw [← hfa]; exact HRj, hb3⟩, by simp [intOf]; omega⟩
      · obtain rfl : i = qs.length := by omega
        have hol : os.take qs.length = os := List.take_of_length_le (by rw [← HQ1.out, List.length_map]; exact Nat.le_refl _)
        rw [hol] at hR HR
        obtain ⟨AR, cR, rfl, -, -⟩ := hR.form
        have HR2 := Lib.hid hR
        clear hR hol
        go_wp2
        refine bodyPost_ret (v := .tuple #[.slice AR (flS cs os).length cR, .int .i64 0]) (by simp [results, Tryz.results14, go_sem, *]) rfl ?_
        refine ⟨_, 0, rfl, b1.trans (hb.mono hs1), .inr ⟨rfl, ⟨HK.out.1, HK.out.2.1, HK.out.2.2.1, HK.out.2.2.2, fun x hx => ?_⟩, ?_⟩⟩
        · refine HR.out x.2 ?_
          rw [Hos.out, ← flS_eq]
          exact List.mem_map_of_mem hx
        · rw [← Hos.out]
          exact FL.less HR2.out hs1

end Go.Proofs.YtgegbgkokkdmpaaGreat
