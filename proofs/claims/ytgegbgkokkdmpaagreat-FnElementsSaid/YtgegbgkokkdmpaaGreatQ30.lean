/- Contracts: a path copied, one more number put behind it. Condition: a path in memory. Contract: impl.below: the occurrences below one. Conditions: a valid library, few occurrences. -/
import Derived.Test.YtgegbgkokkdmpaaGreatQ29
import Derived.Laws.AppendOwnNone
import Derived.Deep.RegionHeld3
import Derived.Test.YtgegbgkokkdmpaaGreatQ21

namespace Go.Proofs.YtgegbgkokkdmpaaGreat
open Go.RowKit

theorem valsI_one (xs : List Int) : ∀ y ∈ valsI xs, y.oneCell' = true := by
  intro y hy
  simp only [valsI, List.mem_map] at hy
  obtain ⟨x, -, rfl⟩ := hy
  rfl
/-- 'append([]int64{}, xs...)'. -/
theorem wpList_append_II {w : World} {ops : Array Oper} {rest : List Oper} {o : Oper} {a : Act} {Q : Exit → Act → World → Prop} (hgd : o.guard = none) (s x : Operand)
    (ho : o.op = .call { callee := .builtin .append, args := #[s, x], argTypes := #[34, 34] })
    (B B' : Nat) (v u : Value) (xs : List Int) (hs : a.eval s = v) (hown : IL w B v []) (hx : a.eval x = u) (hu : IL w B' u xs) (hlen : xs.length ≤ 1000000) (hB : B ≤ w.heap.size)
    (h : ∀ v' w', IL w' B v' xs → w.grownBy w' v.ownBlock → Below B w w' → wpList Tryz.prog ops Q rest (a.put o.dst v') w') :
    wpList Tryz.prog ops Q (o :: rest) a w := by
  obtain ⟨i, hi, hz, hsz, hby⟩ := info_parts infoInt
  refine wpList_plain hgd fun K hK => ?_
  rcases hu.2 with ⟨rfl, hn0⟩ | ⟨g, cap, cur, rfl, hb, hg, hnc, hm, hsz2, htk⟩
  · obtain rfl : xs = [] := List.eq_nil_of_length_eq_zero hn0
    have hrun := run_append_owned_none (P := Tryz.prog) (w := w) B 34 o.type 2 i 1 Tryz.underlying34 hi v 0 [] hown
    unfold Oper.wp
    simp [execOp, ho, resolve, invoke, builtin, hs, hx, hrun, Result.andThen]
    exact hK _ _ (h _ _ hown ⟨rfl, rfl, rfl, Nat.le_refl _, fun _ _ _ => rfl⟩ (Below.refl _ _))
  · refine wp_append_own _ s x 34 ho B 2 i _ 1 8 Tryz.underlying34 hi hz hsz hby rfl (by decide) v 0 [] hs hown ⟨g, 0, none⟩ xs.length cap (valsI xs) hx (by simp [valsI]) ?_ (valsI_one xs) (by simp only [maxLen]; omega) (by omega) hB ?_
    · intro j y hy
      rw [Addr.add_lit, Nat.zero_add]
      have hj : j < xs.length * 1 := by have := (List.getElem?_eq_some_iff.1 hy).1; simpa [valsI] using this
      simp only [World.cell?, hg]
      rw [← htk] at hy
      rw [List.getElem?_take, if_pos hj] at hy
      simpa using hy
    · intro v' w' h1 h2 _
      refine hK _ _ (h v' w' ?_ h2 (below_own hown h2 hB))
      unfold IL
      rw [Nat.zero_add, List.nil_append] at h1
      exact h1
theorem IL.lit0 (w : World) {B : Nat} (hB : B ≤ w.heap.size) : IL (w.alloc (.cells #[] 2)) B (.slice (some ⟨w.heap.size, 0, none⟩) 0 0) [] := World.ownsRow_lit w #[] 0 hB (by simp [maxLen]) rfl
set_option maxHeartbeats 800000 in
set_option maxRecDepth 100000 in
/-- slices.Clone of a list of numbers. -/
theorem cloneI_any (v : Value) (xs : List Int) (w : World) (hv : IL w 0 v xs) (hl : xs.length ≤ 1000000) :
    Calls Tryz.prog 75 #[v] w fun e w' => ∃ u, e = .returned u ∧ IL w' w.heap.size u xs ∧ Below w.heap.size w w' := by
  obtain ⟨A, c, rfl, -, -⟩ := hv.form
  cases A with
  | none =>
    have hn : xs.length = 0 := by
      rcases hv.2 with ⟨e, h⟩ | ⟨g, cap, cur, e, -⟩
      · exact h
      · simp at e
    obtain rfl : xs = [] := List.eq_nil_of_length_eq_zero hn
    have hnil : ∀ w : World, (binOp .eql 34 (.slice none 0 c) (.slice none 0 0)).run Tryz.prog w = .ok (.bool true) w := fun w => Lib.run_eql_slice_nil w 34 2 _ _ _ _ _ Tryz.underlying34
    go_enter Tryz.func75, Tryz.ntmps75
    go_wp2
    go_ret
    exact ⟨_, rfl, World.ownsRow_nil w _ _ _, Below.refl _ _⟩
  | some a =>
    have hnil : ∀ w : World, (binOp .eql 34 (.slice (some a) xs.length c) (.slice none 0 0)).run Tryz.prog w = .ok (.bool false) w := fun w => Lib.run_eql_slice_nil w 34 2 _ _ _ _ _ Tryz.underlying34
    have l1 := IL.lit0 w (Nat.le_refl _)
    have hv1 := IL.alloc hv (.cells #[] 2)
    have b1 := (Below.refl w.heap.size w).alloc (Nat.le_refl _) (.cells #[] 2)
    have hs := b1.size
    clear hv
    go_enter Tryz.func75, Tryz.ntmps75
    go_wp2_with (at_builtin; refine wpList_append_II rfl (.tmp 5) (.tmp 6) rfl w.heap.size 0 _ _ xs rfl l1 rfl hv1 hl hs ?_; intro v' w3 hR4 hg4 hb4)
    go_ret
    exact ⟨_, rfl, hR4, b1.trans hb4⟩

end Go.Proofs.YtgegbgkokkdmpaaGreat

namespace Go.Proofs.YtgegbgkokkdmpaaGreat
open Go.RowKit

theorem Ext.ne {w w' : World} {v v' : Value} {g : Nat} (h : Ext w v w' v') (hv : v.ownBlock ≠ some g) (hg : g < w.heap.size) : v'.ownBlock ≠ some g := fun e => by
  rcases h.at_ g e with h1 | h1
  · exact hv h1
  · omega
theorem ElL.elem4 {w : World} {B : Nat} {A : Option Addr} {m c k : Nat} {xs : List (Int × Tf)} (h : ElL w B (.slice A m c) xs) (hk : k < xs.length) : ∃ g cl o x y, A = some ⟨g, 0, none⟩ ∧ xs[k]? = some (cl, ⟨o, x, y⟩) ∧ g < w.heap.size ∧
    w.cell? ⟨g, k * 4, none⟩ = some (.int .i64 cl) ∧ w.cell? ⟨g, k * 4 + 1, none⟩ = some (.int .i64 o) ∧ w.cell? ⟨g, k * 4 + 2, none⟩ = some (.int .i64 x) ∧ w.cell? ⟨g, k * 4 + 3, none⟩ = some (.int .i64 y) := by
  obtain ⟨g, ⟨cl, o, x, y⟩, hA, hp, -, hg, hc⟩ := FL.elem elV_len h hk
  exact ⟨g, cl, o, x, y, hA, hp, hg, hc 0 _ rfl, hc 1 _ rfl, hc 2 _ rfl, hc 3 _ rfl⟩
theorem box5o {w : World} {g : Nat} {t : TypeId} {a b c d e : Value} (h : Bk w g t #[a, b, c, d, e]) : w.cell? ⟨g, 0, none⟩ = some a ∧ w.cell? ⟨g, 1, none⟩ = some b ∧ w.cell? ⟨g, 2, none⟩ = some c ∧ w.cell? ⟨g, 3, none⟩ = some d ∧ w.cell? ⟨g, 4, none⟩ = some e :=
  ⟨h.cell 0, h.cell 1, h.cell 2, h.cell 3, h.cell 4⟩
theorem sml_small {m : Nat} {t : Tf} (h : Sml (m : Int) t) (hm : m ≤ 5000) : t.small := by
  obtain ⟨h1, h2, h3⟩ := h
  exact ⟨h1, by omega, by omega⟩
/-- A list of occurrences that has grown by those of o. -/
def OcAns (cs : List CellD) (f : Nat) (o : OcD) (B : Nat) (v : Value) (ps : List (OcD × Value)) (w : World) (e : Ending) (w' : World) : Prop :=
  ∃ v' qs, e = .returned v' ∧ OW w' B v' qs ∧ Hid (qs.map Prod.fst = ps.map Prod.fst ++ occ cs f o) ∧ Ext w v w' v'
/-- What the child by element j wants. -/
theorem kid_facts {cs : List CellD} {f k j : Nat} {c : CellD} {t : Tf} {path : List Int} {ec : Int} {et : Tf} {n : Nat} (hlib : libB cs = true) (hk : k < f + 1) (h8 : f + 1 ≤ 8) (hc : cs[k]? = some c) (ht : Sml ((320 * (8 - (f + 1)) : Nat) : Int) t) (he : (elsOf c)[j]? = some (ec, et))
    (hn : n + (occ cs (f + 1) ⟨k, t, path⟩).length ≤ 1000) (m : Nat) (hm : m = n + (1 + (below cs f ⟨k, t, path⟩ j).length)) :
    ∃ kc : Nat, ec = (kc : Int) ∧ kc < f ∧ kc < cs.length ∧ Sml ((320 * (8 - f) : Nat) : Int) (compT et t) ∧ et.small ∧ t.small ∧ m + (occ cs f ⟨(kc : Int), compT et t, path ++ [(j : Int)]⟩).length ≤ 1000 ∧
      below cs f ⟨k, t, path⟩ (j + 1) = below cs f ⟨k, t, path⟩ j ++ occ cs f ⟨(kc : Int), compT et t, path ++ [(j : Int)]⟩ := by
  have hl := (List.getElem?_eq_some_iff.1 hc).1
  obtain ⟨h9, h10, h11, h12⟩ := (lib_facts hlib).2 k c hc
  obtain ⟨⟨e1, e2⟩, e3, e4, e5⟩ := mem_els h12 (List.mem_of_getElem? he)
  dsimp only at e1 e2 e3 e4 e5
  refine ⟨ec.toNat, by omega, by omega, by omega, ?_, ⟨e3, by omega, by omega⟩, sml_small ht (by omega), ?_⟩
  · have h1 : Sml ((320 : Nat) : Int) et := ⟨e3, by omega, by omega⟩
    have h2 := comp_sml h1 ht
    have e : ((320 * (8 - f) : Nat) : Int) = ((320 : Nat) : Int) + ((320 * (8 - (f + 1)) : Nat) : Int) := by omega
    rw [e]
    exact h2
  · have hce : (ec.toNat : Int) = ec := by omega
    have hel : elAt cs ((⟨k, t, path⟩ : OcD).cell) = elsOf c := elAt_of hc
    have hb : below cs f ⟨k, t, path⟩ (j + 1) = below cs f ⟨k, t, path⟩ j ++ occ cs f ⟨((ec.toNat : Nat) : Int), compT et t, path ++ [(j : Int)]⟩ := by
      rw [hce]
      exact below_succ (by rw [hel]; exact he)
    refine ⟨?_, hb⟩
    have hj : j + 1 ≤ (elAt cs ((⟨k, t, path⟩ : OcD).cell)).length := by rw [hel]; exact (List.getElem?_eq_some_iff.1 he).1
    have h3 := below_le (cs := cs) (n := f) (o := ⟨k, t, path⟩) hj
    rw [hb, List.length_append] at h3
    rw [occ_succ, List.length_cons] at hn
    omega

set_option maxHeartbeats 3200000 in
set_option maxRecDepth 100000 in
/-- below. -/
theorem below_any (cs : List CellD) (hlib : libB cs = true) : ∀ (f k : Nat) (t : Tf) (path : List Int) (lv u v : Value) (ps : List (OcD × Value)) (B : Nat) (w : World), k < f → f ≤ 8 → k < cs.length → Sml ((320 * (8 - f) : Nat) : Int) t → path.length + f ≤ 8 →
    LibV w 0 lv cs → IL w 0 u path → OW w B v ps → B ≤ w.heap.size → ps.length + (occ cs f ⟨k, t, path⟩).length ≤ 1000 →
    Calls Tryz.prog 58 #[.agg #[lv], v, .agg #[.int .i64 k, .int .i64 t.o, .int .i64 t.x, .int .i64 t.y, u]] w (OcAns cs f ⟨k, t, path⟩ B v ps w) := by
  intro f
  induction f with
  | zero => intro k t path lv u v ps B w hk; omega
  | succ f ih =>
    intro k t path lv u v ps B w hk h8 hkc ht hp hL hU hO hB hcnt
    obtain ⟨AL, cL, rfl, -, hm⟩ := hL.form
    obtain ⟨Au, cu, rfl, -, -⟩ := hU.form
    have hnv : v.ownBlock ≠ some (w.heap.size + 1) := fun e => by have := (hO.lt _ e).2; omega
    obtain ⟨o, x, y⟩ := t
    have zl := (Bk.new w 26 #[.slice AL cs.length cL]).alloc (.cells #[.int .i64 k, .int .i64 o, .int .i64 x, .int .i64 y, .slice Au path.length cu] 80)
    have zo := Bk.new (w.alloc (.cells #[.slice AL cs.length cL] 26)) 80 #[.int .i64 k, .int .i64 o, .int .i64 x, .int .i64 y, .slice Au path.length cu]
    have e1 : (w.alloc (.cells #[.slice AL cs.length cL] 26)).heap.size = w.heap.size + 1 := by simp
    rw [e1] at zo
    have b1 := ((Below.refl w.heap.size w).alloc (Nat.le_refl _) (.cells #[.slice AL cs.length cL] 26)).alloc (by simp) (.cells #[.int .i64 k, .int .i64 o, .int .i64 x, .int .i64 y, .slice Au path.length cu] 80)
    have s1 : w.heap.size + 1 < ((w.alloc (.cells #[.slice AL cs.length cL] 26)).alloc (.cells #[.int .i64 k, .int .i64 o, .int .i64 x, .int .i64 y, .slice Au path.length cu] 80)).heap.size := by simp
    have L1 := hL.on b1
    have U1 := hU.on b1
    have O1 := hO.on b1
    have X1 := Ext.of (v := v) b1
    have hB1 := Nat.le_trans hB b1.size
    have hl1 : ps.length ≤ 1000000 := by omega
    clear hL hU hO e1
    dsimp only
    go_enter Tryz.func58, Tryz.ntmps58
    go_upto_region 1 with fail
    obtain ⟨W1, hW1⟩ : ∃ W, W = (w.alloc (.cells #[.slice AL cs.length cL] 26)).alloc (.cells #[.int .i64 k, .int .i64 o, .int .i64 x, .int .i64 y, .slice Au path.length cu] 80) := ⟨_, rfl⟩
    rw [← hW1] at zl zo b1 s1 L1 U1 O1 X1 hB1 ⊢
    clear hW1
    obtain ⟨c0, c1, c2, c3, c4⟩ := box5o zo
    have HO1 := Lib.hid O1
    have HU1 := Lib.hid U1
    have HL1 := Lib.hid L1
    clear L1 U1 O1
    go_upto_region 2 with (at_builtin; refine wpList_append_OW rfl (.tmp 10) (.tmp 12) rfl B _ ps ⟨k, ⟨o, x, y⟩, path⟩ (.slice Au path.length cu) rfl HO1.out HU1.out rfl hl1 hB1 ?_; intro v1 W2 O2 X2)
    have hlt0 : W1.heap.size ≤ W2.heap.size := X2.gro.size
    have HL2 := Lib.hid (LibV.keptO HO1.out X2.gro HL1.out)
    have HU2 := Lib.hid (HO1.out.ints X2.gro HU1.out)
    have zl2 := HO1.out.bk X2.gro zl (by decide)
    have zo2 := zo.grown X2.gro (Ne.symm hnv)
    have hnv1 := X2.ne hnv s1
    have hnv1' : v1.ownBlock ≠ some (w.heap.size + 1) := hnv1
    have X12 := Lib.hid (X1.trans X2)
    have HO2 := Lib.hid O2
    have hB2 := Nat.le_trans hB1 hlt0
    clear zl zo c0 c1 c2 c3 c4 O2 X2 X1 HO1 HU1 HL1
    obtain ⟨gC, c, ⟨us, ul, ui⟩, rfl, hcell, hgl, f0, f1, f2, f3, h3⟩ := HL2.out.elem hkc
    obtain ⟨A1, k1, g1, -, -⟩ := h3.s.form
    obtain ⟨A2, k2, g2, -, -⟩ := h3.l.form
    obtain ⟨A3, k3, g3, -, -⟩ := h3.i.form
    dsimp only at g1 g2 g3 f0 f1 f2 f3
    subst g1 g2 g3
    have HF := Lib.hid ((lib_facts hlib).2 k c hcell)
    have HI := Lib.hid h3.i
    dsimp only at HI
    have Hcell := Lib.hid hcell
    have d0 := zl2.cell 0
    have hEl := elAt_of hcell
    have c0 := (box5o zo2).1
    simp at d0
    clear h3 hcell
    go_wp2_with (go_at_call 36; (with_reducible refine (elements_any c.name A1 A2 A3 _ k1 _ k2 k3 c.insts k _ HI.out HF.out.2.1 HF.out.2.2.2).mono ?_); rintro e W3 ⟨ev, rfl, hE, hb3⟩; obtain ⟨Ae, ke, rfl, -, -⟩ := hE.form)
    have hlt3 : W2.heap.size ≤ W3.heap.size := hb3.size
    have HL3 := Lib.hid (HL2.out.on hb3)
    have HU3 := Lib.hid (HU2.out.on hb3)
    have HE3 := Lib.hid (hE.less (Nat.zero_le _))
    have Zl3 := Lib.hid (zl2.on hb3)
    have Zo3 := Lib.hid (zo2.on hb3)
    have O3 := HO2.out.on hb3
    have HO3 := Lib.hid O3
    have X13 := Lib.hid (X12.out.on hb3)
    have Hel : Hid (elAt cs ((⟨k, ⟨o, x, y⟩, path⟩ : OcD).cell) = elsTo c.insts c.insts.length) := Lib.hid hEl
    have hlen : (elsTo c.insts c.insts.length).length ≤ 128 := elsOf_len HF.out.2.2.2 HF.out.2.1
    clear hb3 hE HL2 HU2 zl2 zo2 HO2 X12 f0 f1 f2 f3 c0 d0 hEl HI hgl
    go_loopw [1, 22] (fun lw iv wr => ∃ (j : Nat) (qs : List (OcD × Value)), j ≤ (elsTo c.insts c.insts.length).length ∧ iv = .int .i64 j ∧ OW wr B lw qs ∧ Hid (qs.map Prod.fst = ps.map Prod.fst ++ (⟨k, ⟨o, x, y⟩, path⟩ :: below cs f ⟨k, ⟨o, x, y⟩, path⟩ j)) ∧ Ext W3 v1 wr lw) (fun _ iv _ => (elsTo c.insts c.insts.length).length - (intOf iv).toNat)
    case atStart => exact ⟨0, _, Nat.zero_le _, rfl, O3, Lib.hid (by simp [below_zero]), Ext.refl _ _⟩
    case round =>
      obtain ⟨wo, hwo⟩ : ∃ wo, wo = wr := ⟨_, rfl⟩
      subst hwo
      obtain ⟨j, qs, hj, rfl, hO, HQ, hX⟩ := hrel
      clear O3
      by_cases hlt : j < (elsTo c.insts c.insts.length).length
      · have hsz := hX.gro.size
        obtain ⟨gE, ec, eo, ex, ey, rfl, hel, hge, p0, p1, p2, p3⟩ := ElL.elem4 (HO3.out.els hX.gro HE3.out) hlt
        have hql : qs.length = ps.length + (1 + (below cs f ⟨k, ⟨o, x, y⟩, path⟩ j).length) := by
          have := congrArg List.length HQ.out
          simp at this
          omega
        obtain ⟨kc, rfl, hkf, hkl, hs1, hs2, hs3, hcn, hbs⟩ := kid_facts hlib hk h8 Hcell.out ht hel hcnt qs.length hql
        have hne3 := hX.ne hnv1' (by omega)
        have Hes := Lib.hid (compose_any ⟨eo, ex, ey⟩ ⟨o, x, y⟩ hs2 hs3)
        obtain ⟨⟨tO, tx, ty⟩, hT⟩ : ∃ T : Tf, T = compT ⟨eo, ex, ey⟩ ⟨o, x, y⟩ := ⟨_, rfl⟩
        rw [← hT] at hs1 hcn hbs Hes
        have HC := Lib.hid (show ∀ W : World, Calls Tryz.prog 76 #[.agg #[.int .i64 eo, .int .i64 ex, .int .i64 ey], .agg #[.int .i64 o, .int .i64 x, .int .i64 y]] W fun e w' => e = .returned (.agg #[.int .i64 tO, .int .i64 tx, .int .i64 ty]) ∧ Below W.heap.size W w' from Hes.out)
        have Hs1 := Lib.hid hs1
        have Hcn := Lib.hid hcn
        have Hbs := Lib.hid hbs
        clear hT hs1 hs2 hs3 hcn hbs Hes hel
        have zoR := (Zo3.out.grown hX.gro (Ne.symm hnv1')).alloc (.cells #[.int .i64 kc, .int .i64 eo, .int .i64 ex, .int .i64 ey] 114)
        have UR := (HO3.out.ints hX.gro HU3.out).alloc (.cells #[.int .i64 kc, .int .i64 eo, .int .i64 ex, .int .i64 ey] 114)
        have z8 := Bk.new wo 114 #[.int .i64 kc, .int .i64 eo, .int .i64 ex, .int .i64 ey]
        have bR := (Below.refl wo.heap.size wo).alloc (Nat.le_refl _) (.cells #[.int .i64 kc, .int .i64 eo, .int .i64 ex, .int .i64 ey] 114)
        have c4 := (box5o zoR).2.2.2.2
        have hpl : path.length ≤ 1000000 := by omega
        go_upto_region 5 with fail
        clear p0 p1 p2 p3
        obtain ⟨W4, hW4⟩ : ∃ W, W = wo.alloc (.cells #[.int .i64 kc, .int .i64 eo, .int .i64 ex, .int .i64 ey] 114) := ⟨_, rfl⟩
        rw [← hW4] at zoR UR z8 bR c4 ⊢
        clear hW4
        have HUR := Lib.hid UR
        clear UR
        go_upto_region 6 with (first
          | (go_at_call 75; (with_reducible refine (cloneI_any _ path _ HUR.out hpl).mono ?_); rintro e W5 ⟨u1, rfl, hI5, hb5⟩)
          | (at_builtin; refine wpList_append_I rfl (.tmp 29) (.tmp 31) rfl W4.heap.size u1 path rfl hI5 (j : Int) rfl hpl hb5.size ?_; intro u2 W6 hI6 hg6 hb6))
        obtain ⟨P2, HP2⟩ : ∃ P2, Hid (P2 = path ++ [(j : Int)]) := ⟨_, Lib.hid rfl⟩
        rw [← HP2.out] at hI6
        have hP2 : P2.length + f ≤ 8 := by rw [HP2.out]; simp; omega
        have Hcn2 : Hid (qs.length + (occ cs f ⟨(kc : Int), ⟨tO, tx, ty⟩, P2⟩).length ≤ 1000) := by rw [HP2.out]; exact Hcn
        have Hih : ∀ (lv u v : Value) (W : World), LibV W 0 lv cs → IL W 0 u P2 → OW W B v qs → B ≤ W.heap.size → Calls Tryz.prog 58 #[.agg #[lv], v, .agg #[.int .i64 kc, .int .i64 tO, .int .i64 tx, .int .i64 ty, u]] W (OcAns cs f ⟨kc, ⟨tO, tx, ty⟩, P2⟩ B v qs W) :=
          fun lv u v W h1 h2 h3 h4 => ih kc ⟨tO, tx, ty⟩ P2 lv u v qs B W hkf (by omega) hkl Hs1.out hP2 h1 h2 h3 h4 Hcn2.out
        have HIH := Lib.hid Hih
        clear Hih hP2
        have b46 := hb5.trans hb6
        have bo6 := (bR.trans (b46.mono bR.size)).drew
        obtain ⟨A2', c2', rfl, -, -⟩ := hI6.form
        have HO6 := Lib.hid (hO.on bo6)
        have HL6 := Lib.hid ((LibV.keptO HO3.out hX.gro HL3.out).on bo6)
        have HU6 := Lib.hid (show IL W6.drew 0 (.slice A2' P2.length c2') P2 from (hI6.less (Nat.zero_le _)).drew)
        have Zl6 := Lib.hid ((HO3.out.bk hX.gro Zl3.out (by decide)).on bo6)
        have Zo6 := Lib.hid ((zoR.on b46).drew)
        have Z86 := Lib.hid ((z8.on b46).drew)
        have X6 := Lib.hid (hX.on bo6)
        have hB6 := Lib.hid (Nat.le_trans (Nat.le_trans (Nat.le_trans (Nat.le_trans hB2 hlt3) hsz) bo6.size) (Nat.le_refl _))
        have hlo : w.heap.size + 1 < wo.heap.size := by omega
        have hop : wo.heap.size ≤ W6.drew.heap.size := bo6.size
        have NE := Lib.hid hne3
        have F0 := Lib.hid (show _ ∧ _ ∧ _ ∧ _ ∧ _ ∧ _ ∧ _ ∧ _ from ⟨Zl6.out.cell 0, (box4 Z86.out).1, (box4 Z86.out).2.1, (box4 Z86.out).2.2.1, (box4 Z86.out).2.2.2, (box5o Zo6.out).2.1, (box5o Zo6.out).2.2.1, (box5o Zo6.out).2.2.2.1⟩)
        clear hO hI6 hI5 hb5 hb6 hg6 b46 bR zoR z8 c4 HUR hne3
        go_region_held3 (fun w' => w'.cell? ⟨w.heap.size, 0, none⟩ = some (.slice (some ⟨gC, 0, none⟩) cs.length cL) ∧ w'.cell? ⟨wo.heap.size, 0, none⟩ = some (.int .i64 kc) ∧ w'.cell? ⟨wo.heap.size, 1, none⟩ = some (.int .i64 eo) ∧ w'.cell? ⟨wo.heap.size, 2, none⟩ = some (.int .i64 ex) ∧ w'.cell? ⟨wo.heap.size, 3, none⟩ = some (.int .i64 ey) ∧ w'.cell? ⟨w.heap.size + 1, 1, none⟩ = some (.int .i64 o) ∧ w'.cell? ⟨w.heap.size + 1, 2, none⟩ = some (.int .i64 x) ∧ w'.cell? ⟨w.heap.size + 1, 3, none⟩ = some (.int .i64 y))
          (first | exact F0.out | exact F1.out | exact F2.out)
          (first
            | (go_at_call 76; (with_reducible refine (HC.out _).mono ?_); rintro e W7 ⟨rfl, hb7⟩; have HO7 := Lib.hid (HO6.out.on hb7); have HL7 := Lib.hid (HL6.out.on hb7); have HU7 := Lib.hid (HU6.out.on hb7); have Zl7 := Lib.hid (Zl6.out.on hb7); have Zo7 := Lib.hid (Zo6.out.on hb7); have Z87 := Lib.hid (Z86.out.on hb7); have X7 := Lib.hid (X6.out.on hb7); have hB7 := Lib.hid (Nat.le_trans hB6.out hb7.size); have hs7 := Nat.le_trans hop hb7.size; clear hb7; have F1 := Lib.hid (show _ ∧ _ ∧ _ ∧ _ ∧ _ ∧ _ ∧ _ ∧ _ from ⟨Zl7.out.cell 0, (box4 Z87.out).1, (box4 Z87.out).2.1, (box4 Z87.out).2.2.1, (box4 Z87.out).2.2.2, (box5o Zo7.out).2.1, (box5o Zo7.out).2.2.1, (box5o Zo7.out).2.2.2.1⟩))
            | (go_at_call 58; (with_reducible refine (HIH.out _ _ _ _ HL7.out HU7.out HO7.out hB7.out).mono ?_); rintro e W8 ⟨v8, qs8, rfl, hO8, HQ8, hX8⟩; have X8 := Lib.hid (X7.out.trans hX8); have F2 := Lib.hid (show _ ∧ _ ∧ _ ∧ _ ∧ _ ∧ _ ∧ _ ∧ _ from ⟨(HO7.out.bk hX8.gro Zl7.out (by decide)).cell 0, (box4 (HO7.out.bk hX8.gro Z87.out (by decide))).1, (box4 (HO7.out.bk hX8.gro Z87.out (by decide))).2.1, (box4 (HO7.out.bk hX8.gro Z87.out (by decide))).2.2.1, (box4 (HO7.out.bk hX8.gro Z87.out (by decide))).2.2.2, (box5o (Zo7.out.grown hX8.gro (Ne.symm NE.out))).2.1, (box5o (Zo7.out.grown hX8.gro (Ne.symm NE.out))).2.2.1, (box5o (Zo7.out.grown hX8.gro (Ne.symm NE.out))).2.2.2.1⟩)))
        go_wp2
        exact ⟨⟨j + 1, qs8, by omega, by go_num, hO8, Lib.hid (by rw [HQ8.out, HQ.out, Hbs.out, HP2.out, List.append_assoc, List.cons_append]), X8.out⟩, by simp [intOf]; omega⟩
      · go_wp2
        go_ret
        obtain rfl : j = (elsTo c.insts c.insts.length).length := by omega
        exact ⟨_, _, rfl, hO, Lib.hid (by rw [HQ.out, occ_succ, Hel.out]), X13.out.trans hX⟩

end Go.Proofs.YtgegbgkokkdmpaaGreat
