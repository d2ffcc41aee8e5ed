/- Contract: spec.l10Occurrences: the occurrences below one. Conditions: a valid library, few occurrences. -/
import Derived.Test.YtgegbgkokkdmpaaGreatQ30
import Derived.Test.YtgegbgkokkdmpaaGreatQ31

namespace Go.Proofs.YtgegbgkokkdmpaaGreat
open Go.RowKit

theorem pre_step {α : Type} {f : Nat → List α} (h : ∀ n, ∃ g, f (n + 1) = f n ++ g) {a : Nat} : ∀ {b : Nat}, a ≤ b → f a <+: f b
  | 0, hab => by obtain rfl : a = 0 := (by omega); exact List.prefix_refl _
  | b + 1, hab => by
    by_cases e : a = b + 1
    · subst e; exact List.prefix_refl _
    · obtain ⟨g, hg⟩ := h b
      rw [hg]
      exact (pre_step h (by omega)).trans (List.prefix_append _ _)
/-- The element of row r and column c. -/
theorem elsAt_get {is : List InstD} {n : Nat} {i : InstD} (hn : is[n]? = some i) {r c : Nat} (hr : r < i.rows.toNat) (hc : c < i.cols.toNat) : (elsTo is is.length)[(elsAt is n i r c).length]? = some (i.cell, elT i c r) := by
  have hlt := (List.getElem?_eq_some_iff.1 hn).1
  have h1 : elsTo is (n + 1) <+: elsTo is is.length := pre_step (fun m => by
    by_cases hm : m < is.length
    · exact ⟨_, elsTo_succ (List.getElem?_eq_getElem hm)⟩
    · exact ⟨[], by unfold elsTo; rw [List.take_of_length_le (by omega), List.take_of_length_le (by omega), List.append_nil]⟩) (by omega)
  have h2 : insEl i (r + 1) <+: insEl i i.rows.toNat := pre_step (fun m => ⟨_, insEl_succ i m⟩) (by omega)
  have h3 : rowEl i r (c + 1) <+: rowEl i r i.cols.toNat := pre_step (fun m => ⟨_, rowEl_succ i r m⟩) (by omega)
  obtain ⟨t1, e1⟩ := h1
  obtain ⟨t2, e2⟩ := h2
  obtain ⟨t3, e3⟩ := h3
  have e4 : elsTo is is.length = elsAt is n i r c ++ ((i.cell, elT i c r) :: (t3 ++ t2 ++ t1)) := by
    rw [← e1, elsTo_succ hn, ← e2, insEl_succ, ← e3, rowEl_succ]
    unfold elsAt
    simp
  rw [e4, List.getElem?_append_right (Nat.le_refl _), Nat.sub_self]
  rfl
theorem OW.insts {w w' : World} {B B' : Nat} {v u : Value} {ps : List (OcD × Value)} {xs : List InstD} (h : OW w B v ps) (hg : w.grownBy w' v.ownBlock) (hu : InL w B' u xs) : InL w' B' u xs := World.ownsRow.kept hu hg (own_types hu h.own (by decide))
theorem InL.at8 {w : World} {B g m n k : Nat} {xs : List InstD} {cl o x y cols rows sx sy : Int} (h : InL w B (.slice (some ⟨g, 0, none⟩) m n) xs) (hx : xs[k]? = some ⟨cl, o, x, y, cols, rows, sx, sy⟩) :
    w.cell? ⟨g, k * 8, none⟩ = some (.int .i64 cl) ∧ w.cell? ⟨g, k * 8 + 1, none⟩ = some (.int .i64 o) ∧ w.cell? ⟨g, k * 8 + 2, none⟩ = some (.int .i64 x) ∧ w.cell? ⟨g, k * 8 + 3, none⟩ = some (.int .i64 y) ∧ w.cell? ⟨g, k * 8 + 4, none⟩ = some (.int .i64 cols) ∧ w.cell? ⟨g, k * 8 + 5, none⟩ = some (.int .i64 rows) ∧ w.cell? ⟨g, k * 8 + 6, none⟩ = some (.int .i64 sx) ∧ w.cell? ⟨g, k * 8 + 7, none⟩ = some (.int .i64 sy) := by
  obtain ⟨g', cl', o', x', y', cols', rows', sx', sy', e, hx', -, hc⟩ := InL.elem8 h (List.getElem?_eq_some_iff.1 hx).1
  obtain rfl : g = g' := by simpa using e
  have e2 := hx'.symm.trans hx
  simp only [Option.some.injEq, InstD.mk.injEq] at e2
  obtain ⟨rfl, rfl, rfl, rfl, rfl, rfl, rfl, rfl⟩ := e2
  exact hc

set_option maxHeartbeats 3200000 in
set_option maxRecDepth 100000 in
/-- l10Occurrences. -/
theorem occ10_any (cs : List CellD) (hlib : libB cs = true) : ∀ (f k : Nat) (t : Tf) (path : List Int) (lv u v : Value) (ps : List (OcD × Value)) (B : Nat) (w : World), k < f → f ≤ 8 → k < cs.length → Sml ((320 * (8 - f) : Nat) : Int) t → path.length + f ≤ 8 →
    LibV w 0 lv cs → IL w 0 u path → OW w B v ps → B ≤ w.heap.size → ps.length + (occ cs f ⟨k, t, path⟩).length ≤ 1000 →
    Calls Tryz.prog 48 #[.agg #[lv], v, .agg #[.int .i64 k, .int .i64 t.o, .int .i64 t.x, .int .i64 t.y, u]] w (OcAns cs f ⟨k, t, path⟩ B v ps w) := by
  intro f
  induction f with
  | zero => intro k t path lv u v ps B w hk; omega
  | succ f ih =>
    intro k t path lv u v ps B w hk h8 hkc ht hp hL hU hO hB hcnt
    obtain ⟨AL, cL, rfl, -, hm⟩ := hL.form
    obtain ⟨Au, cu, rfl, -, -⟩ := hU.form
    have hnv : v.ownBlock ≠ some (w.heap.size + 1) := fun e => by have := (hO.lt _ e).2; omega
    obtain ⟨o, x, y⟩ := t
    have zl := (Bk.new w 26 #[.slice AL cs.length cL]).alloc (.cells #[.int .i64 k, .int .i64 o, .int .i64 x, .int .i64 y, .slice Au path.length cu] 80)
    have zo := Bk.new (w.alloc (.cells #[.slice AL cs.length cL] 26)) 80 #[.int .i64 k, .int .i64 o, .int .i64 x, .int .i64 y, .slice Au path.length cu]
    have e1 : (w.alloc (.cells #[.slice AL cs.length cL] 26)).heap.size = w.heap.size + 1 := by simp
    rw [e1] at zo
    have b1 := ((Below.refl w.heap.size w).alloc (Nat.le_refl _) (.cells #[.slice AL cs.length cL] 26)).alloc (by simp) (.cells #[.int .i64 k, .int .i64 o, .int .i64 x, .int .i64 y, .slice Au path.length cu] 80)
    have s1 : w.heap.size + 1 < ((w.alloc (.cells #[.slice AL cs.length cL] 26)).alloc (.cells #[.int .i64 k, .int .i64 o, .int .i64 x, .int .i64 y, .slice Au path.length cu] 80)).heap.size := by simp
    have L1 := hL.on b1
    have U1 := hU.on b1
    have O1 := hO.on b1
    have X1 := Ext.of (v := v) b1
    have hB1 := Nat.le_trans hB b1.size
    have hl1 : ps.length ≤ 1000000 := by omega
    clear hL hU hO e1
    dsimp only
    go_enter Tryz.func48, Tryz.ntmps48
    go_upto_region 1 with fail
    obtain ⟨W1, hW1⟩ : ∃ W, W = (w.alloc (.cells #[.slice AL cs.length cL] 26)).alloc (.cells #[.int .i64 k, .int .i64 o, .int .i64 x, .int .i64 y, .slice Au path.length cu] 80) := ⟨_, rfl⟩
    rw [← hW1] at zl zo b1 s1 L1 U1 O1 X1 hB1 ⊢
    clear hW1
    obtain ⟨c0, c1, c2, c3, c4⟩ := box5o zo
    have HO1 := Lib.hid O1
    have HU1 := Lib.hid U1
    have HL1 := Lib.hid L1
    clear L1 U1 O1
    go_upto_region 2 with (at_builtin; refine wpList_append_OW rfl (.tmp 13) (.tmp 15) rfl B _ ps ⟨k, ⟨o, x, y⟩, path⟩ (.slice Au path.length cu) rfl HO1.out HU1.out rfl hl1 hB1 ?_; intro v1 W2 O2 X2)
    have hlt0 : W1.heap.size ≤ W2.heap.size := X2.gro.size
    have HL2 := Lib.hid (LibV.keptO HO1.out X2.gro HL1.out)
    have HU2 := Lib.hid (HO1.out.ints X2.gro HU1.out)
    have zl2 := HO1.out.bk X2.gro zl (by decide)
    have zo2 := zo.grown X2.gro (Ne.symm hnv)
    have hnv1 := X2.ne hnv s1
    have hnv1' : v1.ownBlock ≠ some (w.heap.size + 1) := hnv1
    have X12 := Lib.hid (X1.trans X2)
    have HO2 := Lib.hid O2
    have hB2 := Nat.le_trans hB1 hlt0
    clear zl zo c0 c1 c2 c3 c4 X2 X1 HO1 HU1 HL1
    obtain ⟨gC, c, ⟨us, ul, ui⟩, rfl, hcell, hgl, f0, f1, f2, f3, h3⟩ := HL2.out.elem hkc
    obtain ⟨A3, k3, g3, -, -⟩ := h3.i.form
    dsimp only at g3 f0 f1 f2 f3
    subst g3
    have HF := Lib.hid ((lib_facts hlib).2 k c hcell)
    have HI := Lib.hid h3.i
    dsimp only at HI
    have Hcell := Lib.hid hcell
    have Hel : Hid (elAt cs ((⟨k, ⟨o, x, y⟩, path⟩ : OcD).cell) = elsTo c.insts c.insts.length) := Lib.hid (elAt_of hcell)
    have Hlen := Lib.hid (fun (n : Nat) (i : InstD) (r q : Nat) (h1 : c.insts[n]? = some i) (h2 : r ≤ i.rows.toNat) (h3 : q ≤ i.cols.toNat) => elsAt_len HF.out.2.2.2 HF.out.2.1 h1 h2 h3)
    have Hlen0 := Lib.hid (fun (n : Nat) (h : n ≤ c.insts.length) => elsTo_len HF.out.2.2.2 n h)
    have hI8 : c.insts.length ≤ 8 := HF.out.2.1
    have d0 := zl2.cell 0
    have c0 := (box5o zo2).1
    simp at d0
    clear h3 hcell f0 f1 f2
    go_wp2
    clear f3 d0 c0
    go_loopw [1, 7, 9] (fun lw ev iv wr => ∃ (n : Nat) (qs : List (OcD × Value)), n ≤ c.insts.length ∧ iv = .int .i64 n ∧ ev = .int .i64 (elsTo c.insts n).length ∧ OW wr B lw qs ∧ Hid (qs.map Prod.fst = ps.map Prod.fst ++ (⟨k, ⟨o, x, y⟩, path⟩ :: below cs f ⟨k, ⟨o, x, y⟩, path⟩ (elsTo c.insts n).length)) ∧ Ext W2 v1 wr lw) (fun _ _ iv _ => c.insts.length - (intOf iv).toNat)
    case atStart => exact ⟨0, _, Nat.zero_le _, rfl, by simp [elsTo], O2, Lib.hid (by simp [elsTo, below_zero]), Ext.refl _ _⟩
    case round =>
      obtain ⟨wo, hwo⟩ : ∃ wo, wo = wr := ⟨_, rfl⟩
      subst hwo
      obtain ⟨n, qs, hn, rfl, rfl, hO, HQ, hX⟩ := hrel
      clear O2
      by_cases hlt : n < c.insts.length
      · obtain ⟨gI, cl, p, px, py, cols, rows, sx, sy, rfl, hi, hgI, -⟩ := InL.elem8 HI.out hlt
        have Hi := Lib.hid hi
        have Hif := Lib.hid (inst_facts (HF.out.2.2.2 _ (List.mem_of_getElem? hi)))
        have HQ0 : Hid (qs.map Prod.fst = ps.map Prod.fst ++ (⟨k, ⟨o, x, y⟩, path⟩ :: below cs f ⟨k, ⟨o, x, y⟩, path⟩ (elsAt c.insts n ⟨cl, p, px, py, cols, rows, sx, sy⟩ 0 0).length)) := Lib.hid (by rw [elsAt_zero]; exact HQ.out)
        rw [← elsAt_zero c.insts n ⟨cl, p, px, py, cols, rows, sx, sy⟩]
        go_wp2
        go_loopw [1, 7, 10] (fun lw ev rv wr => ∃ (r : Nat) (qs : List (OcD × Value)), r ≤ rows.toNat ∧ rv = .int .i64 r ∧ ev = .int .i64 (elsAt c.insts n ⟨cl, p, px, py, cols, rows, sx, sy⟩ r 0).length ∧ OW wr B lw qs ∧ Hid (qs.map Prod.fst = ps.map Prod.fst ++ (⟨k, ⟨o, x, y⟩, path⟩ :: below cs f ⟨k, ⟨o, x, y⟩, path⟩ (elsAt c.insts n ⟨cl, p, px, py, cols, rows, sx, sy⟩ r 0).length)) ∧ Ext W2 v1 wr lw) (fun _ _ rv _ => rows.toNat - (intOf rv).toNat)
        case atStart => exact ⟨0, _, Nat.zero_le _, rfl, rfl, hO, HQ0, hX⟩
        case round =>
          obtain ⟨wp, hwp⟩ : ∃ wp, wp = wr := ⟨_, rfl⟩
          subst hwp
          clear hO hX HQ HQ0
          obtain ⟨r, qs, hr, rfl, rfl, hO, HQ, hX⟩ := hrel
          have hf := Hif.out
          (try dsimp only at hf)
          have ir := Go.IntWalk.i64_in ((r : Int) + 1) (by omega)
          obtain ⟨a0, a1, a2, a3, a4, a5, a6, a7⟩ := InL.at8 (OW.insts HO2.out hX.gro HI.out) Hi.out
          by_cases hrl : r < rows.toNat
          · have hrz : (r : Int) < rows := by omega
            clear hf
            go_wp2
            clear a0 a1 a2 a3 a4 a5 a6 a7
            go_loopw [1, 7, 11] (fun lw ev qv wr => ∃ (q : Nat) (qs : List (OcD × Value)), q ≤ cols.toNat ∧ qv = .int .i64 q ∧ ev = .int .i64 (elsAt c.insts n ⟨cl, p, px, py, cols, rows, sx, sy⟩ r q).length ∧ OW wr B lw qs ∧ Hid (qs.map Prod.fst = ps.map Prod.fst ++ (⟨k, ⟨o, x, y⟩, path⟩ :: below cs f ⟨k, ⟨o, x, y⟩, path⟩ (elsAt c.insts n ⟨cl, p, px, py, cols, rows, sx, sy⟩ r q).length)) ∧ Ext W2 v1 wr lw) (fun _ _ qv _ => cols.toNat - (intOf qv).toNat)
            case atStart => exact ⟨0, _, Nat.zero_le _, rfl, rfl, hO, HQ, hX⟩
            case round =>
              obtain ⟨wq, hwq⟩ : ∃ wq, wq = wr := ⟨_, rfl⟩
              subst hwq
              clear hO hX HQ
              obtain ⟨q, qs, hq, rfl, rfl, hO, HQ, hX⟩ := hrel
              have hf := Hif.out
              (try dsimp only at hf)
              have iq := Go.IntWalk.i64_in ((q : Int) + 1) (by omega)
              by_cases hql : q < cols.toNat
              · have hqz : (q : Int) < cols := by omega
                have hsz := hX.gro.size
                have hel := elsAt_get Hi.out (r := r) (c := q) hrl hql
                unfold elT at hel
                dsimp only at hel
                obtain ⟨j, Hj⟩ : ∃ j, Hid (j = (elsAt c.insts n ⟨cl, p, px, py, cols, rows, sx, sy⟩ r q).length) := ⟨_, Lib.hid rfl⟩
                have hj9 := Hlen.out n _ r q Hi.out hr hq
                rw [← Hj.out] at hel HQ hj9 ⊢
                have ij := Go.IntWalk.i64_in ((j : Int) + 1) (by omega)
                have hlq : qs.length = ps.length + (1 + (below cs f ⟨k, ⟨o, x, y⟩, path⟩ j).length) := by
                  have := congrArg List.length HQ.out
                  simp at this
                  omega
                obtain ⟨kc, rfl, hkf, hkl, hs1, hs2, hs3, hcn, hbs⟩ := kid_facts hlib hk h8 Hcell.out ht hel hcnt qs.length hlq
                have Hes := Lib.hid (after_any ⟨p, px + (q : Int) * sx, py + (r : Int) * sy⟩ ⟨o, x, y⟩ hs2 hs3)
                obtain ⟨⟨tO, tx, ty⟩, hT⟩ : ∃ T : Tf, T = compT ⟨p, px + (q : Int) * sx, py + (r : Int) * sy⟩ ⟨o, x, y⟩ := ⟨_, rfl⟩
                rw [← hT] at hs1 hcn hbs Hes
                have HC := Lib.hid (show ∀ W : World, Calls Tryz.prog 70 #[.agg #[.int .i64 o, .int .i64 x, .int .i64 y], .agg #[.int .i64 p, .int .i64 (px + (q : Int) * sx), .int .i64 (py + (r : Int) * sy)]] W fun e w' => e = .returned (.agg #[.int .i64 tO, .int .i64 tx, .int .i64 ty]) ∧ Below W.heap.size W w' from Hes.out)
                have HP := Lib.hid (fun W : World => place10_any kc p px py cols rows sx sy q r W (by omega) (by omega) hf.2.1.2.1 hf.2.1.2.2 hf.2.2.2.2.1 hf.2.2.2.2.2)
                have Hs1 := Lib.hid hs1
                have Hcn := Lib.hid hcn
                have Hbs := Lib.hid hbs
                clear hT hs1 hs2 hs3 hcn hbs Hes hel hf
                obtain ⟨X, hXe⟩ : ∃ X : Int, X = px + (q : Int) * sx := ⟨_, rfl⟩
                obtain ⟨Y, hYe⟩ : ∃ Y : Int, Y = py + (r : Int) * sy := ⟨_, rfl⟩
                rw [← hXe, ← hYe] at HC HP
                clear hXe hYe
                have zoR := zo2.grown hX.gro (Ne.symm hnv1')
                have UR := HO2.out.ints hX.gro HU2.out
                have IR := OW.insts HO2.out hX.gro HI.out
                obtain ⟨a0, a1, a2, a3, a4, a5, a6, a7⟩ := InL.at8 IR Hi.out
                have hpl : path.length ≤ 1000000 := by omega
                go_upto_region 13 with fail
                clear a0 a1 a2 a3 a4 a5 a6 a7
                have c4 := (box5o (zoR.alloc (.cells #[] 2))).2.2.2.2
                have bR := (Below.refl wq.heap.size wq).alloc (Nat.le_refl _) (.cells #[] 2)
                have l0 := IL.lit0 wq (Nat.le_refl _)
                have HUR := Lib.hid (IL.alloc UR (.cells #[] 2))
                have hsR := bR.size
                clear UR
                go_upto_region 14 with (first
                  | (at_builtin; refine wpList_append_II rfl (.tmp 48) (.tmp 50) rfl wq.heap.size 0 _ _ path rfl l0 rfl HUR.out hpl hsR ?_; intro u1 W5 hI5 hg5 hb5)
                  | (at_builtin; refine wpList_append_I rfl (.tmp 51) (.tmp 53) rfl wq.heap.size u1 path rfl hI5 (j : Int) rfl hpl (Nat.le_trans hsR hg5.size) ?_; intro u2 W6 hI6 hg6 hb6))
                obtain ⟨P2, HP2⟩ : ∃ P2, Hid (P2 = path ++ [(j : Int)]) := ⟨_, Lib.hid rfl⟩
                rw [← HP2.out] at hI6
                have hP2 : P2.length + f ≤ 8 := by rw [HP2.out]; simp; omega
                have Hcn2 : Hid (qs.length + (occ cs f ⟨(kc : Int), ⟨tO, tx, ty⟩, P2⟩).length ≤ 1000) := by rw [HP2.out]; exact Hcn
                have Hih : ∀ (lv u v : Value) (W : World), LibV W 0 lv cs → IL W 0 u P2 → OW W B v qs → B ≤ W.heap.size → Calls Tryz.prog 48 #[.agg #[lv], v, .agg #[.int .i64 kc, .int .i64 tO, .int .i64 tx, .int .i64 ty, u]] W (OcAns cs f ⟨kc, ⟨tO, tx, ty⟩, P2⟩ B v qs W) :=
                  fun lv u v W h1 h2 h3 h4 => ih kc ⟨tO, tx, ty⟩ P2 lv u v qs B W hkf (by omega) hkl Hs1.out hP2 h1 h2 h3 h4 Hcn2.out
                have HIH := Lib.hid Hih
                clear Hih hP2
                have b46 := (bR.trans hb5).trans hb6
                have bo6 := b46.drew
                obtain ⟨A2', c2', rfl, -, -⟩ := hI6.form
                have HO6 := Lib.hid (hO.on bo6)
                have HL6 := Lib.hid ((LibV.keptO HO2.out hX.gro HL2.out).on bo6)
                have HI6 := Lib.hid (FL.on IR bo6)
                have HU6 := Lib.hid (show IL W6.drew 0 (.slice A2' P2.length c2') P2 from (hI6.less (Nat.zero_le _)).drew)
                have Zl6 := Lib.hid ((HO2.out.bk hX.gro zl2 (by decide)).on bo6)
                have Zo6 := Lib.hid (zoR.on bo6)
                have X6 := Lib.hid (hX.on bo6)
                have hB6 := Lib.hid (Nat.le_trans (Nat.le_trans hB2 hsz) bo6.size)
                have NE := Lib.hid (hX.ne hnv1' (Nat.lt_of_lt_of_le s1 hlt0))
                have F0 := Lib.hid (show _ ∧ _ ∧ _ ∧ _ ∧ _ from ⟨Zl6.out.cell 0, InL.at8 HI6.out Hi.out, (box5o Zo6.out).2.1, (box5o Zo6.out).2.2.1, (box5o Zo6.out).2.2.2.1⟩)
                clear hO hI6 hI5 hb5 hb6 hg6 hg5 b46 bR zoR c4 HUR IR hX l0
                go_region_held3 (fun w' => w'.cell? ⟨w.heap.size, 0, none⟩ = some (.slice (some ⟨gC, 0, none⟩) cs.length cL) ∧ (w'.cell? ⟨gI, n * 8, none⟩ = some (.int .i64 kc) ∧ w'.cell? ⟨gI, n * 8 + 1, none⟩ = some (.int .i64 p) ∧ w'.cell? ⟨gI, n * 8 + 2, none⟩ = some (.int .i64 px) ∧ w'.cell? ⟨gI, n * 8 + 3, none⟩ = some (.int .i64 py) ∧ w'.cell? ⟨gI, n * 8 + 4, none⟩ = some (.int .i64 cols) ∧ w'.cell? ⟨gI, n * 8 + 5, none⟩ = some (.int .i64 rows) ∧ w'.cell? ⟨gI, n * 8 + 6, none⟩ = some (.int .i64 sx) ∧ w'.cell? ⟨gI, n * 8 + 7, none⟩ = some (.int .i64 sy)) ∧ w'.cell? ⟨w.heap.size + 1, 1, none⟩ = some (.int .i64 o) ∧ w'.cell? ⟨w.heap.size + 1, 2, none⟩ = some (.int .i64 x) ∧ w'.cell? ⟨w.heap.size + 1, 3, none⟩ = some (.int .i64 y))
                  (first | exact F0.out | exact F1.out | exact F2.out | exact F3.out)
                  (first
                    | (go_at_call 71; (with_reducible refine (HP.out _).mono ?_); rintro e W7 ⟨rfl, hb7⟩; have HO7 := Lib.hid (HO6.out.on hb7); have HL7 := Lib.hid (HL6.out.on hb7); have HI7 := Lib.hid (FL.on HI6.out hb7); have HU7 := Lib.hid (HU6.out.on hb7); have Zl7 := Lib.hid (Zl6.out.on hb7); have Zo7 := Lib.hid (Zo6.out.on hb7); have X7 := Lib.hid (X6.out.on hb7); have hB7 := Lib.hid (Nat.le_trans hB6.out hb7.size); clear hb7; have F1 := Lib.hid (show _ ∧ _ ∧ _ ∧ _ ∧ _ from ⟨Zl7.out.cell 0, InL.at8 HI7.out Hi.out, (box5o Zo7.out).2.1, (box5o Zo7.out).2.2.1, (box5o Zo7.out).2.2.2.1⟩))
                    | (go_at_call 70; (with_reducible refine (HC.out _).mono ?_); rintro e W8 ⟨rfl, hb8⟩; have HO8 := Lib.hid (HO7.out.on hb8); have HL8 := Lib.hid (HL7.out.on hb8); have HI8 := Lib.hid (FL.on HI7.out hb8); have HU8 := Lib.hid (HU7.out.on hb8); have Zl8 := Lib.hid (Zl7.out.on hb8); have Zo8 := Lib.hid (Zo7.out.on hb8); have X8 := Lib.hid (X7.out.on hb8); have hB8 := Lib.hid (Nat.le_trans hB7.out hb8.size); clear hb8; have F2 := Lib.hid (show _ ∧ _ ∧ _ ∧ _ ∧ _ from ⟨Zl8.out.cell 0, InL.at8 HI8.out Hi.out, (box5o Zo8.out).2.1, (box5o Zo8.out).2.2.1, (box5o Zo8.out).2.2.2.1⟩))
                    | (go_at_call 48; (with_reducible refine (HIH.out _ _ _ _ HL8.out HU8.out HO8.out hB8.out).mono ?_); rintro e W9 ⟨v9, qs9, rfl, hO9, HQ9, hX9⟩; have X9 := Lib.hid (X8.out.trans hX9); have F3 := Lib.hid (show _ ∧ _ ∧ _ ∧ _ ∧ _ from ⟨(HO8.out.bk hX9.gro Zl8.out (by decide)).cell 0, InL.at8 (OW.insts HO8.out hX9.gro HI8.out) Hi.out, (box5o (Zo8.out.grown hX9.gro (Ne.symm NE.out))).2.1, (box5o (Zo8.out.grown hX9.gro (Ne.symm NE.out))).2.2.1, (box5o (Zo8.out.grown hX9.gro (Ne.symm NE.out))).2.2.2.1⟩)))
                have Hj1 : Hid ((elsAt c.insts n ⟨kc, p, px, py, cols, rows, sx, sy⟩ r (q + 1)).length = j + 1) := Lib.hid (by rw [elsAt_col, List.length_append, ← Hj.out]; rfl)
                clear hj9
                go_wp2
                exact ⟨⟨q + 1, qs9, by omega, by go_num, by rw [Hj1.out]; go_num, hO9, Lib.hid (by rw [Hj1.out, HQ9.out, HQ.out, Hbs.out, HP2.out, List.append_assoc, List.cons_append]), X9.out⟩, by simp [intOf]; omega⟩
              · have hqe : q = cols.toNat := by omega
                have hqz : ¬ (q : Int) < cols := by omega
                obtain ⟨a0, a1, a2, a3, a4, a5, a6, a7⟩ := InL.at8 (OW.insts HO2.out hX.gro HI.out) Hi.out
                clear hf
                go_wp2
                exact ⟨⟨r + 1, qs, by omega, by go_num, by rw [elsAt_row hqe], hO, by rw [← elsAt_row hqe]; exact HQ, hX⟩, by simp [intOf]; omega⟩
          · have hre : r = rows.toNat := by omega
            have hrz : ¬ (r : Int) < rows := by omega
            clear hf
            go_wp2
            exact ⟨⟨n + 1, qs, by omega, by go_num, by rw [elsAt_ins Hi.out hre], hO, by rw [← elsAt_ins Hi.out hre]; exact HQ, hX⟩, by simp [intOf]; omega⟩
      · obtain rfl : n = c.insts.length := by omega
        go_wp2
        go_ret
        exact ⟨_, _, rfl, hO, Lib.hid (by rw [HQ.out, occ_succ, Hel.out]), X12.out.trans hX⟩

end Go.Proofs.YtgegbgkokkdmpaaGreat
