/- Contract: the laws' sameRects. No conditions. The walk of the law FnElements, over drawn inputs: it answers true. No conditions. -/
import Derived.Test.YtgegbgkokkdmpaaGreatQ02
import Derived.Test.YtgegbgkokkdmpaaGreatQ04
import Derived.Test.YtgegbgkokkdmpaaGreatQ36
import Derived.Test.YtgegbgkokkdmpaaGreatQ39
import Derived.Test.YtgegbgkokkdmpaaGreatQ06
import Derived.Deep.CutBlock
import Derived.Deep.CutRange

namespace Go.Proofs.YtgegbgkokkdmpaaGreat
open Go.RowKit

set_option maxHeartbeats 400000 in
set_option maxRecDepth 100000 in
/-- l03Same. -/
theorem sameRects_any (v u : Value) (rs qs : List Rc) (w : World) (hv : RL w 0 v rs) (hu : RL w 0 u qs) : Calls Tryz.prog 10 #[v, u] w fun e w' => e = .returned (.bool (eqL rs qs)) ∧ Below w.heap.size w w' := by
  obtain ⟨A, c, rfl, hc, hm, -⟩ := hv.form
  obtain ⟨A2, c2, rfl, hc2, hm2, -⟩ := hu.form
  unfold maxLen at hm hm2
  by_cases hl : rs.length = qs.length
  · have Hl := Lib.hid hl
    rw [hl] at hc ⊢
    clear hl
    go_enter Tryz.func10, Tryz.ntmps10
    go_wp2
    go_loopw [5] (fun i wr => ∃ k : Nat, k ≤ qs.length ∧ i = .int .i64 k ∧ Hid (rs.take k = qs.take k) ∧ Below w.heap.size w wr) (fun i _ => qs.length - (intOf i).toNat)
    case atStart => exact ⟨0, Nat.zero_le _, rfl, Lib.hid rfl, Below.refl _ _⟩
    case round =>
      obtain ⟨k, hk, rfl, hok, hb⟩ := hrel
      by_cases hlt : k < qs.length
      · obtain ⟨g, x0, y0, x1, y1, hA, hr, hg, f0, f1, f2, f3⟩ := (hv.on hb).elem (k := k) (by rw [Hl.out]; exact hlt)
        obtain ⟨g', x0', y0', x1', y1', hA', hr', hg', f0', f1', f2', f3'⟩ := (hu.on hb).elem hlt
        subst hA hA'
        have Hr := Lib.hid hr
        have Hr' := Lib.hid hr'
        clear hr hr' hv hu
        go_wp2
        go_quiet (fail)
        go_wp2
        · have h0 : (!eqRc ⟨x0, y0, x1, y1⟩ ⟨x0', y0', x1', y1'⟩) = true := by assumption
          go_ret
          refine ⟨ret_bool ?_, below_drewN hb _⟩
          have hne := (eqRc_no _ _).1 (by simpa using h0)
          exact (decide_eq_false (ne_at Hr.out Hr'.out hne)).symm
        · have h0 : (!eqRc ⟨x0, y0, x1, y1⟩ ⟨x0', y0', x1', y1'⟩) = false := by assumption
          have heq := (eqRc_iff _ _).1 (by simpa using h0)
          refine ⟨⟨k + 1, by omega, by go_num, Lib.hid (take_succ_eq hok.out Hr.out Hr'.out heq), below_drewN hb _⟩, by simp [intOf]; omega⟩
      · go_wp2
        go_ret
        refine ⟨ret_bool ?_, hb⟩
        have h1 := hok.out
        have h2 := Hl.out
        rw [List.take_of_length_le (by omega), List.take_of_length_le (by omega)] at h1
        simp [eqL, h1]
  · have hne : ((rs.length : Int) != (qs.length : Int)) = true := by rw [bne_iff_ne]; omega
    go_enter Tryz.func10, Tryz.ntmps10
    go_wp2
    go_ret
    refine ⟨ret_bool ?_, Below.refl _ _⟩
    exact (decide_eq_false (fun e => hl (by rw [e]))).symm

end Go.Proofs.YtgegbgkokkdmpaaGreat

namespace Go.Proofs.YtgegbgkokkdmpaaGreat
open Go.RowKit

theorem RLL.keptA {w w' : World} {B B2 s n : Nat} {v y : Value} {rss : List (List Rc)} {e : TypeId} {xs : List Value} (h : RLL w B v rss) (ho : w.ownsRow B2 e s y n xs) (h1 : 38 ≠ e) (h2 : 60 ≠ e) (hg : w.grownBy w' y.ownBlock) : RLL w' B v rss :=
  let ⟨vs, k1, k2, k3⟩ := h
  ⟨vs, World.ownsRow.kept k1 hg (own_types k1 ho h1), k2, fun k u rs hu hr => World.ownsRow.kept (k3 k u rs hu hr) hg (own_types (k3 k u rs hu hr) ho h2)⟩
/-- The slice value v holds the layouts Ls. -/
def PLL (w : World) (B : Nat) (v : Value) (Ls : List (List (List Rc))) : Prop := ∃ vs, VL w B 31 v vs ∧ vs.length = Ls.length ∧ ∀ (k : Nat) (u : Value) (L : List (List Rc)), vs[k]? = some u → Ls[k]? = some L → RLL w B u L
section
variable {w w' : World} {B B' : Nat} {v : Value} {Ls : List (List (List Rc))}
theorem PLL.on (h : PLL w B v Ls) (hb : Below w.heap.size w w') : PLL w' B v Ls := let ⟨vs, h1, h2, h3⟩ := h; ⟨vs, h1.on hb, h2, fun k u L hu hr => (h3 k u L hu hr).on hb⟩
theorem PLL.lit (w : World) {B : Nat} (hB : B ≤ w.heap.size) : PLL (w.alloc (.cells #[] 31)) B (.slice (some ⟨w.heap.size, 0, none⟩) 0 0) [] := ⟨[], World.ownsRow_lit w #[] 0 hB (by simp [maxLen]) rfl, rfl, fun k u rs hu => by simp at hu⟩
theorem PLL.form (h : PLL w B v Ls) : ∃ A cap, v = .slice A Ls.length cap ∧ Ls.length ≤ cap ∧ cap ≤ maxLen := by
  obtain ⟨vs, h1, h2, h3⟩ := h
  obtain ⟨A, cap, hv, a1, a2, _⟩ := h1.form
  rw [h2] at hv a1
  exact ⟨A, cap, hv, a1, a2⟩
theorem PLL.elem {A : Option Addr} {n c : Nat} (h : PLL w B (.slice A n c) Ls) {k : Nat} (hk : k < Ls.length) : ∃ g u L, A = some ⟨g, 0, none⟩ ∧ Ls[k]? = some L ∧ g < w.heap.size ∧ w.cell? ⟨g, k, none⟩ = some u ∧ RLL w B u L := by
  obtain ⟨vs, h1, h2, h3⟩ := h
  obtain ⟨g, u, hA, hu, hg, hc⟩ := h1.elem (k := k) (by omega)
  have hr : Ls[k]? = some Ls[k] := List.getElem?_eq_getElem hk
  exact ⟨g, u, _, hA, hr, hg, hc, h3 k u _ hu hr⟩
theorem PLL.keptI {y : Value} {B2 : Nat} {es : List Int} (h : PLL w B v Ls) (ho : IL w B2 y es) (hg : w.grownBy w' y.ownBlock) : PLL w' B v Ls :=
  let ⟨vs, k1, k2, k3⟩ := h
  ⟨vs, World.ownsRow.kept k1 hg (own_types k1 ho (by decide)), k2, fun k u L hu hr => (k3 k u L hu hr).keptA ho (by decide) (by decide) hg⟩
end
theorem infoLays : (Tryz.prog.info? 31).map (fun i => (i.zero, i.size, i.bytes)) = some (some (.slice none 0 0), 1, 24) := by kernel_rfl
/-- 'parts = append(parts, layout)'. -/
theorem wpList_append_PLL {w : World} {ops : Array Oper} {rest : List Oper} {o : Oper} {a : Act} {Q : Exit → Act → World → Prop} (hgd : o.guard = none) (s x : Operand)
    (ho : o.op = .call { callee := .builtin .append, args := #[s, x], argTypes := #[35, 35] })
    (B : Nat) (v : Value) (Ls : List (List (List Rc))) (hs : a.eval s = v) (hown : PLL w B v Ls) (u : Value) (L : List (List Rc)) (hu : RLL w B u L) (hx : a.eval x = .slice (some ⟨w.heap.size, 0, none⟩) 1 1) (hlen : Ls.length ≤ 1000000) (hB : B ≤ w.heap.size)
    (B2 : Nat) (y : Value) (es : List Int) (hI : IL w B2 y es)
    (h : ∀ v' w', PLL w' B v' (Ls ++ [L]) → IL w' B2 y es → Below B w w' → wpList Tryz.prog ops Q rest (a.put o.dst v') w') :
    wpList Tryz.prog ops Q (o :: rest) a (w.alloc (.cells #[u] 31)) := by
  obtain ⟨vs, h1, h2, h3⟩ := hown
  have hone : u.oneCell' = true := by obtain ⟨A, c, rfl, _⟩ := hu.form; rfl
  refine wpList_append_G hgd s x 31 35 1 24 _ infoLays Tryz.underlying35 rfl (by decide) (by decide) ho B v vs.length vs hs h1 [u] rfl (by simpa using hone) hx (by omega) hB ?_
  intro v' w' k1 k2 k3
  refine h v' w' ⟨vs ++ [u], by unfold VL; rw [List.length_append]; exact k1, by simp [h2], fun k y qs hy hq => ?_⟩ (World.ownsRow.kept hI k2 (own_types hI h1 (by decide))) k3
  by_cases hk : k < vs.length
  · rw [List.getElem?_append_left hk] at hy
    rw [List.getElem?_append_left (by omega)] at hq
    exact (h3 k y qs hy hq).keptA h1 (by decide) (by decide) k2
  · have hke : k = vs.length := by have := (List.getElem?_eq_some_iff.1 hy).1; simp at this; omega
    subst hke
    rw [List.getElem?_append_right (Nat.le_refl _), Nat.sub_self] at hy
    rw [List.getElem?_append_right (by omega), h2, Nat.sub_self] at hq
    simp at hy hq
    subst hy hq
    exact hu.keptA h1 (by decide) (by decide) k2

/-! The parts. -/
def rangeI (m : Nat) : List Int := (List.range m).map fun (k : Nat) => (k : Int)
theorem rangeI_len (m : Nat) : (rangeI m).length = m := by simp [rangeI]
theorem rangeI_succ (m : Nat) : rangeI (m + 1) = rangeI m ++ [(m : Int)] := by simp [rangeI, List.range_succ]
theorem rangeI_get {m i : Nat} {a : Int} (h : (rangeI m)[i]? = some a) : a = (i : Int) ∧ i < m := by
  unfold rangeI at h
  rw [List.getElem?_map] at h
  have hi : i < m := by
    by_cases hi : i < m
    · exact hi
    · rw [List.getElem?_eq_none (by simp; omega)] at h
      cases h
  rw [List.getElem?_range hi] at h
  simp at h
  exact ⟨h.symm, hi⟩
theorem rangeI_mem {m : Nat} {x : Int} : x ∈ rangeI m ↔ 0 ≤ x ∧ x < (m : Int) := by
  unfold rangeI
  rw [List.mem_map]
  constructor
  · rintro ⟨k, hk, rfl⟩
    rw [List.mem_range] at hk
    omega
  · intro h
    exact ⟨x.toNat, List.mem_range.2 (by omega), by omega⟩
theorem rangeI_in (m : Nat) (r : Int) : (!inES (rangeI m) r) = decide ¬(0 ≤ r ∧ r < (m : Int)) := by
  unfold inES
  rw [Bool.eq_iff_iff, Bool.not_eq_true', decide_eq_true_eq, ← rangeI_mem, ← List.contains_iff_mem, Bool.not_eq_true]
def partE (xs : List (Int × ShapeD)) (e : Nat) : List (List Rc) := layL (pick (fun r => decide (r = (e : Int))) xs) 8
def partsL (xs : List (Int × ShapeD)) (m : Nat) : List (List (List Rc)) := (List.range m).map (partE xs)
theorem partsL_len (xs : List (Int × ShapeD)) (m : Nat) : (partsL xs m).length = m := by simp [partsL]
theorem partsL_succ (xs : List (Int × ShapeD)) (m : Nat) : partsL xs (m + 1) = partsL xs m ++ [partE xs m] := by simp [partsL, List.range_succ]
theorem partsL_get (xs : List (Int × ShapeD)) {m i : Nat} (h : i < m) : (partsL xs m)[i]? = some (partE xs i) := by
  unfold partsL
  rw [List.getElem?_map, List.getElem?_range h]
  rfl
theorem layL_get (l : List ShapeD) {k : Nat} (h : k < 8) : (layL l 8)[k]? = some (canon (layG l (k : Int))) := by
  unfold layL
  rw [List.getElem?_map, List.getElem?_range h]
  rfl
theorem mix_union (xs : List (Int × ShapeD)) (m : Nat) (k : Int) (n : Nat) : canon (unionG (cellsG (canon (mixG xs m k n))) (cellsG (canon (layG (pick (fun r => decide (r = (n : Int))) xs) k)))) = canon (mixG xs m k (n + 1)) := by
  refine canon_congr fun i hi => ?_
  rw [mixG_succ]
  unfold unionG
  rw [cells_canon _ i hi, cells_canon _ i hi]

set_option maxHeartbeats 3200000 in
set_option maxRecDepth 100000 in
/-- The law. -/
theorem lawFnElements (A : Option Addr) (n c : Nat) (w : World) (hA : ArgB w A n) (hn : n ≤ maxLen) : Calls Tryz.prog 3 #[.slice A n c] w fun e w' => e = .returned (.bool true) ∧ Below w.heap.size w w' := by
  by_cases hbig : 4096 < n
  · have hb := Lib.hid (fun W => big_any A n c W hn)
    rw [decide_eq_true hbig] at hb
    go_enter Tryz.func3, Tryz.ntmps3
    go_wp2_with (go_at_call 4; (with_reducible refine (hb.out _).mono ?_); rintro e w1 ⟨rfl, rfl⟩)
    go_ret
    exact ⟨rfl, Below.refl _ _⟩
  · have hb := Lib.hid (fun W => big_any A n c W hn)
    rw [decide_eq_false hbig] at hb
    have HD := Lib.hid (drawHier_any A n c w hA (by omega))
    clear hA hn
    go_enter Tryz.func3, Tryz.ntmps3
    go_upto_region 4 with (first
      | (go_at_call 4; (with_reducible refine (hb.out _).mono ?_); rintro e w1 ⟨rfl, rfl⟩)
      | (go_at_call 5; (with_reducible refine HD.out.mono ?_); rintro e w1 ⟨cv, rv, ps, k, rfl, ⟨r0, r1, r2, r3, r4, rfl⟩, hps, hS, hC, hb1⟩; obtain ⟨A1, c1, rfl, -, -⟩ := hC.form))
    obtain ⟨cs, Hcs⟩ : ∃ cs, Hid (cs = ps.map Prod.fst) := ⟨_, Lib.hid rfl⟩
    have hlen : cs.length = ps.length := by rw [Hcs.out, List.length_map]
    have hL : LibV w1 0 (.slice A1 cs.length c1) cs := by rw [hlen]; exact ⟨ps, Hcs.out.symm, hC.less (Nat.zero_le _)⟩
    have hN : ∀ c ∈ cs, NmOk c := by
      intro x hx
      rw [Hcs.out] at hx
      obtain ⟨p, hp, rfl⟩ := List.mem_map.1 hx
      exact (hS p hp).nm
    have hc4 : cs.length ≤ 4 := by omega
    rw [← hlen]
    clear hC hS hlen hps
    have b1 := (hb1.alloc hb1.size (.cells #[.slice A1 cs.length c1] 26)).alloc (by simp; have := hb1.size; omega) (.cells #[.int .i64 r0, .int .i64 r1, .int .i64 r2, .int .i64 r3, .int .i64 r4] 28)
    have z1 := (Bk.new w1 26 #[.slice A1 cs.length c1]).alloc (.cells #[.int .i64 r0, .int .i64 r1, .int .i64 r2, .int .i64 r3, .int .i64 r4] 28)
    have L1 := hL.on ((o_alloc w1 (.cells #[.slice A1 cs.length c1] 26)).alloc (by simp) (.cells #[.int .i64 r0, .int .i64 r1, .int .i64 r2, .int .i64 r3, .int .i64 r4] 28))
    obtain ⟨W1, hW1⟩ : ∃ W, W = (w1.alloc (.cells #[.slice A1 cs.length c1] 26)).alloc (.cells #[.int .i64 r0, .int .i64 r1, .int .i64 r2, .int .i64 r3, .int .i64 r4] 28) := ⟨_, rfl⟩
    rw [← hW1] at b1 z1 L1 ⊢
    clear hW1 hL hb1
    have q1 := z1.cell 0
    simp at q1
    go_upto_region 5 with (go_at_call 6; (with_reducible refine (fl_spec cs hN _ k _ (by omega) L1).mono ?_); rintro e w2 ⟨v2, code, rfl, hb2, hcase⟩)
    have b2 := b1.trans (hb2.mono b1.size)
    rcases hcase with hc | ⟨rfl, hf, hW⟩
    · have hc' : (code == 0) = false := by simpa using hc
      go_wp2
      go_ret
      exact ⟨rfl, b2⟩
    · obtain ⟨kn, rfl⟩ : ∃ kn : Nat, k = kn := ⟨k.toNat, by have := hf.2.1; omega⟩
      have z2 := z1.on hb2
      have L2 := L1.on hb2
      clear z1 L1 hb2 b1 q1
      have HF := Lib.hid hf
      have Hk8 := Lib.hid (layL_len (flS cs (occK cs (kn : Int))) 8)
      obtain ⟨AW, cW, rfl, -, -⟩ := hW.form
      rw [Hk8.out]
      rw [Hk8.out] at hW
      have HW := Lib.hid hW
      have HL := Lib.hid L2
      have HZ := Lib.hid z2
      have HN := Lib.hid hN
      obtain ⟨xs, Hxs⟩ : ∃ xs, Hid (xs = rsAll cs (occK cs (kn : Int))) := ⟨_, Lib.hid rfl⟩
      obtain ⟨nE, HnE⟩ : ∃ m : Nat, Hid (m = (elAt cs (kn : Int)).length) := ⟨_, Lib.hid rfl⟩
      clear hf hW L2 z2 hN
      have hs2 := b2.size
      have i2 := IL.lit0 w2 (Nat.le_refl _)
      have p2 := PLL.lit (w2.alloc (.cells #[] 2)) (B := w2.heap.size) (by simp)
      rw [show (w2.alloc (.cells #[] 2)).heap.size = w2.heap.size + 1 by simp] at p2
      have i3 := IL.alloc i2 (.cells #[] 31)
      have b3 := ((Below.refl w2.heap.size w2).alloc (Nat.le_refl _) (.cells #[] 2)).alloc (by simp) (.cells #[] 31)
      go_upto_block 0 with fail
      obtain ⟨W3, hW3⟩ : ∃ W, W = (w2.alloc (.cells #[] 2)).alloc (.cells #[] 31) := ⟨_, rfl⟩
      rw [← hW3] at i3 p2 b3 ⊢
      clear hW3 i2
      go_cut [8, 9, 10, 11, 12] from 36 (fun lv pv ev av bv wx => ∃ m : Nat, m ≤ 40 ∧ m ≤ nE ∧ IL wx w2.heap.size lv (rangeI m) ∧ PLL wx w2.heap.size pv (partsL xs m) ∧ Below w2.heap.size w2 wx)
      case first =>
        go_wp2_with fail
        go_loopw [8, 9, 10] (fun lv pv ev wr => ∃ m : Nat, m ≤ 40 ∧ m ≤ nE ∧ ev = .int .i64 m ∧ IL wr w2.heap.size lv (rangeI m) ∧ PLL wr w2.heap.size pv (partsL xs m) ∧ Below w2.heap.size w2 wr) (fun _ _ ev _ => 40 - (intOf ev).toNat)
        case atStart => exact ⟨0, by omega, by omega, rfl, i3, p2, b3⟩
        case round =>
          obtain ⟨wo, hwo⟩ : ∃ wo, wo = wr := ⟨_, rfl⟩
          subst hwo
          obtain ⟨m, hm, hmE, rfl, hI, hP, hb⟩ := hrel
          clear i3 p2 b3
          by_cases hlt : m < 40
          · have hmz : (m : Int) < 40 := by omega
            have im := Go.IntWalk.i64_in ((m : Int) + 1) (by omega)
            have q0 := (HZ.out.on hb).cell 0
            simp at q0
            have HE := Lib.hid (elay_any cs HN.out _ kn (m : Int) HF.out wo (HL.out.on hb))
            go_upto_region 13 with (go_at_call 7; (with_reducible refine HE.out.mono ?_); rintro e w5 ⟨v5, code, rfl, hb5, hcase⟩)
            have I5 := IL.on hI hb5
            have P5 := PLL.on hP hb5
            have b5 := hb.trans (hb5.mono hb.size)
            have hs5 := b5.size
            rcases hcase with ⟨hin, rfl, hR5⟩ | ⟨-, rfl⟩
            · have hmn : m < nE := by
                have h := hin
                unfold inB at h
                rw [decide_eq_true_eq, ← HnE.out] at h
                omega
              have R5 : RLL w5 w2.heap.size v5 (partE xs m) := by
                unfold partE
                rw [Hxs.out]
                exact hR5.less hb.size
              obtain ⟨A5, c5, rfl, -, -⟩ := R5.form
              obtain ⟨AI, cI, e1, -, -⟩ := hI.form
              obtain ⟨AP, cP, e2, -, -⟩ := hP.form
              rw [rangeI_len] at e1
              rw [partsL_len] at e2
              subst e1 e2
              have hl1 : (rangeI m).length ≤ 1000000 := by rw [rangeI_len]; omega
              have hl2 : (partsL xs m).length ≤ 1000000 := by rw [partsL_len]; omega
              have HI := Lib.hid I5
              have HP := Lib.hid P5
              have HR := Lib.hid R5
              have Hl1 := Lib.hid hl1
              have Hl2 := Lib.hid hl2
              clear hin hR5 hI hP hb hb5 HE q0 hl1 hl2 I5 P5 R5
              go_wp2_with (first
                | (at_builtin; refine wpList_append_I rfl (.tmp 49) (.tmp 51) rfl w2.heap.size _ (rangeI m) rfl HI.out (m : Int) rfl Hl1.out hs5 ?_; intro v6 w6 h61 h62 h63; obtain ⟨A6, c6, e6, -, -⟩ := h61.form; rw [← rangeI_succ, rangeI_len] at e6; subst e6; have P6 := Lib.hid (HP.out.keptI HI.out h62); have R6 := Lib.hid (HR.out.keptA HI.out (by decide) (by decide) h62); have s6 := h62.size; have b6 := b5.trans h63)
                | (at_builtin; refine wpList_append_PLL rfl (.tmp 53) (.tmp 55) rfl w2.heap.size _ (partsL xs m) rfl P6.out _ (partE xs m) R6.out rfl Hl2.out b6.size w2.heap.size _ _ h61 ?_; intro v7 w7 h71 h72 h73))
              exact ⟨⟨m + 1, by omega, by omega, by go_num, by rw [rangeI_succ]; exact h72, by rw [partsL_succ]; exact h71, b6.trans h73⟩, by simp [intOf]; omega⟩
            · go_wp2_with fail
              go_meet
              exact ⟨m, hm, hmE, I5, P5, b5⟩
          · have hmz : ¬ (m : Int) < 40 := by omega
            go_wp2_with fail
            go_meet
            exact ⟨m, hm, hmE, hI, hP, hb⟩
      case rest =>
        obtain ⟨m, hm, hmE, hI, hP, hb⟩ := hcut
        obtain ⟨w4, hw4⟩ : ∃ W, W = wc := ⟨_, rfl⟩
        rw [← hw4] at hI hP hb ⊢
        clear hw4 i3 p2 b3
        obtain ⟨AI, cI, e1, -, -⟩ := hI.form
        obtain ⟨AP, cP, e2, -, -⟩ := hP.form
        rw [rangeI_len] at e1
        rw [partsL_len] at e2
        subst e1 e2
        have q0 := (HZ.out.on hb).cell 0
        simp at q0
        have bw := b2.trans (hb.mono hs2)
        have HR0 := Lib.hid (rest_any cs HN.out _ (.slice AI m cI) kn (rangeI m) HF.out (fun i a b ha hb9 => by
          have h1 := rangeI_get ha
          have h2 := rangeI_get hb9
          omega) (fun x hx => by
          have h := rangeI_mem.1 hx
          unfold inB
          rw [decide_eq_true_eq, ← HnE.out]
          omega) (by rw [rangeI_len]; omega) w4 (HL.out.on hb) (hI.less (Nat.zero_le _)))
        have HP := Lib.hid hP
        have HB := Lib.hid hb
        have HBW := Lib.hid bw
        clear hI hP hb bw
        go_upto_region 17 with (go_at_call 8; (with_reducible refine HR0.out.mono ?_); rintro e w5 ⟨v5, rfl, hR5, hb5⟩)
        have hR6 : RLL w5 w4.heap.size v5 (layL (pick (fun r => decide ¬(0 ≤ r ∧ r < (m : Int))) xs) 8) := by
          rw [Hxs.out]
          have e : (fun r => !inES (rangeI m) r) = fun r => decide ¬(0 ≤ r ∧ r < (m : Int)) := funext (rangeI_in m)
          rw [← e]
          exact hR5
        obtain ⟨A5, c5, rfl, -, -⟩ := hR6.form
        have hl8 : (layL (pick (fun r => decide ¬(0 ≤ r ∧ r < (m : Int))) xs) 8).length = 8 := layL_len _ _
        rw [hl8]
        rw [hl8] at hR6
        have b24 := HB.out.trans (hb5.mono HB.out.size)
        have HP5 := Lib.hid (HP.out.on hb5)
        have HR5 := Lib.hid hR6
        have HW5 := Lib.hid (HW.out.on b24)
        have b5 := HBW.out.trans (hb5.mono HBW.out.size)
        have hs5 := b5.size
        clear hR5 hR6 hl8 HR0 HP q0 hb5 b24
        go_wp2
        go_loopw [15] (fun kv wr => ∃ j : Nat, j ≤ 8 ∧ kv = .int .i64 j ∧ Below w5.heap.size w5 wr) (fun kv _ => 8 - (intOf kv).toNat)
        case atStart => exact ⟨0, by omega, rfl, Below.refl _ _⟩
        case round =>
          obtain ⟨wo, hwo⟩ : ∃ wo, wo = wr := ⟨_, rfl⟩
          subst hwo
          obtain ⟨j, hj, rfl, hb⟩ := hrel
          by_cases hlt : j < 8
          · have hjz : (j : Int) < 8 := by omega
            obtain ⟨gR, u, L, rfl, hL9, hgR, c0, hu⟩ := (HR5.out.on hb).elem (k := j) (by rw [layL_len]; exact hlt)
            rw [layL_get _ hlt, ← mixG_zero] at hL9
            obtain rfl : canon (mixG xs m (j : Int) 0) = L := by simpa using hL9
            have hu0 : RL wo 0 u (canon (mixG xs m (j : Int) 0)) := own_less hu (Nat.zero_le _)
            clear hL9 hu
            go_wp2
            go_loopw [16, 17] (fun av iv wr => ∃ i : Nat, i ≤ m ∧ iv = .int .i64 i ∧ RL wr 0 av (canon (mixG xs m (j : Int) i)) ∧ Below w5.heap.size w5 wr) (fun _ iv _ => m - (intOf iv).toNat)
            case atStart => exact ⟨0, Nat.zero_le _, rfl, hu0, hb⟩
            case round =>
              obtain ⟨wp, hwp⟩ : ∃ wp, wp = wr := ⟨_, rfl⟩
              subst hwp
              clear hb hu0 c0
              obtain ⟨i, hi, rfl, hu, hb⟩ := hrel
              by_cases hil : i < m
              · obtain ⟨gP, uL, L, rfl, hL9, hgP, c1, hRL⟩ := (HP5.out.on hb).elem (k := i) (by rw [partsL_len]; exact hil)
                rw [partsL_get xs hil] at hL9
                obtain rfl : partE xs i = L := by simpa using hL9
                unfold partE at hRL
                obtain ⟨AL, cL, rfl, -, -⟩ := hRL.form
                have hl8 : (layL (pick (fun r => decide (r = (i : Int))) xs) 8).length = 8 := layL_len _ _
                rw [hl8] at hRL c1
                obtain ⟨gL, ur, L2, rfl, hL10, hgL, c2, hur⟩ := hRL.elem (k := j) (by rw [layL_len]; exact hlt)
                rw [layL_get _ hlt] at hL10
                obtain rfl : canon (layG (pick (fun r => decide (r = (i : Int))) xs) (j : Int)) = L2 := by simpa using hL10
                obtain ⟨Ar, cr, rfl, -, -, -⟩ := hur.form
                obtain ⟨Aa, ca, rfl, -, -, -⟩ := hu.form
                have HU := Lib.hid (union_any _ _ _ _ wp hu (own_less hur (Nat.zero_le _)) (isReg_canon _) (isReg_canon _))
                rw [mix_union] at HU
                clear hL9 hL10 hRL hl8 hur hu
                go_wp2_with (go_at_call 9; (with_reducible refine HU.out.mono ?_); rintro e w7 ⟨z7, rfl, hR7, hb7⟩)
                exact ⟨⟨i + 1, by omega, by go_num, own_less hR7 (Nat.zero_le _), hb.trans (hb7.mono hb.size)⟩, by simp [intOf]; omega⟩
              · obtain rfl : i = m := by omega
                obtain ⟨gW, uw, L, rfl, hL9, hgW, c1, huw⟩ := (HW5.out.on hb).elem (k := j) (by rw [layL_len]; exact hlt)
                rw [layL_get _ hlt, ← flS_eq, ← Hxs.out, ← mixG_all xs i (j : Int)] at hL9
                obtain rfl : canon (mixG xs i (j : Int) i) = L := by simpa using hL9
                obtain ⟨Ar, cr, rfl, -, -, -⟩ := huw.form
                obtain ⟨Aa, ca, rfl, -, -, -⟩ := hu.form
                have HU := Lib.hid (sameRects_any _ _ _ _ wp hu (own_less huw (Nat.zero_le _)))
                rw [show eqL (canon (mixG xs i (j : Int) i)) (canon (mixG xs i (j : Int) i)) = true by unfold eqL; rw [decide_eq_true_eq]] at HU
                clear hL9 huw hu
                go_wp2_with (go_at_call 10; (with_reducible refine HU.out.mono ?_); rintro e w7 ⟨rfl, hb7⟩)
                exact ⟨⟨j + 1, by omega, by go_num, hb.trans (hb7.mono hb.size)⟩, by simp [intOf]; omega⟩
          · have hjz : ¬ (j : Int) < 8 := by omega
            go_wp2
            go_ret
            exact ⟨rfl, b5.trans (hb.mono hs5)⟩

end Go.Proofs.YtgegbgkokkdmpaaGreat
