/- The walk of the law FnTextError: it answers true. Conditions: the tables are laid. -/
import Derived.Test.YtcckamhokdodnaaGreatDoorDrawX
import Derived.Test.YtcckamhokdodnaaGreatDoorTextWN
import Derived.Test.YtcckamhokdodnaaGreatDoorIdxA
import Derived.Test.YtcckamhokdodnaaGreatDoorDice
import Derived.Test.YtcckamhokdodnaaGreatDoorFmtX
import Derived.Test.YtcckamhokdodnaaGreatDoorParseK
import Derived.Test.YtcckamhokdodnaaGreatDoorTakeM
import Derived.Deep.RegionHeld3
import Derived.Deep.CutRange
namespace Go.Proofs.YtcckamhokdodnaaGreatDoor
open Go.RowKit

set_option maxHeartbeats 800000 in
set_option maxRecDepth 100000 in
/-- hasCell of a valid library and one of its cells. -/
theorem hasCell_yes (v : Value) (cs : List CellD) (k : Nat) (w : World) (hv : LibV w 0 v cs) (hok : libB cs = true) (hk : k < cs.length) :
    Calls Tryz.prog 36 #[.agg #[v], .int .i64 k] w fun e w' => e = .returned (.bool true) ∧ Below w.heap.size w w' := by
  obtain ⟨A, c, rfl, hc1, hm⟩ := hv.form
  have h8 := lib_size hok
  have b1 := (Below.refl w.heap.size w).alloc (Nat.le_refl _) (.cells #[.slice A cs.length c] 26)
  have z1 := Bk.new w 26 #[.slice A cs.length c]
  have V := Lib.hid (hv.on b1)
  have HN := Lib.hid (lib_nm' hok)
  clear hv
  go_enter Tryz.func36, Tryz.ntmps36
  go_wp2_with fail
  refine (lib_impl _ cs _ V.out HN.out).mono ?_
  rintro e w1 ⟨rfl, hb1⟩
  rw [hok]
  have t1 := b1.trans (hb1.mono b1.size)
  have z2 := z1.on hb1
  have q2 := z2.cell 0
  simp only [List.getElem?_toArray, List.getElem?_cons_zero] at q2
  have el := Go.IntWalk.i64_in ((cs.length : Int) - 1) (by omega)
  go_wp2_with fail
  refine (within_any (k : Int) 0 ((cs.length : Int) - 1) _).mono ?_
  rintro e w2 ⟨rfl, rfl⟩
  rw [(inB_iff _ _ _).2 (by omega)]
  go_wp2
  go_ret
  exact ⟨rfl, t1⟩

theorem cellLines_step {cs : List CellD} {i : Nat} {x : CellD} (h : cs[i]? = some x) : (linesTo cs (i + 1)).length = (linesTo cs i).length + (x.shapes.length + x.labels.length + x.insts.length + 2) := by
  have e : linesTo cs (i + 1) = linesTo cs i ++ cellLines cs x := by
    unfold linesTo
    rw [List.take_add_one, h, List.flatMap_append]
    simp
  rw [e, List.length_append]
  simp [cellLines]
  omega
theorem cellLines_le {cs : List CellD} (h : libB cs = true) {k : Nat} : (linesTo cs k).length ≤ 336 := by
  have h1 := (lib_len h).2
  rw [lib_split cs k, List.length_append] at h1
  omega
set_option maxHeartbeats 800000 in
set_option maxRecDepth 100000 in
/-- CellLine of a valid library and one of its cells. -/
theorem cellLine_yes (v : Value) (cs : List CellD) (k : Nat) (w : World) (hv : LibV w 0 v cs) (hok : libB cs = true) (hk : k < cs.length) :
    Calls Tryz.prog 16 #[.agg #[v], .int .i64 k] w fun e w' => e = .returned (.int .i64 (((linesTo cs k).length : Int) + 1)) ∧ Below w.heap.size w w' := by
  obtain ⟨A, c, rfl, hc1, hm⟩ := hv.form
  have h8 := lib_size hok
  have b1 := (Below.refl w.heap.size w).alloc (Nat.le_refl _) (.cells #[.slice A cs.length c] 26)
  have z1 := Bk.new w 26 #[.slice A cs.length c]
  have V := Lib.hid (hv.on b1)
  clear hv
  go_enter Tryz.func16, Tryz.ntmps16
  go_wp2_with fail
  refine (hasCell_yes _ cs k _ V.out hok hk).mono ?_
  rintro e w1 ⟨rfl, hb1⟩
  have t1 := b1.trans (hb1.mono b1.size)
  have z2 := z1.on hb1
  have V1 := Lib.hid (V.out.on hb1)
  have q2 := z2.cell 0
  simp only [List.getElem?_toArray, List.getElem?_cons_zero] at q2
  have hkc : (k : Int) ≤ (c : Int) := by omega
  clear z1 hb1 V b1
  have hkl : k ≤ cs.length := by omega
  go_wp2
  go_loopw [5, 17] (fun lv iv wr => ∃ i : Nat, i ≤ k ∧ iv = .int .i64 i ∧ lv = .int .i64 (((linesTo cs i).length : Int) + 1) ∧ Below w1.heap.size w1 wr) (fun _ iv _ => k - (intOf iv).toNat)
  case atStart => exact ⟨0, by omega, rfl, by rw [show linesTo cs 0 = [] by simp [linesTo]]; rfl, Below.refl _ _⟩
  case round =>
    obtain ⟨i, hi, rfl, rfl, hb⟩ := hrel
    by_cases hlt : i < k
    · have hlti : (i : Int) < k := by omega
      obtain ⟨g, x, us, rfl, hx, hgl, f0, f1, f2, f3, hC⟩ := (V1.out.on hb).elem (k := i) (by omega)
      obtain ⟨P1, k1, h1, -, -⟩ := hC.s.form
      obtain ⟨P2, k2, h2, -, -⟩ := hC.l.form
      obtain ⟨P3, k3, h3, -, -⟩ := hC.i.form
      obtain ⟨u1, u2, u3⟩ := us
      dsimp only at h1 h2 h3 f1 f2 f3
      subst h1 h2 h3
      have hO := lib_facts hok hx
      have n2 := hO.ns
      have n3 := hO.nl
      have n4 := hO.ni
      have hst := cellLines_step hx
      have hle := cellLines_le hok (k := i)
      have e1 := Go.IntWalk.i64_in ((x.shapes.length : Int) + x.labels.length) (by omega)
      have e2 := Go.IntWalk.i64_in ((x.shapes.length : Int) + x.labels.length + x.insts.length) (by omega)
      have e3 := Go.IntWalk.i64_in ((x.shapes.length : Int) + x.labels.length + x.insts.length + 2) (by omega)
      have e4 := Go.IntWalk.i64_in (((linesTo cs i).length : Int) + 1 + ((x.shapes.length : Int) + x.labels.length + x.insts.length + 2)) (by omega)
      clear hx hC hO
      go_wp2
      refine ⟨⟨i + 1, by omega, by go_num, ?_, hb.alloc hb.size _⟩, by simp [intOf]; omega⟩
      rw [hst]
      congr 1
      omega
    · obtain rfl : i = k := by omega
      go_wp2
      go_ret
      exact ⟨rfl, t1.trans (hb.mono t1.size)⟩


set_option maxHeartbeats 1600000 in
set_option maxRecDepth 100000 in
/-- DrawFormatLibrary. -/
theorem drawFmt_any (A : Option Addr) (n c : Nat) (w : World) (hA : ArgB w A n) (hn : n ≤ 4096) : Calls Tryz.prog 7 #[.slice A n c] w fun e w' => ∃ (cv : Value) (ps : List (CellD × Sl3)), e = .returned (.agg #[cv]) ∧ (1 ≤ ps.length ∧ ps.length ≤ 4) ∧
    (∀ p ∈ ps, Sm p.1) ∧ CW w' w.heap.size cv ps ∧ Below w.heap.size w w' := by
  have r0 := Bk.new w 26 #[.slice none 0 0]
  have b0 := (Below.refl w.heap.size w).alloc (Nat.le_refl _) (.cells #[.slice none 0 0] 26)
  have hA1 := hA.on b0
  clear hA
  go_enter Tryz.func7, Tryz.ntmps7
  go_wp2_with fail
  refine (from_any A n c _ hA1 hn).mono ?_
  rintro e w1 ⟨g, rfl, hg1, hD1, hb1⟩
  have z1 := r0.on hb1
  have hgz : w.heap.size < g := by simp at hg1; omega
  have t1 := b0.trans (hb1.mono b0.size)
  have hz1 := hb1.size
  simp at hz1
  clear r0 b0 hA1 hb1
  go_wp2_with fail
  refine (drawAny_any g _ hD1).mono ?_
  rintro e w2 ⟨cv, ps, rfl, hn4, hS, hC, hD2, hG2⟩
  obtain ⟨Ac, cc, rfl, -, -⟩ := hC.form
  have z2 := z1.grown hG2 (by simp; omega)
  have bz := t1.grown hG2 (by omega) (fun k hk => by simp only [Option.some.injEq] at hk; omega)
  have r2 := z2.cell 0
  have f2 := z2.frozen
  have CW2 := Lib.hid ((hC.kept (grownBy_put w2 w.heap.size 0 (.slice Ac ps.length cc)) (own_otherT hC.own z2 (by decide)) (fun p hp b hpb => (by obtain ⟨k, hk⟩ := List.getElem?_of_mem hp; exact (hC.each k p hk).other z2 (by decide) b hpb))).less (B' := w.heap.size) (by omega))
  clear hC z1 z2
  go_wp2
  refine bodyPost_ret (v := .agg #[.slice Ac ps.length cc]) (by simp [results, Tryz.results7, go_sem, *]) rfl ?_
  exact ⟨_, ps, rfl, hn4, hS, CW2.out, bz.setCell (p := ⟨w.heap.size, 0, none⟩) (Nat.le_refl _) _⟩

theorem ori_four : Lib.idxOfS oriN ⟨#[109, 48]⟩ = 4 := by kernel_rfl

theorem three_of {x : List CellD × (Int × Int × Int)} {ys zs : List CellD} {a b d a' b' d' : Int} (h : x = (ys, (a, b, d))) (h' : x = (zs, (a', b', d'))) : a = a' ∧ b = b' ∧ d = d' := by
  rw [h, Prod.mk.injEq, Prod.mk.injEq, Prod.mk.injEq] at h'
  exact h'.2
theorem Bk.fill3 {w : World} {g : Nat} {t : TypeId} {z0 z1 z2 : Value} (h : Bk w g t #[z0, z1, z2]) (v0 v1 v2 : Value) : Bk (((w.setCell ⟨g, 0, none⟩ v0).setCell ⟨g, 1, none⟩ v1).setCell ⟨g, 2, none⟩ v2) g t #[v0, v1, v2] := by
  have h8 := ((h.store 0 v0).store 1 v1).store 2 v2
  simpa using h8
theorem head_is {T : ByteArray} {P r : List UInt8} {c : CellD} (h : T.data.toList = P ++ (headC c ++ r)) : T.extract P.length (P.length + (5 + c.name.size + 1)) = ⟨#[99, 101, 108, 108, 32]⟩ ++ c.name ++ ⟨#[10]⟩ := by
  have hl : (headC c).length = 5 + c.name.size + 1 := by simp [headC]; omega
  have e : P.length + (5 + c.name.size + 1) - P.length = (headC c).length := by omega
  apply ByteArray.ext
  rw [← Array.toList_inj]
  simp only [ByteArray.data_append, ByteArray.data_extract, Array.toList_append, Array.toList_extract, List.extract, e]
  rw [h, List.drop_left, List.take_left]
  simp [headC]
/-- The text with the unknown line put in. -/
theorem what_str {T : ByteArray} {P q : List UInt8} (h : T.data.toList = P ++ q) : T.extract 0 P.length ++ ⟨#[32, 32, 119, 104, 97, 116, 32, 49, 10]⟩ ++ T.extract P.length T.size = txt (P ++ (whatL ++ 10 :: q)) := by
  have hs : T.size = P.length + q.length := by
    have := congrArg List.length h
    simpa using this
  apply ByteArray.ext
  rw [← Array.toList_inj]
  simp only [ByteArray.data_append, ByteArray.data_extract, Array.toList_append, Array.toList_extract, txt]
  simp [List.extract, whatL, hs]
  rw [h]
  simp

set_option maxHeartbeats 3200000 in
set_option maxRecDepth 100000 in
/-- FnTextError answers true. -/
theorem lawFnTextError (A : Option Addr) (n c : Nat) (m : Int) (w : World) (hA : ArgB w A n) (hn : n ≤ maxLen) (hE : EnvP w.heap.size w) (hm : w.cell? ⟨2, 0, none⟩ = some (.int .i64 m)) :
    Calls Tryz.prog 4 #[.slice A n c] w fun e w' => e = .returned (.bool true) ∧ Below w.heap.size w w' := by
  have h0w : 2 < w.heap.size := by have := hE.far; omega
  have HE := Lib.hid hE
  have HM := Lib.hid hm
  clear hE hm
  go_enter Tryz.func4, Tryz.ntmps4
  go_wp2_with fail
  refine (big_any A n c w hn).mono ?_
  rintro e w0 ⟨rfl, rfl⟩
  by_cases h4 : 4096 < n
  · rw [decide_eq_true h4]
    go_wp2
    go_ret
    exact ⟨rfl, Below.refl _ _⟩
  rw [decide_eq_false h4]
  go_wp2_with fail
  refine (drawFmt_any A n c _ hA (by omega)).mono ?_
  rintro e w1 ⟨cv, ps, rfl, hn4, hS, hC, hb1⟩
  obtain ⟨Ac, cc, rfl, -, -⟩ := hC.form
  obtain ⟨cs, hcs⟩ : ∃ cs, ps.map Prod.fst = cs := ⟨_, rfl⟩
  have hlen : ps.length = cs.length := by rw [← hcs, List.length_map]
  have b2 := (Below.refl w1.heap.size w1).alloc (Nat.le_refl _) (.cells #[.slice Ac ps.length cc] 26)
  have z2 := Bk.new w1 26 #[.slice Ac ps.length cc]
  have L2 := Lib.hid (show LibV _ 0 (.slice Ac ps.length cc) cs from ⟨ps, hcs, (hC.less (Nat.zero_le _)).on b2⟩)
  have HN := Lib.hid (show ∀ c ∈ cs, NmOk c from fun c hc => by
    rw [← hcs] at hc
    obtain ⟨p, hp, rfl⟩ := List.mem_map.1 hc
    exact (hS p hp).nm)
  have t2 := hb1.alloc hb1.size (.cells #[.slice Ac ps.length cc] 26)
  have HA := Lib.hid hA
  clear hA hS hC hb1 b2 hcs
  have hcs1 : 1 ≤ cs.length := by omega
  rw [hlen] at *
  have q2 := z2.cell 0
  simp only [List.getElem?_toArray, List.getElem?_cons_zero] at q2
  go_wp2_with fail
  refine (lib_spec _ cs _ L2.out HN.out).mono ?_
  rintro e w4 ⟨rfl, hb4⟩
  have t4 := t2.trans (hb4.mono t2.size)
  have z4 := z2.on hb4
  have L4 := Lib.hid (L2.out.on hb4)
  have q4 := z4.cell 0
  simp only [List.getElem?_toArray, List.getElem?_cons_zero] at q4
  clear hb4 z2 L2 t2 q2
  cases hok : libB cs with
  | false =>
    go_wp2_with fail
    refine (fmtLib_impl w.heap.size _ cs _ (HE.out.on t4).env t4.size L4.out HN.out).mono ?_
    rintro e w5 ⟨he, hb5⟩
    rw [hok, if_neg Bool.false_ne_true] at he
    subst he
    have t5 := t4.trans (hb5.mono t4.size)
    go_wp2_with fail
    refine (oriI_impl w.heap.size ⟨#[109, 48]⟩ _ (HE.out.on t5).env).mono ?_
    rintro e w6 ⟨he, rfl⟩
    rw [ori_four] at he
    subst he
    go_wp2
    go_ret
    exact ⟨rfl, t5⟩
  | true =>
    have hc8 := lib_size hok
    have HS := Lib.hid (show ∀ W, Below w4.heap.size w4 W → W.cell? ⟨w1.heap.size, 0, none⟩ = some (.slice Ac cs.length cc) from fun W hW => (z4.on hW).cell 0)
    have tc := Lib.hid (Below.refl w4.heap.size w4).drew
    have hA4 := Lib.hid (HA.out.on t4.drew)
    go_wp2
    go_upto_region 6 with fail
    go_cut [4] from 26 to 31 (fun kv wx => ∃ k : Nat, k < cs.length ∧ kv = .int .i64 k ∧ Hid (Below w4.heap.size w4 wx))
    case first =>
      go_region_held3 (fun w' => w'.cell? ⟨w1.heap.size, 0, none⟩ = some (.slice Ac cs.length cc))
        (first | with_reducible exact HS.out _ tc.out | with_reducible exact HS.out _ ty.out | with_reducible exact HS.out _ tz.out)
        (first
          | (go_at_call 14; (with_reducible refine (roll_any A n c 551 _ hA4.out (by omega) (by omega)).mono ?_); rintro e w7 ⟨g7, rfl, hg7, hD7, hb7⟩; have ty := Lib.hid (tc.out.trans (hb7.mono tc.out.size)))
          | (go_at_call 15; (with_reducible refine (below_any g7 (cs.length : Int) _ hD7 (by omega)).mono ?_); rintro e w8 ⟨k8, rfl, hk8, hD8, hG8⟩; have tz := Lib.hid (ty.out.grown hG8 ty.out.size (fun x hx => by simp only [Option.some.injEq] at hx; have := hg7; simp at this; omega))))
      all_goals
        go_wp2
        go_meet
        exact ⟨k8.toNat, by omega, by rw [Int.toNat_of_nonneg hk8.1], tz⟩
    obtain ⟨k, hk, rfl, TB⟩ := hcut
    obtain ⟨w9, rfl⟩ : ∃ W : World, W = wc := ⟨_, rfl⟩
    have t9 := t4.trans (TB.out.mono t4.size)
    have z9 := z4.on TB.out
    have L9 := Lib.hid (L4.out.on TB.out)
    have q9 := z9.cell 0
    simp only [List.getElem?_toArray, List.getElem?_cons_zero] at q9
    clear z4 L4 t4 q4 HS tc hA4 TB HA
    go_wp2_with fail
    refine (cellLine_yes _ cs k _ L9.out hok hk).mono ?_
    rintro e w10 ⟨rfl, hb10⟩
    have t10 := t9.trans (hb10.mono t9.size)
    have z10 := z9.on hb10
    have L10 := Lib.hid (L9.out.on hb10)
    have q10 := z10.cell 0
    simp only [List.getElem?_toArray, List.getElem?_cons_zero] at q10
    clear z9 L9 t9 q9 hb10
    go_wp2_with fail
    refine (fmtLib_spec _ cs _ L10.out HN.out).mono ?_
    rintro e w11 ⟨he, hb11⟩
    rw [hok, if_pos rfl] at he
    have t11 := t10.trans (hb11.mono t10.size)
    have z11 := z10.on hb11
    have L11 := Lib.hid (L10.out.on hb11)
    have q11 := z11.cell 0
    simp only [List.getElem?_toArray, List.getElem?_cons_zero] at q11
    clear z10 L10 t10 q10 hb11
    obtain ⟨T, HT⟩ : ∃ T, Hid (T = txt (libT cs)) := ⟨_, Lib.hid rfl⟩
    have he : e = .returned (.string T) := by rw [HT.out]; exact he
    subst he
    obtain ⟨cd, hcd⟩ : ∃ c, cs[k]? = some c := ⟨_, List.getElem?_eq_getElem hk⟩
    have Hcd := Lib.hid hcd
    obtain ⟨r, hr⟩ := head_at_line hcd
    obtain ⟨P, hP⟩ : ∃ P, libTo cs k = P := ⟨_, rfl⟩
    rw [hP] at hr
    have HP := Lib.hid hP
    have HR := Lib.hid hr
    have hTs : T.size = P.length + ((headC cd).length + r.length) := by rw [HT.out, txt_size, hr, List.length_append, List.length_append]
    have hPT : P.length + (headC cd).length ≤ T.size := by omega
    have hT11 : T.size ≤ 11200 := by rw [HT.out]; exact text_size hok
    have hh : 1 ≤ (headC cd).length := by simp [headC]
    have hTl : T.data.toList = P ++ (headC cd ++ r) := by rw [HT.out, txt_list]; exact hr
    have HTl := Lib.hid hTl
    have HCT := Lib.hid (show P.count 10 = (linesTo cs k).length by rw [← hP]; exact count_to hok (by omega))
    have HCL := Lib.hid (show ∀ n, n < P.length → (P.take n).count 10 < (linesTo cs k).length from fun n hn => by have := count_less hok (k := k) (by omega) (n := n) (by rw [hP]; exact hn); rwa [hP] at this)
    obtain ⟨Ln, HLn⟩ : ∃ x, Hid ((linesTo cs k).length = x) := ⟨_, Lib.hid rfl⟩
    have hLn := cellLines_le hok (k := k)
    rw [HLn.out] at HCT HCL hLn ⊢
    clear hcd hr hP hTl hTs
    go_wp2
    go_loopw [7, 8] (fun av nv wr => ∃ a : Nat, a ≤ P.length ∧ av = .int .i64 a ∧ nv = .int .i64 (((P.take a).count 10 : Nat) + 1) ∧ Below w11.heap.size w11 wr) (fun av _ _ => P.length - (intOf av).toNat)
    case atStart => exact ⟨0, by omega, rfl, by simp, Below.refl _ _⟩
    case round =>
      obtain ⟨a, ha, rfl, rfl, hb⟩ := hrel
      by_cases hlt : a < P.length
      · have hc1 := HCL.out a hlt
        have hc2 : (((P.take a).count 10 : Nat) : Int) + 1 < (Ln : Int) + 1 := by omega
        have hc3 : (a : Int) < (T.size : Int) := by omega
        obtain ⟨b, hb2⟩ : ∃ b, P[a]? = some b := ⟨_, List.getElem?_eq_getElem hlt⟩
        have hTb : T.data.toList[a]? = some b := by rw [HTl.out, List.getElem?_append_left hlt]; exact hb2
        have hct : (P.take (a + 1)).count 10 = (P.take a).count 10 + if b = 10 then 1 else 0 := by
          rw [List.take_add_one, hb2, List.count_append]
          congr 1
          by_cases hb10 : b = 10
          · subst hb10; rfl
          · rw [if_neg hb10]; simp [hb10]
        have Hct := Lib.hid hct
        clear hct hb2
        have hTa : T.data.toList[a]'(by simp; omega) = b := by
          have h1 := List.getElem?_eq_some_iff.1 hTb
          exact h1.2
        have hTg : T[a]'(by omega) = b := by rw [← hTa]; rfl
        have hTn : a < T.size := by omega
        go_wp2_with fail
        all_goals rename_i hq
        · have hb10 : b = 10 := by
            have h1 : (b.toNat : Int) = 10 := by simpa using hq
            exact UInt8.toNat_inj.1 (by have : (10 : UInt8).toNat = 10 := rfl; omega)
          exact ⟨⟨a + 1, by omega, by go_num, by rw [Hct.out, if_pos hb10]; rfl, hb⟩, by simp [intOf]; omega⟩
        · have hb10 : ¬ b = 10 := by
            rintro rfl
            exact absurd hq (by decide)
          exact ⟨⟨a + 1, by omega, by go_num, by rw [Hct.out, if_neg hb10]; rfl, hb⟩, by simp [intOf]; omega⟩
      · obtain rfl : a = P.length := by omega
        have hct : (P.take P.length).count 10 = Ln := by rw [List.take_length]; exact HCT.out
        rw [hct]
        have hlt2 : ¬ ((Ln : Int) + 1 < (Ln : Int) + 1) := by omega
        have t12 := t11.trans (hb.mono t11.size)
        have z12 := z11.on hb
        have L12 := Lib.hid (L11.out.on hb)
        clear hct z11 L11 t11 q11 hb hlt ha
        have hxe := what_str HTl.out
        have hP1 : P.length ≤ T.size := by omega
        have hP2 : (P.length : Int) ≤ (T.size : Int) := by omega
        obtain ⟨X, HX⟩ : ∃ X, Hid (X = T.extract 0 P.length) := ⟨_, Lib.hid rfl⟩
        obtain ⟨Y, HY⟩ : ∃ Y, Hid (Y = T.extract P.length T.size) := ⟨_, Lib.hid rfl⟩
        rw [← HX.out, ← HY.out] at hxe
        have hz9 : (⟨#[32, 32, 119, 104, 97, 116, 32, 49, 10]⟩ : ByteArray).size = 9 := rfl
        have hXs : X.size ≤ 100000 := by rw [HX.out]; simp; omega
        have hYs : Y.size ≤ 100000 := by rw [HY.out]; simp; omega
        have y1 : ¬ (9223372036854775807 < X.size + 9) := by omega
        have y2 : ¬ (9223372036854775807 < X.size + 9 + Y.size) := by omega
        have hzt : (X ++ ⟨#[32, 32, 119, 104, 97, 116, 32, 49, 10]⟩ ++ Y).size ≤ 1048576 := by simp only [ByteArray.size_append, hz9]; omega
        have eX := HX.out.symm
        have eY := HY.out.symm
        have HXE := Lib.hid hxe
        have HPW : Hid (parseV (X ++ ⟨#[32, 32, 119, 104, 97, 116, 32, 49, 10]⟩ ++ Y).size (linesT (X ++ ⟨#[32, 32, 119, 104, 97, 116, 32, 49, 10]⟩ ++ Y)) = ([], (4, (Ln : Int) + 1, 3))) := Lib.hid (by rw [hxe, ← HP.out, ← HLn.out]; exact parse_what hok (by omega) (by rw [HP.out]; exact HR.out))
        have HZ := Lib.hid hzt
        clear hxe hzt
        go_upto_region 15 with fail
        go_cut [9, 10] from 54 to 65 (fun u9 u10 wx => ∃ b9 b10 : Nat, u9 = .pointer (some ⟨b9, 0, none⟩) ∧ u10 = .pointer (some ⟨b10, 0, none⟩) ∧ Hid (Bk wx b10 32 #[.int .i64 4, .int .i64 ((Ln : Int) + 1), .int .i64 3]) ∧ Hid (Below wr.heap.size wr wx))
        case first =>
          have bL := (Below.refl wr.heap.size wr).alloc (Nat.le_refl _) (.cells #[.slice none 0 0] 26)
          have bT := (Below.refl wr.heap.size wr).alloc (Nat.le_refl _) (.cells #[.int .i64 0, .int .i64 0, .int .i64 0] 32)
          have B0 := Lib.hid (Below.refl wr.heap.size wr).drew
          have B1 := Lib.hid bL.drew
          have B2 := Lib.hid bT.drew
          have B3 := Lib.hid (bL.alloc bL.size (.cells #[.int .i64 0, .int .i64 0, .int .i64 0] 32)).drew
          have B4 := Lib.hid (bT.alloc bT.size (.cells #[.slice none 0 0] 26)).drew
          have HM2 : Hid (∀ W, Below w.heap.size w W → W.cell? ⟨2, 0, none⟩ = some (.int .i64 m)) := Lib.hid fun W hW => (hW.cell (p := ⟨2, 0, none⟩) h0w).trans HM.out
          have sL : (wr.alloc (.cells #[.slice none 0 0] 26)).heap.size = wr.heap.size + 1 := by simp
          have sT : (wr.alloc (.cells #[.int .i64 0, .int .i64 0, .int .i64 0] 32)).heap.size = wr.heap.size + 1 := by simp
          have K1 := Lib.hid (Bk.new wr 26 #[.slice none 0 0]).drew
          have J2 := Lib.hid (Bk.new wr 32 #[.int .i64 0, .int .i64 0, .int .i64 0]).drew
          have K3 := Lib.hid ((Bk.new wr 26 #[.slice none 0 0]).alloc (.cells #[.int .i64 0, .int .i64 0, .int .i64 0] 32)).drew
          have J3 : Hid (Bk ((wr.alloc (.cells #[.slice none 0 0] 26)).alloc (.cells #[.int .i64 0, .int .i64 0, .int .i64 0] 32)).drew (wr.heap.size + 1) 32 #[.int .i64 0, .int .i64 0, .int .i64 0]) := Lib.hid (by have h := (Bk.new (wr.alloc (.cells #[.slice none 0 0] 26)) 32 #[.int .i64 0, .int .i64 0, .int .i64 0]).drew; rw [sL] at h; exact h)
          have J4 := Lib.hid ((Bk.new wr 32 #[.int .i64 0, .int .i64 0, .int .i64 0]).alloc (.cells #[.slice none 0 0] 26)).drew
          have K4 : Hid (Bk ((wr.alloc (.cells #[.int .i64 0, .int .i64 0, .int .i64 0] 32)).alloc (.cells #[.slice none 0 0] 26)).drew (wr.heap.size + 1) 26 #[.slice none 0 0]) := Lib.hid (by have h := (Bk.new (wr.alloc (.cells #[.int .i64 0, .int .i64 0, .int .i64 0] 32)) 26 #[.slice none 0 0]).drew; rw [sT] at h; exact h)
          clear bL bT
          go_region_law (go_simp; go_at_call 11; first
            | ((with_reducible refine (parse_impl takesI _ m w.heap.size _ HZ.out (HE.out.on (t12.trans (B0.out.mono t12.size))) (t12.trans (B0.out.mono t12.size)).size (HM2.out _ (t12.trans (B0.out.mono t12.size)))).mono ?_); rintro e w13 ⟨v, qs, a, b, d, rfl, HPP, hC5, -, hb13⟩; have BB := Lib.hid (B0.out.trans (hb13.mono B0.out.size)); obtain ⟨A5, c5, rfl, -, -⟩ := hC5.form; obtain ⟨rfl, rfl, rfl⟩ := three_of HPP.out HPW.out; clear hC5 HPP; (try dsimp only))
            | ((with_reducible refine (parse_impl takesI _ m w.heap.size _ HZ.out (HE.out.on (t12.trans (B1.out.mono t12.size))) (t12.trans (B1.out.mono t12.size)).size (HM2.out _ (t12.trans (B1.out.mono t12.size)))).mono ?_); rintro e w13 ⟨v, qs, a, b, d, rfl, HPP, hC5, -, hb13⟩; have BB := Lib.hid (B1.out.trans (hb13.mono B1.out.size)); obtain ⟨A5, c5, rfl, -, -⟩ := hC5.form; obtain ⟨rfl, rfl, rfl⟩ := three_of HPP.out HPW.out; clear hC5 HPP; have kb := Lib.hid (K1.out.on hb13); have kc := kb.out.cell 0; have kf := kb.out.frozen 0; have kl := kb.out.lt; (try dsimp only))
            | ((with_reducible refine (parse_impl takesI _ m w.heap.size _ HZ.out (HE.out.on (t12.trans (B2.out.mono t12.size))) (t12.trans (B2.out.mono t12.size)).size (HM2.out _ (t12.trans (B2.out.mono t12.size)))).mono ?_); rintro e w13 ⟨v, qs, a, b, d, rfl, HPP, hC5, -, hb13⟩; have BB := Lib.hid (B2.out.trans (hb13.mono B2.out.size)); obtain ⟨A5, c5, rfl, -, -⟩ := hC5.form; obtain ⟨rfl, rfl, rfl⟩ := three_of HPP.out HPW.out; clear hC5 HPP; have jb := Lib.hid (J2.out.on hb13); have jc0 := jb.out.cell 0; have jc1 := jb.out.cell 1; have jc2 := jb.out.cell 2; have jf := jb.out.frozen; have jl := jb.out.lt; (try dsimp only))
            | ((with_reducible refine (parse_impl takesI _ m w.heap.size _ HZ.out (HE.out.on (t12.trans (B3.out.mono t12.size))) (t12.trans (B3.out.mono t12.size)).size (HM2.out _ (t12.trans (B3.out.mono t12.size)))).mono ?_); rintro e w13 ⟨v, qs, a, b, d, rfl, HPP, hC5, -, hb13⟩; have BB := Lib.hid (B3.out.trans (hb13.mono B3.out.size)); obtain ⟨A5, c5, rfl, -, -⟩ := hC5.form; obtain ⟨rfl, rfl, rfl⟩ := three_of HPP.out HPW.out; clear hC5 HPP; have kb := Lib.hid (K3.out.on hb13); have kc := kb.out.cell 0; have kf := kb.out.frozen 0; have kl := kb.out.lt; have jb := Lib.hid (J3.out.on hb13); have jc0 := jb.out.cell 0; have jc1 := jb.out.cell 1; have jc2 := jb.out.cell 2; have jf := jb.out.frozen; have jl := jb.out.lt; (try dsimp only))
            | ((with_reducible refine (parse_impl takesI _ m w.heap.size _ HZ.out (HE.out.on (t12.trans (B4.out.mono t12.size))) (t12.trans (B4.out.mono t12.size)).size (HM2.out _ (t12.trans (B4.out.mono t12.size)))).mono ?_); rintro e w13 ⟨v, qs, a, b, d, rfl, HPP, hC5, -, hb13⟩; have BB := Lib.hid (B4.out.trans (hb13.mono B4.out.size)); obtain ⟨A5, c5, rfl, -, -⟩ := hC5.form; obtain ⟨rfl, rfl, rfl⟩ := three_of HPP.out HPW.out; clear hC5 HPP; have kb := Lib.hid (K4.out.on hb13); have kc := kb.out.cell 0; have kf := kb.out.frozen 0; have kl := kb.out.lt; have jb := Lib.hid (J4.out.on hb13); have jc0 := jb.out.cell 0; have jc1 := jb.out.cell 1; have jc2 := jb.out.cell 2; have jf := jb.out.frozen; have jl := jb.out.lt; (try dsimp only)))
          all_goals
            go_wp2_with fail
            go_meet
          · refine ⟨_, _, rfl, rfl, Lib.hid ?_, Lib.hid ((BB.out.alloc BB.out.size _).alloc (by have := BB.out.size; simp; omega) _)⟩
            have h := Bk.new (w13.alloc (.cells #[.slice A5 qs.length c5] 26)) 32 #[.int .i64 4, .int .i64 ((Ln : Int) + 1), .int .i64 3]
            rwa [show (w13.alloc (.cells #[.slice A5 qs.length c5] 26)).heap.size = w13.heap.size + 1 by simp] at h
          · exact ⟨_, _, rfl, rfl, Lib.hid ((Bk.new w13 _ _).alloc _), Lib.hid ((BB.out.alloc BB.out.size _).alloc (by have := BB.out.size; simp; omega) _)⟩
          · have bs := BB.out.setCell (p := ⟨wr.heap.size, 0, none⟩) (Nat.le_refl _) (.slice A5 qs.length c5)
            refine ⟨_, _, rfl, rfl, Lib.hid ?_, Lib.hid (bs.alloc bs.size _)⟩
            have h := Bk.new (w13.setCell ⟨wr.heap.size, 0, none⟩ (.slice A5 qs.length c5)) 32 #[.int .i64 4, .int .i64 ((Ln : Int) + 1), .int .i64 3]
            rwa [show (w13.setCell ⟨wr.heap.size, 0, none⟩ (.slice A5 qs.length c5)).heap.size = w13.heap.size by simp [World.setCell]] at h
          · exact ⟨_, _, rfl, rfl, Lib.hid ((jb.out.grown (grownBy_put w13 wr.heap.size 0 (.slice A5 qs.length c5)) (by simp)).fill3 _ _ _), Lib.hid ((((BB.out.setCell (p := ⟨wr.heap.size, 0, none⟩) (Nat.le_refl _) _).setCell (p := ⟨wr.heap.size + 1, 0, none⟩) (Nat.le_succ _) _).setCell (p := ⟨wr.heap.size + 1, 1, none⟩) (Nat.le_succ _) _).setCell (p := ⟨wr.heap.size + 1, 2, none⟩) (Nat.le_succ _) _)⟩
          · have bs := ((BB.out.setCell (p := ⟨wr.heap.size, 0, none⟩) (Nat.le_refl _) (.int .i64 4)).setCell (p := ⟨wr.heap.size, 1, none⟩) (Nat.le_refl _) (.int .i64 ((Ln : Int) + 1))).setCell (p := ⟨wr.heap.size, 2, none⟩) (Nat.le_refl _) (.int .i64 3)
            exact ⟨_, _, rfl, rfl, Lib.hid ((jb.out.fill3 _ _ _).alloc _), Lib.hid (bs.alloc bs.size _)⟩
          · exact ⟨_, _, rfl, rfl, Lib.hid ((jb.out.grown (grownBy_put w13 (wr.heap.size + 1) 0 (.slice A5 qs.length c5)) (by simp)).fill3 _ _ _), Lib.hid ((((BB.out.setCell (p := ⟨wr.heap.size + 1, 0, none⟩) (Nat.le_succ _) _).setCell (p := ⟨wr.heap.size, 0, none⟩) (Nat.le_refl _) _).setCell (p := ⟨wr.heap.size, 1, none⟩) (Nat.le_refl _) _).setCell (p := ⟨wr.heap.size, 2, none⟩) (Nat.le_refl _) _)⟩
        obtain ⟨b9, b10, rfl, rfl, HB, TC⟩ := hcut
        obtain ⟨w15, rfl⟩ : ∃ W : World, W = wc := ⟨_, rfl⟩
        have t15 := t12.trans (TC.out.mono t12.size)
        have q15 := (z12.on TC.out).cell 0
        simp only [List.getElem?_toArray, List.getElem?_cons_zero] at q15
        obtain ⟨gq, xd, ux, rfl, hxd, -, f0, -⟩ := (L12.out.on TC.out).elem hk
        obtain rfl : xd = cd := Option.some.inj (hxd.symm.trans Hcd.out)
        have hns := (lib_facts hok hxd).name
        have d0 := HB.out.cell 0
        have d1 := HB.out.cell 1
        have d2 := HB.out.cell 2
        simp at d0 d1 d2
        have hhl : (headC xd).length = 5 + xd.name.size + 1 := by simp [headC]; omega
        have v1 : ¬ (9223372036854775807 < 5 + xd.name.size) := by omega
        have v2 : ¬ (9223372036854775807 < 5 + xd.name.size + 1) := by omega
        have v3 : (P.length : Int) + ((5 + xd.name.size + 1 : Nat) : Int) ≤ (T.size : Int) := by omega
        clear hxd z12 L12 HB t12
        have Heq := Lib.hid (head_is HTl.out)
        go_wp2_with fail
        go_ret
        exact ⟨ret_bool (by rw [Heq.out]; simp), t15⟩

end Go.Proofs.YtcckamhokdodnaaGreatDoor
