/- Contracts: CheckLayout of the reference and of the program, with what they call; the marks on a deck. Plain law: the report and its size. Conditions: a list of lists, a list of rules in memory. Contracts: the reference's RectLess, l04Op, l20Before, IsReport. Conditions: lists in memory. Contract: the reference's IsReport. Condition: a list of violations in memory. Contract: the program's IsReport. Condition: a list of violations in memory. -/
import Derived.Test.YtjiljodchebniaaGreatQ38
import Derived.Test.YtjiljodchebniaaGreatQ26
import Derived.Test.YtjiljodchebniaaGreatQ37
import Derived.Test.YtjiljodchebniaaGreatQ39
import Derived.Test.YtjiljodchebniaaGreatQ33
import Derived.Test.YtjiljodchebniaaGreatQ31
import Derived.Test.YtjiljodchebniaaGreatQ13
import Derived.Deep.RegionHeld3
import Derived.StillTailTactics
import Derived.Test.YtjiljodchebniaaGreatQ25
import Derived.Deep.QuietTactic
import Derived.BigQuiet

namespace Go.Proofs.YtjiljodchebniaaGreat
open Go.RowKit

theorem encL_ok (rs qs : List Rc) (k : Int) : okAll (encL rs qs k) = true := by
  unfold encL
  repeat' split
  all_goals first | exact canon_ok _ | rfl
theorem rmV_ok (rss : List (List Rc)) (r : Ru) : okAll (rmV rss r) = true := by
  unfold rmV ruleM markV markgV mkbV encV areaMV densV
  repeat' split
  all_goals first | exact canon_ok _ | exact encL_ok _ _ _ | rfl

noncomputable def compV (i : Int) (ms : List Rc) : List (Int × List Rc) := ((comps (cellsG ms)).map canon).map fun c => (i, c)
noncomputable def ruleVs (rss : List (List Rc)) (qs : List Ru) (i : Nat) : List (Int × List Rc) := match qs[i]? with | some q => compV i (rmV rss q) | none => []
noncomputable def checkTo (rss : List (List Rc)) (qs : List Ru) (k : Nat) : List (Int × List Rc) := (List.range k).flatMap (ruleVs rss qs)
noncomputable def checkV (rss : List (List Rc)) (qs : List Ru) : List (Int × List Rc) := checkTo rss qs qs.length
theorem check_zero (rss : List (List Rc)) (qs : List Ru) : checkTo rss qs 0 = [] := rfl
theorem check_step {rss : List (List Rc)} {qs : List Ru} {k : Nat} {q : Ru} (h : qs[k]? = some q) : checkTo rss qs (k + 1) = checkTo rss qs k ++ compV k (rmV rss q) := by
  unfold checkTo
  rw [List.range_succ, List.flatMap_append, List.flatMap_singleton]
  unfold ruleVs
  rw [h]
theorem compV_length (i : Int) (ms : List Rc) : (compV i ms).length ≤ 6400 := by
  unfold compV
  rw [List.length_map, List.length_map]
  exact comps_length _
theorem check_length (rss : List (List Rc)) (qs : List Ru) : ∀ k, (checkTo rss qs k).length ≤ 6400 * k
  | 0 => Nat.le_refl _
  | k + 1 => by
    have ih := check_length rss qs k
    cases h : qs[k]? with
    | some q =>
      have := compV_length (k : Int) (rmV rss q)
      rw [check_step h, List.length_append]
      omega
    | none =>
      have e : checkTo rss qs (k + 1) = checkTo rss qs k := by
        unfold checkTo
        rw [List.range_succ, List.flatMap_append, List.flatMap_singleton]
        unfold ruleVs
        rw [h, List.append_nil]
      rw [e]
      omega

theorem LW.of_rll {w : World} {B : Nat} {v : Value} {rss : List (List Rc)} (h : RLL w B v rss) : ∃ us, LW w B v us rss := by
  obtain ⟨us, h1, h2, h3⟩ := h
  refine ⟨us, h2, ?_, h3⟩
  unfold VL at h1
  rw [h2] at h1
  exact h1
/-- Lists whose first elements differ lie in blocks of their own. -/
theorem LW.apart {w : World} {B : Nat} {v : Value} {us : List Value} {rss : List (List Rc)} (h : LW w B v us rss) (hf : ∀ (i j : Nat) (a b : List Rc), i ≠ j → rss[i]? = some a → rss[j]? = some b → ∃ p q, a[0]? = some p ∧ b[0]? = some q ∧ p ≠ q) : Apart us := by
  intro i j x y g hij hx hy hxg hyg
  have hi : i < rss.length := by rw [← h.len]; exact (List.getElem?_eq_some_iff.1 hx).1
  have hj : j < rss.length := by rw [← h.len]; exact (List.getElem?_eq_some_iff.1 hy).1
  obtain ⟨p, q, hp, hq, hpq⟩ := hf i j _ _ hij (List.getElem?_eq_getElem hi) (List.getElem?_eq_getElem hj)
  have ha := h.each i x _ hx (List.getElem?_eq_getElem hi)
  have hb := h.each j y _ hy (List.getElem?_eq_getElem hj)
  have la : 0 < rss[i].length := (List.getElem?_eq_some_iff.1 hp).1
  have lb : 0 < rss[j].length := (List.getElem?_eq_some_iff.1 hq).1
  obtain ⟨A, c, rfl, -, -, -⟩ := ha.form
  obtain ⟨A2, c2, rfl, -, -, -⟩ := hb.form
  obtain ⟨ga, p0, p1, p2, p3, rfl, ra, -, f0, f1, f2, f3⟩ := ha.elem la
  obtain ⟨gb, q0, q1, q2, q3, rfl, rb, -, d0, d1, d2, d3⟩ := hb.elem lb
  have e1 : ga = g := by simpa [Value.ownBlock] using hxg
  have e2 : gb = g := by simpa [Value.ownBlock] using hyg
  subst e1
  subst e2
  have k0 := f0.symm.trans d0
  have k1 := f1.symm.trans d1
  have k2 := f2.symm.trans d2
  have k3 := f3.symm.trans d3
  simp only [Option.some.injEq, Value.int.injEq, true_and] at k0 k1 k2 k3
  subst k0 k1 k2 k3
  exact hpq ((Option.some.inj (hp.symm.trans ra)).trans (Option.some.inj (hq.symm.trans rb)).symm)
theorem compsL_apart {w : World} {B : Nat} {v : Value} {us : List Value} {G : Gr} (h : LW w B v us ((comps G).map canon)) : Apart us := by
  obtain ⟨ss, hl, hp, hf⟩ := comps_firsts G
  refine h.apart fun i j a b hij ha hb => ?_
  rw [List.getElem?_map, Option.map_eq_some_iff] at ha hb
  obtain ⟨P, hP, rfl⟩ := ha
  obtain ⟨Q, hQ, rfl⟩ := hb
  have hi : i < ss.length := by rw [hl]; exact (List.getElem?_eq_some_iff.1 hP).1
  have hj : j < ss.length := by rw [hl]; exact (List.getElem?_eq_some_iff.1 hQ).1
  have f1 := hf i P _ hP (List.getElem?_eq_getElem hi)
  have f2 := hf j Q _ hQ (List.getElem?_eq_getElem hj)
  obtain ⟨x1, y1, l1, e1⟩ := canon_first f1
  obtain ⟨x2, y2, l2, e2⟩ := canon_first f2
  refine ⟨_, _, by rw [e1]; rfl, by rw [e2]; rfl, fun e => ?_⟩
  simp only [Rc.mk.injEq] at e
  have hne : ss[i] ≠ ss[j] := by
    rw [List.pairwise_iff_getElem] at hp
    rcases Nat.lt_or_gt_of_ne hij with h | h
    · have := hp i j hi hj h; omega
    · have := hp j i hj hi h; omega
  exact hne (by omega)
theorem Apart.append {xs ys : List Value} {N : Nat} (h : Apart xs) (h2 : Apart ys) (hlt : ∀ (k : Nat) (x : Value), xs[k]? = some x → ∀ g, x.ownBlock = some g → g < N) (hge : ∀ (k : Nat) (y : Value), ys[k]? = some y → ∀ g, y.ownBlock = some g → N ≤ g) : Apart (xs ++ ys) := by
  intro i j x y g hij hx hy hxg hyg
  rw [List.getElem?_append] at hx hy
  split at hx <;> split at hy
  · exact h i j x y g hij hx hy hxg hyg
  · have := hlt _ x hx g hxg; have := hge _ y hy g hyg; omega
  · have := hge _ x hx g hxg; have := hlt _ y hy g hyg; omega
  · exact h2 _ _ x y g (by omega) hx hy hxg hyg
theorem LW.keptX {w w' : World} {B B2 : Nat} {v v2 : Value} {us xs : List Value} {rss : List (List Rc)} {vs : List (Int × List Rc)} (h : LW w B v us rss) (ho : XW w B2 v2 xs vs) (hg : w.grownBy w' v2.ownBlock) : LW w' B v us rss :=
  ⟨h.len, World.ownsRow.kept h.own hg (own_apart h.own ho.own (by decide)), fun k u rs hu hr => World.ownsRow.kept (h.each k u rs hu hr) hg (own_apart (h.each k u rs hu hr) ho.own (by decide))⟩

/-- 'out = append(out, v)' on a list of violations of the call's own; what it leaves alone. -/
theorem wpList_append_XG {w : World} {ops : Array Oper} {rest : List Oper} {o : Oper} {a : Act} {Q : Exit → Act → World → Prop} (hgd : o.guard = none) (s x : Operand)
    (ho : o.op = .call { callee := .builtin .append, args := #[s, x], argTypes := #[35, 35] })
    (B : Nat) (v : Value) (us : List Value) (vs : List (Int × List Rc)) (hs : a.eval s = v) (hown : XW w B v us vs) (k : Int) (u : Value) (rs : List Rc) (hu : RL w B u rs) (hx : a.eval x = .slice (some ⟨w.heap.size, 0, none⟩) 1 1) (hlen : vs.length ≤ 1000000) (hB : B ≤ w.heap.size)
    (h : ∀ v' w', XW w' B v' (us ++ [u]) (vs ++ [(k, rs)]) → w.grownBy w' v.ownBlock → Below B w w' → wpList Tryz.prog ops Q rest (a.put o.dst v') w') :
    wpList Tryz.prog ops Q (o :: rest) a (w.alloc (.cells #[.int .i64 k, u] 45)) := by
  have hone : u.oneCell' = true := by obtain ⟨A, c, rfl, _⟩ := hu.form; rfl
  obtain ⟨i, hi, hz, hsz, hby⟩ := info_parts infoVio
  refine wpList_append_own_at _ hgd s x 35 ho B 45 i _ 2 32 Tryz.underlying35 hi hz hsz hby rfl (by decide) v vs.length (flatV vs us) hs (World.ownsRow.alloc hown.own _) ⟨w.heap.size, 0, none⟩ 1 1
    [.int .i64 k, u] hx rfl ?_ ?_ (by simp only [maxLen]; omega) (by omega) (by simp; omega) ?_
  · intro j y hy
    rw [Addr.add_lit, World.cell?_alloc_new]
    simpa using hy
  · intro y hy
    simp at hy
    rcases hy with rfl | rfl
    · rfl
    · exact hone
  · intro v' w' h1 h2 _ _
    have h3 := grown_of_alloc h2
    refine h v' w' ⟨by simp [hown.len], ?_, fun j y q hy hq => ?_⟩ h3 (below_own hown.own h3 hB)
    · rw [flatV_append _ _ _ _ hown.len, List.length_append]
      exact h1
    · by_cases hj : j < vs.length
      · rw [List.getElem?_append_left (by rw [hown.len]; exact hj)] at hy
        rw [List.getElem?_append_left hj] at hq
        have hr := hown.each j y q hy hq
        exact World.ownsRow.kept hr h3 (own_apart hr hown.own (by decide))
      · have hke : j = vs.length := by have := (List.getElem?_eq_some_iff.1 hq).1; simp at this; omega
        subst hke
        rw [List.getElem?_append_right (by rw [hown.len]; exact Nat.le_refl _), hown.len, Nat.sub_self] at hy
        rw [List.getElem?_append_right (Nat.le_refl _), Nat.sub_self] at hq
        simp at hy hq
        subst hy hq
        exact World.ownsRow.kept hu h3 (own_apart hu hown.own (by decide))

end Go.Proofs.YtjiljodchebniaaGreat

namespace Go.Proofs.YtjiljodchebniaaGreat
open Go.RowKit

end Go.Proofs.YtjiljodchebniaaGreat

namespace Go.Proofs.YtjiljodchebniaaGreat
open Go.RowKit

set_option maxHeartbeats 3200000 in
set_option maxRecDepth 100000 in
theorem checked_any (lv v : Value) (rss : List (List Rc)) (qs : List Ru) (w : World) (h1 : layB rss = true) (h2 : deckB qs = true) (hl : RLL w 0 lv rss) (hv : QL w 0 v qs) (hn : qs.length ≤ 12) :
    Calls Tryz.prog 21 #[lv, .agg #[v]] w fun e w' => ∃ u us, e = .returned u ∧ XW w' w.heap.size u us (checkV rss qs) ∧ Apart us ∧ Below w.heap.size w w' := by
  obtain ⟨A, c, rfl, hc, hm⟩ := hv.form
  unfold maxLen at hm
  have b0 := (Below.refl w.heap.size w).alloc (Nat.le_refl _) (.cells #[.slice A qs.length c] 34)
  have zb := (Bk.new w 34 #[.slice A qs.length c]).alloc (.cells #[] 45)
  have hs1 : w.heap.size + 1 ≤ (w.alloc (.cells #[.slice A qs.length c] 34)).heap.size := by simp
  have o0 : XW ((w.alloc (.cells #[.slice A qs.length c] 34)).alloc (.cells #[] 45)) (w.heap.size + 1) (.slice (some ⟨(w.alloc (.cells #[.slice A qs.length c] 34)).heap.size, 0, none⟩) 0 0) [] (checkTo rss qs 0) := XW.lit0 _ hs1
  have e1 : (w.alloc (.cells #[.slice A qs.length c] 34)).heap.size = w.heap.size + 1 := by simp
  rw [e1] at o0
  have b1 := b0.alloc b0.size (.cells #[] 45)
  have s1 : w.heap.size + 1 ≤ ((w.alloc (.cells #[.slice A qs.length c] 34)).alloc (.cells #[] 45)).heap.size := by simp
  have HV := Lib.hid hv
  have HL := Lib.hid hl
  have H1 := Lib.hid h1
  have H2 := Lib.hid h2
  clear hv hl b0 hs1 e1 h1 h2
  go_enter Tryz.func21, Tryz.ntmps21
  go_wp2
  go_loopw [5, 14] (fun ov iv wr => ∃ (k : Nat) (us : List Value), k ≤ qs.length ∧ iv = .int .i64 k ∧ XW wr (w.heap.size + 1) ov us (checkTo rss qs k) ∧ Apart us ∧ Bk wr w.heap.size 34 #[.slice A qs.length c] ∧ Below w.heap.size w wr ∧ w.heap.size + 1 ≤ wr.heap.size) (fun _ iv _ => qs.length - (intOf iv).toNat)
  case atStart => exact ⟨0, [], Nat.zero_le _, rfl, o0, Apart.nil, zb, b1, s1⟩
  case round =>
    obtain ⟨k, us, hk, rfl, hO, hap, hZ, hb, hsz⟩ := hrel
    clear o0 zb b1 s1
    obtain ⟨Ao, co, hov, -, -⟩ := hO.form
    subst hov
    by_cases hlt : k < qs.length
    · obtain ⟨q, hq⟩ : ∃ q, qs[k]? = some q := ⟨_, List.getElem?_eq_getElem hlt⟩
      obtain ⟨g, rfl, -, hg, f0, f1, f2, f3, f4⟩ := (HV.out.on hb).elem hq
      have hk9 : k < 9223372036854775807 := by omega
      have Hst := Lib.hid (check_step (rss := rss) hq)
      have Hcl := Lib.hid (check_length rss qs k)
      have Hru := Lib.hid (deck_rule H2.out hq)
      have Hrm := Lib.hid (rmV_yes H1.out Hru.out)
      obtain ⟨a0, a1, a2, a3, a4⟩ := q
      dsimp only at f0 f1 f2 f3 f4
      clear hq
      have hO0 := Lib.hid (hO.alloc (.cells #[.int .i64 a0, .int .i64 a1, .int .i64 a2, .int .i64 a3, .int .i64 a4] 31))
      have hZ0 := Lib.hid (hZ.alloc (.cells #[.int .i64 a0, .int .i64 a1, .int .i64 a2, .int .i64 a3, .int .i64 a4] 31))
      have hb1 := Lib.hid (hb.alloc hb.size (.cells #[.int .i64 a0, .int .i64 a1, .int .i64 a2, .int .i64 a3, .int .i64 a4] 31))
      have hs1 := Lib.hid (show w.heap.size + 1 ≤ (wr.alloc (.cells #[.int .i64 a0, .int .i64 a1, .int .i64 a2, .int .i64 a3, .int .i64 a4] 31)).heap.size by simp; omega)
      clear hO hZ
      go_wp2_with fail
      refine (rmv_impl lv rss ⟨a0, a1, a2, a3, a4⟩ _ (HL.out.on hb1.out) H1.out Hru.out).mono ?_
      rintro e w3 ⟨u3, rfl, hR3, hb3⟩
      rw [← Hrm.out] at hR3
      have o3 := Lib.hid (hO0.out.on hb3)
      have z3 := Lib.hid (hZ0.out.on hb3)
      have b3 := hb1.out.trans (hb3.mono hb1.out.size)
      have s3 := Nat.le_trans hs1.out hb3.size
      have r3 := hR3.less (Nat.zero_le _)
      clear hO0 hZ0 hb hsz hb3 hR3 f0 f1 f2 f3 f4 hg hb1 hs1
      go_wp2_with fail
      refine (components_any u3 _ _ r3).mono ?_
      rintro e w4 ⟨u4, rfl, hC, hb4⟩
      obtain ⟨uc, hW⟩ := LW.of_rll hC
      have hapc := compsL_apart hW
      have ins := o3.out.inside
      have inc := hW.inside
      have HAP := Lib.hid (hap.append hapc (fun j x hx g hg => (ins.2 j x hx g hg).2) (fun j y hy g hg => (inc.2 j y hy g hg).1))
      have o4 := Lib.hid (o3.out.on hb4)
      have z4 := Lib.hid (z3.out.on hb4)
      have b4 := b3.trans (hb4.mono b3.size)
      have s4 := Nat.le_trans s3 hb4.size
      have W4 := Lib.hid (hW.less s3)
      have Hlc := Lib.hid (comps_length (cellsG (rmV rss ⟨a0, a1, a2, a3, a4⟩)))
      have Hcv := Lib.hid (show compV k (rmV rss ⟨a0, a1, a2, a3, a4⟩) = ((comps (cellsG (rmV rss ⟨a0, a1, a2, a3, a4⟩))).map canon).map fun c => ((k : Int), c) from rfl)
      have Hll := Lib.hid (show ((comps (cellsG (rmV rss ⟨a0, a1, a2, a3, a4⟩))).map canon).length = (comps (cellsG (rmV rss ⟨a0, a1, a2, a3, a4⟩))).length from List.length_map _)
      clear hC hW hapc ins inc o3 z3 b3 s3 hb4 r3 hap
      generalize (comps (cellsG (rmV rss ⟨a0, a1, a2, a3, a4⟩))).map canon = css at *
      rw [← Hll.out] at Hlc
      clear Hll
      obtain ⟨A4, c4, rfl, -, -⟩ := W4.out.form
      have hcl : css.length ≤ 6400 := Hlc.out
      have O4 := o4.out
      have Z4 := z4.out
      clear o4 z4
      go_wp2
      go_loopw [5, 24] (fun ov iv ws => ∃ j : Nat, j ≤ css.length ∧ iv = .int .i64 j ∧ XW ws (w.heap.size + 1) ov (us ++ uc.take j) (checkTo rss qs k ++ (css.take j).map fun c => ((k : Int), c)) ∧ LW ws (w.heap.size + 1) (.slice A4 css.length c4) uc css ∧ Bk ws w.heap.size 34 #[.slice (some ⟨g, 0, none⟩) qs.length c] ∧ Below w.heap.size w ws ∧ w.heap.size + 1 ≤ ws.heap.size) (fun _ iv _ => css.length - (intOf iv).toNat)
      case atStart => exact ⟨0, Nat.zero_le _, rfl, by simpa using O4, W4.out, Z4, b4, s4⟩
      case round =>
        obtain ⟨j, hj, rfl, hO, hW, hZ, hb, hsz⟩ := hrel
        clear O4 Z4 b4 s4 W4
        by_cases hjt : j < css.length
        · obtain ⟨cs, hcs⟩ : ∃ cs, css[j]? = some cs := ⟨_, List.getElem?_eq_getElem hjt⟩
          obtain ⟨gc, uj, rfl, huj, -, hgc, fc, hRj⟩ := hW.elem hcs
          have e1 : uc.take (j + 1) = uc.take j ++ [uj] := by rw [List.take_add_one, huj]; rfl
          have e2 : (css.take (j + 1)).map (fun c => ((k : Int), c)) = (css.take j).map (fun c => ((k : Int), c)) ++ [((k : Int), cs)] := by rw [List.take_add_one, hcs, List.map_append]; rfl
          have E1 := Lib.hid e1
          have E2 := Lib.hid e2
          obtain ⟨Au, cu, rfl, -, -, -⟩ := hRj.form
          obtain ⟨Ao2, co2, hov2, -, -⟩ := hO.form
          subst hov2
          have hlen : (checkTo rss qs k ++ (css.take j).map fun c => ((k : Int), c)).length ≤ 1000000 := by
            have := Hcl.out
            rw [List.length_append, List.length_map, List.length_take]
            omega
          have hj9 : j < 9223372036854775807 := by omega
          have OO := Lib.hid hO
          have WW := Lib.hid hW
          have LEN := Lib.hid hlen
          clear hO hW hcs huj e1 e2 hlen
          go_wp2_with (at_builtin; refine wpList_append_XG rfl (.tmp 28) (.tmp 32) rfl (w.heap.size + 1) _ (us ++ uc.take j) (checkTo rss qs k ++ (css.take j).map fun c => ((k : Int), c)) rfl OO.out k _ cs hRj rfl LEN.out hsz ?_; intro v' w' k1 k2 k3)
          rw [List.append_assoc, List.append_assoc, ← E1.out, ← E2.out] at k1
          exact ⟨⟨j + 1, by omega, by go_num, k1, WW.out.keptX OO.out k2, hZ.below k3 (Nat.lt_succ_self _), hb.trans (k3.mono (Nat.le_succ _)), Nat.le_trans hsz k3.size⟩, by simp [intOf]; omega⟩
        · have hje : j = css.length := by omega
          have t1 : uc.take j = uc := List.take_of_length_le (by rw [hW.len]; omega)
          have t2 : css.take j = css := List.take_of_length_le (by omega)
          rw [t1, t2, ← Hcv.out, ← Hst.out] at hO
          clear t1 t2 hW
          go_wp2
          exact ⟨⟨k + 1, us ++ uc, by omega, by go_num, hO, HAP.out, hZ, hb, hsz⟩, by simp [intOf]; omega⟩
    · have hke : k = qs.length := by omega
      subst hke
      have hO2 := Lib.hid hO
      clear hO
      go_wp2
      go_ret
      exact ⟨_, us, rfl, hO2.out.less (Nat.le_succ _), hap, hb⟩

end Go.Proofs.YtjiljodchebniaaGreat

namespace Go.Proofs.YtjiljodchebniaaGreat
open Go.RowKit

/-- What CheckLayout answers: the report and a code. -/
noncomputable def chkL (rss : List (List Rc)) (qs : List Ru) : List (Int × List Rc) := if layB rss = true ∧ deckB qs = true then (if (checkV rss qs).length ≤ 256 then checkV rss qs else []) else []
noncomputable def chkC (rss : List (List Rc)) (qs : List Ru) : Int := if layB rss = true ∧ deckB qs = true then (if (checkV rss qs).length ≤ 256 then 0 else 3) else 1
theorem chk_no {rss : List (List Rc)} {qs : List Ru} (h : ¬ (layB rss = true ∧ deckB qs = true)) : chkL rss qs = [] ∧ chkC rss qs = 1 := ⟨if_neg h, if_neg h⟩
theorem chk_yes {rss : List (List Rc)} {qs : List Ru} (h1 : layB rss = true) (h2 : deckB qs = true) (h : (checkV rss qs).length ≤ 256) : chkL rss qs = checkV rss qs ∧ chkC rss qs = 0 := by
  simp [chkL, chkC, h1, h2, h]
theorem chk_many {rss : List (List Rc)} {qs : List Ru} (h1 : layB rss = true) (h2 : deckB qs = true) (h : ¬ (checkV rss qs).length ≤ 256) : chkL rss qs = [] ∧ chkC rss qs = 3 := by
  have hn : ¬ (checkV rss qs).length ≤ 256 := h
  unfold chkL chkC
  rw [h1, h2, if_neg hn, if_neg hn]
  simp
theorem chkL_few (rss : List (List Rc)) (qs : List Ru) : (chkL rss qs).length ≤ 256 := by
  unfold chkL
  repeat' split
  · assumption
  · simp
  · simp
theorem deck_len {qs : List Ru} (h : deckB qs = true) : qs.length ≤ 12 := by
  unfold deckB at h
  rw [Bool.and_eq_true] at h
  exact of_decide_eq_true h.1
theorem XW.nil (w : World) (B : Nat) : XW w B (.slice none 0 0) [] [] := ⟨rfl, World.ownsRow_nil _ _ _ _, fun k u q hu => by simp at hu⟩

set_option maxHeartbeats 1600000 in
set_option maxRecDepth 100000 in
theorem check_impl (lv v : Value) (rss : List (List Rc)) (qs : List Ru) (w : World) (hl : RLL w 0 lv rss) (hv : QL w 0 v qs) (hn : qs.length ≤ 1000000000) :
    Calls Tryz.prog 8 #[lv, .agg #[v]] w fun e w' => ∃ u us, e = .returned (.tuple #[u, .int .i64 (chkC rss qs)]) ∧ XW w' w.heap.size u us (chkL rss qs) ∧ Apart us ∧ Below w.heap.size w w' := by
  obtain ⟨A, c, rfl, hc, hm⟩ := hv.form
  unfold maxLen at hm
  have hb0 := (Below.refl w.heap.size w).alloc (Nat.le_refl _) (.cells #[.slice A qs.length c] 34)
  have zb := Bk.new w 34 #[.slice A qs.length c]
  have hX0 := hv.alloc (.cells #[.slice A qs.length c] 34)
  have hL0 := hl.alloc (.cells #[.slice A qs.length c] 34)
  clear hv hl
  cases h1 : layB rss with
  | false =>
    obtain ⟨e0, e1⟩ := chk_no (rss := rss) (qs := qs) (by rw [h1]; simp)
    rw [e0, e1]
    clear e0 e1
    go_enter Tryz.func8, Tryz.ntmps8
    go_wp2_with fail
    refine (isLay_impl _ rss _ hL0).mono ?_
    rintro e w1 ⟨rfl, hb1⟩
    rw [h1]
    go_wp2
    refine bodyPost_ret (v := .tuple #[.slice none 0 0, .int .i64 1]) (by simp [results, Tryz.results8, go_sem]) rfl ?_
    exact ⟨_, [], rfl, XW.nil _ _, Apart.nil, hb0.trans (hb1.mono hb0.size)⟩
  | true =>
  have H1 := Lib.hid h1
  clear h1
  cases h2 : deckB qs with
  | false =>
    obtain ⟨e0, e1⟩ := chk_no (rss := rss) (qs := qs) (by rw [h2]; simp)
    rw [e0, e1]
    clear e0 e1
    go_enter Tryz.func8, Tryz.ntmps8
    go_wp2_with fail
    refine (isLay_impl _ rss _ hL0).mono ?_
    rintro e w1 ⟨rfl, hb1⟩
    rw [H1.out]
    have z1 := zb.on hb1
    have x1 := hX0.on hb1
    have b1 := hb0.trans (hb1.mono hb0.size)
    have d0 := box1 z1
    clear zb hX0 hb0 hb1 hL0
    go_wp2_with fail
    refine (deck_impl _ qs _ x1 hn).mono ?_
    rintro e w2 ⟨rfl, hb2⟩
    rw [h2]
    clear d0
    go_wp2
    refine bodyPost_ret (v := .tuple #[.slice none 0 0, .int .i64 1]) (by simp [results, Tryz.results8, go_sem]) rfl ?_
    exact ⟨_, [], rfl, XW.nil _ _, Apart.nil, b1.trans (hb2.mono b1.size)⟩
  | true =>
  have H2 := Lib.hid h2
  have hlen := deck_len h2
  clear h2
  go_enter Tryz.func8, Tryz.ntmps8
  go_wp2_with fail
  refine (isLay_impl _ rss _ hL0).mono ?_
  rintro e w1 ⟨rfl, hb1⟩
  rw [H1.out]
  have z1 := zb.on hb1
  have x1 := hX0.on hb1
  have l1 := hL0.on hb1
  have b1 := hb0.trans (hb1.mono hb0.size)
  have d0 := box1 z1
  clear zb hX0 hb0 hb1 hL0
  go_wp2_with fail
  refine (deck_impl _ qs _ x1 hn).mono ?_
  rintro e w2 ⟨rfl, hb2⟩
  rw [H2.out]
  have z2 := z1.on hb2
  have x2 := x1.on hb2
  have l2 := l1.on hb2
  have b2 := b1.trans (hb2.mono b1.size)
  clear d0 z1 x1 l1 b1 hb2
  have d0 := box1 z2
  go_wp2_with fail
  refine (checked_any lv _ rss qs _ H1.out H2.out l2 x2 hlen).mono ?_
  rintro e w3 ⟨u, us, rfl, hX, hap, hb3⟩
  obtain ⟨A3, c3, rfl, -, -⟩ := hX.form
  have hcl : (checkV rss qs).length ≤ 6400 * qs.length := check_length rss qs qs.length
  have hX3 := Lib.hid (hX.less b2.size)
  have B3 := b2.trans (hb3.mono b2.size)
  clear d0 z2 x2 l2 b2 hb3 hX
  by_cases h : (checkV rss qs).length ≤ 256
  · have Hc := Lib.hid (chk_yes H1.out H2.out h)
    have hi : ¬ ((256 : Int) < ((checkV rss qs).length : Int)) := by omega
    have hdd : decide ((checkV rss qs).length ≤ 256) = true := decide_eq_true h
    go_wp2
    refine bodyPost_ret (v := .tuple #[.slice A3 (checkV rss qs).length c3, .int .i64 0]) (by simp [results, Tryz.results8, go_sem]) rfl ?_
    exact ⟨_, us, by rw [Hc.out.2], by rw [Hc.out.1]; exact hX3.out, hap, B3⟩
  · have Hc := Lib.hid (chk_many H1.out H2.out h)
    have hi : (256 : Int) < ((checkV rss qs).length : Int) := by omega
    have hdd : decide ((checkV rss qs).length ≤ 256) = false := decide_eq_false h
    go_wp2
    refine bodyPost_ret (v := .tuple #[.slice none 0 0, .int .i64 3]) (by simp [results, Tryz.results8, go_sem]) rfl ?_
    exact ⟨_, [], by rw [Hc.out.2], by rw [Hc.out.1]; exact XW.nil _ _, Apart.nil, B3⟩

end Go.Proofs.YtjiljodchebniaaGreat

namespace Go.Proofs.YtjiljodchebniaaGreat
open Go.RowKit

theorem len_area : ∀ {rs : List Rc}, okAll rs = true → (rs.length : Int) ≤ sumA rs
  | [], _ => by simp [sumA]
  | r :: rs, h => by
    have h' : okRc r = true ∧ okAll rs = true := by simpa [okAll] using h
    have ih := len_area h'.2
    have h1 := (areaR_bounds h'.1).1
    have e : sumA (r :: rs) = areaR r + sumA rs := by simp [sumA]
    rw [e, List.length_cons]
    omega
theorem canons_size : ∀ Ps : List Gr, (((Ps.map fun P => (canon P).length).sum : Nat) : Int) ≤ smallN 6401 Ps
  | [] => by simp [smallN]
  | P :: Ps => by
    have ih := canons_size Ps
    have h1 := len_area (canon_ok P)
    rw [count_canon] at h1
    have h2 := (count_bounds P).2
    have e : smallN 6401 (P :: Ps) = countG P + smallN 6401 Ps := by unfold smallN; rw [if_pos (by omega)]; rw [show smallN 6401 Ps = smallN 6401 Ps from rfl]; cases Ps <;> rfl
    rw [e, List.map_cons, List.sum_cons]
    omega
theorem compV_size (i : Int) (ms : List Rc) : sizeV (compV i ms) ≤ 6400 := by
  have h := canons_size (comps (cellsG ms))
  rw [← small_sum] at h
  have h2 := (count_bounds (smallG 6401 (comps (cellsG ms)))).2
  have e : sizeV (compV i ms) = ((comps (cellsG ms)).map fun P => (canon P).length).sum := by
    unfold sizeV compV
    rw [List.map_map, List.map_map]
    rfl
  rw [e]
  omega
theorem sizeV_append (a b : List (Int × List Rc)) : sizeV (a ++ b) = sizeV a + sizeV b := by
  unfold sizeV
  rw [List.map_append, List.sum_append]
theorem check_size (rss : List (List Rc)) (qs : List Ru) : ∀ k, sizeV (checkTo rss qs k) ≤ 6400 * k
  | 0 => Nat.le_refl _
  | k + 1 => by
    have ih := check_size rss qs k
    cases h : qs[k]? with
    | some q =>
      have := compV_size (k : Int) (rmV rss q)
      rw [check_step h, sizeV_append]
      omega
    | none =>
      have e : checkTo rss qs (k + 1) = checkTo rss qs k := by
        unfold checkTo
        rw [List.range_succ, List.flatMap_append, List.flatMap_singleton]
        unfold ruleVs
        rw [h, List.append_nil]
      rw [e]
      omega
theorem chkL_size (rss : List (List Rc)) (qs : List Ru) : (chkL rss qs).length + sizeV (chkL rss qs) ≤ 200000 := by
  have h0 := chkL_few rss qs
  have h1 : sizeV (chkL rss qs) ≤ 76800 := by
    unfold chkL
    split
    · rename_i h
      split
      · have := check_size rss qs qs.length
        have h2 := deck_len h.2
        show sizeV (checkTo rss qs qs.length) ≤ _
        omega
      · simp [sizeV]
    · simp [sizeV]
  omega

end Go.Proofs.YtjiljodchebniaaGreat

namespace Go.Proofs.YtjiljodchebniaaGreat
open Go.RowKit

end Go.Proofs.YtjiljodchebniaaGreat

namespace Go.Proofs.YtjiljodchebniaaGreat
open Go.RowKit

theorem RL.head4 {w : World} {B g n c : Nat} {rs : List Rc} (h : RL w B (.slice (some ⟨g, 0, none⟩) n c) rs) {x0 y0 x1 y1 : Int} (hr : rs[0]? = some ⟨x0, y0, x1, y1⟩) :
    w.cell? ⟨g, 0, none⟩ = some (.int .i64 x0) ∧ w.cell? ⟨g, 1, none⟩ = some (.int .i64 y0) ∧ w.cell? ⟨g, 2, none⟩ = some (.int .i64 x1) ∧ w.cell? ⟨g, 3, none⟩ = some (.int .i64 y1) := by simpa using h.four hr

/-- Two regions do not touch. -/
theorem touch_no {a b : List Rc} : (canon (tabG 8 (cellsG a) (cellsG b))).length = 0 ↔ touchB a b = false := by
  rw [List.length_eq_zero_iff, canon_nil_iff]
  constructor
  · intro h
    exact meet_no h
  · intro h i hi
    apply Classical.byContradiction
    intro hc
    have hc' : tabG 8 (cellsG a) (cellsG b) i = true := by simpa using hc
    rw [tab8] at hc'
    unfold interG at hc'
    rw [Bool.and_eq_true] at hc'
    have := meet_yes hi hc'.1 hc'.2
    unfold touchB at h
    rw [h] at this
    cases this

end Go.Proofs.YtjiljodchebniaaGreat

namespace Go.Proofs.YtjiljodchebniaaGreat
open Go.RowKit

noncomputable def okV (q : Int × List Rc) : Bool := vioV q.1 q.2
theorem okV_ne {q : Int × List Rc} (h : okV q = true) : q.2 ≠ [] := conn_ne (vio_conn h)
theorem okV_ok {q : Int × List Rc} (h : okV q = true) : okAll q.2 = true := okAll_reg (conn_reg (vio_conn h))

end Go.Proofs.YtjiljodchebniaaGreat

namespace Go.Proofs.YtjiljodchebniaaGreat
open Go.RowKit

theorem below_grow {B : Nat} {a w : World} (h : Below B a w) (hB : B ≤ w.heap.size) (os : Array Obj) : Below B a (Sort.grow w os) :=
  ⟨h.os, h.tape, h.output, by simp [Sort.grow]; have := h.size; omega, fun k hk => by
    have e : (Sort.grow w os).heap[k]? = w.heap[k]? := by simp only [Sort.grow]; rw [Array.getElem?_append_left (by omega)]
    exact e.trans (h.block k hk)⟩
theorem cmp_less (a b : Rc) : decide (0 ≤ cmpR a b) = !lessR a b := by
  rw [Bool.eq_iff_iff]
  unfold cmpR lessR cmpI nz
  simp only [decide_eq_true_eq, Bool.not_eq_true', decide_eq_false_iff_not]
  repeat' split
  all_goals omega
theorem touch_meet {a b : List Rc} (ha : okAll a = true) (hb : okAll b = true) : meetL a b = touchB a b := meetL_G ha hb

theorem cmp_below (a b : Rc) (w : World) : Calls Tryz.prog 109 #[a.val, b.val] w fun e w' => e = .returned (.int .i64 (cmpR a b)) ∧ Below w.heap.size w w' := by
  refine (compareRects_any a b w).mono ?_
  rintro e w1 ⟨rfl, q, os, rfl⟩
  exact ⟨rfl, below_grow (below_drewN (Below.refl _ _) q) (Nat.le_refl _) os⟩
theorem head_get {rs : List Rc} (h : rs ≠ []) : ∃ x0 y0 x1 y1, rs[0]? = some (⟨x0, y0, x1, y1⟩ : Rc) := by
  match rs, h with
  | ⟨x0, y0, x1, y1⟩ :: l, _ => exact ⟨x0, y0, x1, y1, rfl⟩
theorem RL.head {w : World} {B n c : Nat} {A : Option Addr} {rs : List Rc} (h : RL w B (.slice A n c) rs) {x0 y0 x1 y1 : Int} (hr : rs[0]? = some ⟨x0, y0, x1, y1⟩) :
    ∃ g, A = some ⟨g, 0, none⟩ ∧ w.cell? ⟨g, 0, none⟩ = some (.int .i64 x0) ∧ w.cell? ⟨g, 1, none⟩ = some (.int .i64 y0) ∧ w.cell? ⟨g, 2, none⟩ = some (.int .i64 x1) ∧ w.cell? ⟨g, 3, none⟩ = some (.int .i64 y1) := by
  obtain ⟨g, a0, b0, a1, b1, rfl, hr', hg, f0, f1, f2, f3⟩ := h.elem (List.getElem?_eq_some_iff.1 hr).1
  exact ⟨g, rfl, h.head4 hr⟩

end Go.Proofs.YtjiljodchebniaaGreat
