/- The walk of the law FnLocality, over drawn inputs: it answers true. No conditions. -/
import Derived.Test.YtbljapihmkmolaaGreatDrawW
import Derived.Test.YtbljapihmkmolaaGreatClip
import Derived.Test.YtbljapihmkmolaaGreatCopyL
import Derived.Test.YtbljapihmkmolaaGreatSame
import Derived.Test.YtbljapihmkmolaaGreatDice
import Derived.Deep.RegionHeld3
import Derived.Deep.CutRange
namespace Go.Proofs.YtbljapihmkmolaaGreat
open Go.RowKit

/-- 'append(list, more)' of a list to a list of lists, in a region that draws its order. -/
theorem step_append_RLL {W : World} {ops : Array Oper} {o : Oper} {a : Act} {K : Act → World → Prop} {Q : Exit → Act → World → Prop} {E : Prop} (hgd : o.guard = none) (s x : Operand)
    (ho : o.op = .call { callee := .builtin .append, args := #[s, x], argTypes := #[28, 28] })
    (B : Nat) (v : Value) (rss : List (List Rc)) (hs : a.eval s = v) (hown : RLL W B v rss) (nb : Nat) (u : Value) (rs : List Rc) (hu : RL W B u rs) (hx : a.eval x = .slice (some ⟨nb, 0, none⟩) 1 1) (hbk : Bk W nb 26 #[u])
    (hlen : rss.length ≤ 1000000) (hB : B ≤ W.heap.size)
    (h : ∀ v' w', RLL w' B v' (rss ++ [rs]) → W.grownBy w' v.ownBlock → Below B W w' → K (a.put o.dst v') w') :
    if Region.wanted o (yielded ops a.tmps) = true then Oper.wp Tryz.prog o a W K Q else E := by
  obtain ⟨vs, h1, h2, h3⟩ := hown
  obtain ⟨i, hi, hz, hsz, hby⟩ := info_parts infoRects
  have hone : u.oneCell' = true := by obtain ⟨A, c, rfl, _⟩ := hu.form; rfl
  unfold VL at h1
  rw [if_pos (by simp [Region.wanted, hgd])]
  refine wp_append_own _ s x 28 ho B 26 i _ 1 24 Tryz.underlying28 hi hz hsz hby rfl (by decide) v vs.length vs hs h1 ⟨nb, 0, none⟩ 1 1
    [u] hx rfl ?_ (by simpa using hone) (by simp only [maxLen]; omega) (by omega) hB ?_
  · intro j y hy
    rw [Addr.add_lit, Nat.zero_add, hbk.cell]
    simpa using hy
  · intro v' w' k1 k2 _
    refine h v' w' ⟨vs ++ [u], by unfold VL; rw [List.length_append]; exact k1, by simp [h2], fun k y q hy hq => ?_⟩ k2 (below_own h1 k2 hB)
    by_cases hk : k < vs.length
    · rw [List.getElem?_append_left hk] at hy
      rw [List.getElem?_append_left (by omega)] at hq
      exact World.ownsRow.kept (h3 k y q hy hq) k2 (own_apart (h3 k y q hy hq) h1 (by decide))
    · have hke : k = vs.length := by have := (List.getElem?_eq_some_iff.1 hy).1; simp at this; omega
      subst hke
      rw [List.getElem?_append_right (Nat.le_refl _), Nat.sub_self] at hy
      rw [List.getElem?_append_right (by omega), h2, Nat.sub_self] at hq
      simp at hy hq
      subst hy hq
      exact World.ownsRow.kept hu k2 (own_apart hu h1 (by decide))
set_option maxHeartbeats 400000 in
/-- The reference's IsLayout at seven lists. -/
theorem isLay7b_spec (A : Option Addr) (c : Nat) (w : World) : Calls Tryz.prog 44 #[.slice A 7 c] w fun e w' => e = .returned (.bool false) ∧ Below w.heap.size w w' := by
  go_enter Tryz.func44, Tryz.ntmps44
  go_wp2
  go_ret
  exact ⟨rfl, Below.refl _ _⟩
theorem regNil : isReg [] = true := by rfl
theorem encL_isReg (rs qs : List Rc) (k : Int) : isReg (encL rs qs k) = true := by
  unfold encL
  repeat' split
  all_goals first | exact isReg_canon _ | exact regNil
theorem rmV_isReg (rss : List (List Rc)) (r : Ru) : isReg (rmV rss r) = true := by
  unfold rmV ruleM markV markgV mkbV encV areaMV densV
  repeat' split
  all_goals first | exact isReg_canon _ | exact encL_isReg _ _ _ | exact regNil
theorem reach_yes {r : Ru} (h : 0 ≤ reachV r) : ruleB r = true ∧ r.k ≤ 3 ∧ 1 ≤ r.v ∧ r.v ≤ 8 ∧ reachV r = r.v := by
  unfold reachV at h ⊢
  split at h
  · rename_i hc
    have hr := hc.1
    rw [if_pos hc]
    obtain ⟨f1, _, _⟩ := rule_facts hr
    have hv : valueB r.k r.v = true := by
      unfold ruleB at hr
      simp only [Bool.and_eq_true] at hr
      exact hr.1.1.2
    unfold valueB at hv
    rw [if_neg (by omega), if_neg (by omega), inB_iff] at hv
    exact ⟨hr, hc.2, hv.1, hv.2, rfl⟩
  · omega
/-- The clipped layout's markers at the cell. -/
theorem clip_marks {rss : List (List Rc)} {r : Ru} {x y : Int} (h : layB rss = true) (hr : ruleB r = true) (hk : r.k ≤ 3) (hd : 1 ≤ r.v ∧ r.v ≤ 8) (hc : onC x y = true) :
    hasG (cellsG (rmV rss r)) x y = hasG (cellsG (rmV (rss.map fun rs => clipV rs (nearB x y r.v)) r)) x y := by
  have hb := nearB_ok hc hd
  have hl := (layB_iff rss).1 h
  refine near_marks h ?_ hr hk hd.1 fun l h0 h7 => ?_
  · rw [layB_iff]
    refine ⟨by rw [List.length_map]; exact hl.1, fun rs hrs => ?_⟩
    obtain ⟨q, hq, rfl⟩ := List.mem_map.1 hrs
    rw [clipV_yes (hl.2 q hq) hb]
    exact isReg_canon _
  · have hlt : l.toNat < rss.length := by omega
    have e : layAt (rss.map fun rs => clipV rs (nearB x y r.v)) l = clipV (layAt rss l) (nearB x y r.v) := by
      unfold layAt
      rw [List.getD_eq_getElem?_getD, List.getD_eq_getElem?_getD, List.getElem?_map, List.getElem?_eq_getElem hlt]
      rfl
    have hreg : isReg (layAt rss l) = true := by
      unfold layAt
      rw [List.getD_eq_getElem?_getD, List.getElem?_eq_getElem hlt]
      exact hl.2 _ (List.getElem_mem hlt)
    rw [e, clipV_yes hreg hb]
    exact clip_agree (okAll_of_reg hreg)

set_option maxHeartbeats 6400000 in
set_option maxRecDepth 100000 in
/-- FnLocality answers true. -/
theorem lawFnLocal (A : Option Addr) (n c : Nat) (w : World) (hA : ArgB w A n) (hm : n ≤ maxLen) : Calls Tryz.prog 8 #[.slice A n c] w fun e w' => e = .returned (.bool true) ∧ Below w.heap.size w w' := by
  go_enter Tryz.func8, Tryz.ntmps8
  go_wp2_with fail
  refine (big_any A n c w hm).mono ?_
  rintro e w0 ⟨rfl, rfl⟩
  by_cases h4 : 4096 < n
  · rw [decide_eq_true h4]
    go_wp2
    go_ret
    exact ⟨rfl, Below.refl _ _⟩
  · rw [decide_eq_false h4]
    go_wp2_with fail
    refine (drawRecheck_any A n c _ hA (by omega)).mono ?_
    rintro e w1 ⟨v, z, ⟨q0, q1, q2, q3, q4⟩, rfl, hV, hb1⟩
    unfold Ru.val
    have zr := Bk.new w1 30 #[.int .i64 q0, .int .i64 q1, .int .i64 q2, .int .i64 q3, .int .i64 q4]
    have hV2 := hV.on ((Below.refl w1.heap.size w1).alloc (Nat.le_refl _) (.cells #[.int .i64 q0, .int .i64 q1, .int .i64 q2, .int .i64 q3, .int .i64 q4] 30))
    have hb2 := hb1.alloc hb1.size (.cells #[.int .i64 q0, .int .i64 q1, .int .i64 q2, .int .i64 q3, .int .i64 q4] 30)
    have hA2 := hA.on hb2
    obtain ⟨c0, c1, c2, c3, c4⟩ := box5 zr
    clear hV hb1 hA
    go_wp2_with fail
    refine (reach_spec ⟨q0, q1, q2, q3, q4⟩ _).mono ?_
    rintro e w3 ⟨rfl, hb3⟩
    replace zr := zr.on hb3
    replace hV2 := hV2.on hb3
    replace hA2 := hA2.on hb3
    replace hb2 := hb2.trans (hb3.mono hb2.size)
    clear c0 c1 c2 c3 c4 hb3
    have Hreach := Lib.hid (fun h => reach_yes (r := ⟨q0, q1, q2, q3, q4⟩) h)
    generalize reachV ⟨q0, q1, q2, q3, q4⟩ = rch at *
    rcases hV2 with ⟨b, us, rss, rfl, hX, h8, hl⟩ | ⟨A7, c7, rfl⟩
    · have hL := hX.rll
      have Hsm := Lib.hid (show ∀ rs ∈ rss, rs.length ≤ 1000000 from fun rs h => Nat.le_trans (hl rs h) (by omega))
      clear hX hl
      go_wp2_with fail
      refine (isLay_spec _ rss _ hL).mono ?_
      rintro e w4 ⟨rfl, hb4⟩
      have z4 := Lib.hid (zr.on hb4)
      have V4 := Lib.hid (hL.on hb4)
      have A4 := hA2.on hb4
      have b4 := hb2.trans (hb4.mono hb2.size)
      clear zr hL hA2 hb2 hb4
      cases hlay : layB rss with
      | false =>
        go_wp2
        go_ret
        exact ⟨rfl, b4⟩
      | true =>
        have Hlay := Lib.hid hlay
        clear hlay
        by_cases hneg : rch < 0
        · go_wp2
          go_ret
          exact ⟨rfl, b4⟩
        · obtain ⟨g1, g2, g3, g4, rfl⟩ := Hreach.out (by omega)
          have G1 := Lib.hid g1
          clear g1 Hreach
          go_wp2_with fail
          refine (roll_any A n c 41 _ A4 (by omega) (by omega)).mono ?_
          rintro e w5 ⟨g, rfl, hg, hD, hb5⟩
          have t5 := hb5
          have s4 := b4.size
          have Hm := Lib.hid (rmV_isReg rss ⟨q0, q1, q2, rch, q4⟩)
          go_wp2_with fail
          refine (below_any g 26 _ hD (by omega)).mono ?_
          rintro e w6 ⟨x, rfl, hx, hD6, hG6⟩
          have hn6 : ∀ q, some g = some q → w4.heap.size ≤ q := fun q hq => by simp at hq; omega
          have t6 := t5.trans (grown_below hG6 hn6 t5.size)
          have ex := Go.IntWalk.i64_in (x - 13) (by omega)
          go_wp2_with fail
          refine (below_any g 26 _ hD6 (by omega)).mono ?_
          rintro e w7 ⟨y, rfl, hy, hD7, hG7⟩
          have t7 := t6.trans (grown_below hG7 hn6 t6.size)
          have ey := Go.IntWalk.i64_in (y - 13) (by omega)
          have hon : onC (x - 13) (y - 13) = true := by rw [onC_iff]; omega
          have hgl := hD7.lt
          clear hD hb5 hD6 hG6 t5 t6 hG7 A4
          go_upto_region 10 with fail
          go_cut [10] from 14 to 112 (fun sv wx => ∃ m, m = sv ∧ RL wx (g + 1) m (rmV rss ⟨q0, q1, q2, rch, q4⟩) ∧ DiceL wx g ∧ Below w4.heap.size w4 wx)
          case first =>
            have tc := t7.drew
            have hDd := hD7.drew
            have vv := Lib.hid (V4.out.on tc)
            have zz := z4.out.on tc
            have hlo : g + 1 ≤ w7.drew.heap.size := hgl
            clear t7 hD7
            go_region_held3 (fun w' => w'.cell? ⟨w1.heap.size, 0, none⟩ = some (.int .i64 q0) ∧ w'.cell? ⟨w1.heap.size, 1, none⟩ = some (.int .i64 q1) ∧ w'.cell? ⟨w1.heap.size, 2, none⟩ = some (.int .i64 q2) ∧ w'.cell? ⟨w1.heap.size, 3, none⟩ = some (.int .i64 rch) ∧ w'.cell? ⟨w1.heap.size, 4, none⟩ = some (.int .i64 q4)) (exact box5 zz)
              (first | (go_at_call 32; refine (copyLay_any _ rss _ vv.out (by omega) Hsm.out).mono ?_; rintro e wp ⟨up, rfl, qp, bp⟩; have tc := tc.trans (bp.mono tc.size); have zz := zz.on bp; have hDd := hDd.on bp; have hlp := Nat.le_trans hlo bp.size; have pp := Lib.hid (qp.less (Nat.zero_le _)))
                     | (go_at_call 13; refine (rm_impl _ rss ⟨q0, q1, q2, rch, q4⟩ _ pp.out).mono ?_; rintro e ws ⟨us, rfl, qv, bv⟩; have tc := tc.trans (bv.mono tc.size); have zz := zz.on bv; have hDd := hDd.on bv; have qv2 := Lib.hid (qv.less hlp)))
            all_goals
              go_wp2_with fail
              go_meet
              exact ⟨_, rfl, qv2.out, hDd, tc⟩
          obtain ⟨m, rfl, hM, hD8, t8⟩ := hcut
          obtain ⟨w8, rfl⟩ : ∃ W : World, W = wc := ⟨_, rfl⟩
          obtain ⟨Am, cm, rfl, hcm, hmm, -⟩ := hM.form
          clear hD7 t7
          have hMok := okAll_of_reg Hm.out
          have Hcm := Lib.hid (fun (x y : Int) (hc : onC x y = true) => clip_marks (r := ⟨q0, q1, q2, rch, q4⟩) (x := x) (y := y) Hlay.out G1.out g2 ⟨g3, g4⟩ hc)
          have HMok := Lib.hid (show ∀ r ∈ rmV rss ⟨q0, q1, q2, rch, q4⟩, okRc r = true from fun r hr => okAll_in hMok hr)
          have hlen9 : (rmV rss ⟨q0, q1, q2, rch, q4⟩).length ≤ 9223372036854775807 := by unfold maxLen at hmm; omega
          clear hMok
          obtain ⟨ms, HMS⟩ : ∃ ms, Hid (ms = rmV rss ⟨q0, q1, q2, rch, q4⟩) := ⟨_, Lib.hid rfl⟩
          rw [← HMS.out] at hM HMok hlen9 hcm ⊢
          go_upto_region 11 with fail
          go_cut [50] from 14 to 112 (fun sv wx => ∃ bb : Bool, sv = .bool bb ∧ (bb = true → 0 < ms.length) ∧ RL wx 0 (.slice Am ms.length cm) ms ∧ Below w4.heap.size w4 wx)
          case first =>
            by_cases hl0 : ms.length = 0
            · have hlz : ¬ ((ms.length : Int) > 0) := by omega
              clear hl0
              go_wp2_with fail
              go_meet
              exact ⟨false, rfl, fun h => Bool.noConfusion h, hM.less (Nat.zero_le _), t8⟩
            · have hlz : (ms.length : Int) > 0 := by omega
              go_wp2_with fail
              refine (below_any g 2 _ hD8 (by omega)).mono ?_
              rintro e w9 ⟨q, rfl, hq, hD9, hG9⟩
              have hM9 := (hM.keptG hG9 (Nat.lt_succ_self g)).less (Nat.zero_le _)
              have t9 := t8.trans (grown_below hG9 hn6 t8.size)
              by_cases hq0 : q = 0
              · subst hq0
                go_wp2_with fail
                go_meet
                exact ⟨true, rfl, fun _ => by omega, hM9, t9⟩
              · have b0 : (q == 0) = false := by simpa using hq0
                go_wp2_with fail
                go_meet
                exact ⟨false, rfl, fun h => Bool.noConfusion h, hM9, t9⟩
          obtain ⟨bb, rfl, hbb, hM9, t9⟩ := hcut
          obtain ⟨w9, rfl⟩ : ∃ W : World, W = wc := ⟨_, rfl⟩
          clear hM t8 hD8
          go_upto_if 50 with fail
          go_cut [8, 9] from 14 to 112 (fun sv tv wx => ∃ x y : Int, sv = .int .i64 x ∧ tv = .int .i64 y ∧ onC x y = true ∧ w9 = wx)
          case first =>
            cases bb with
            | false =>
              go_wp2_with fail
              go_meet
              exact ⟨_, _, rfl, rfl, hon, rfl⟩
            | true =>
              obtain ⟨gm, x0, y0, x1, y1, rfl, hr, hgm, f0, f1, f2, f3⟩ := hM9.elem (hbb rfl)
              have hok := (okRc_iff _).1 (HMok.out _ (List.mem_of_getElem? hr))
              dsimp only at hok
              have hpos : 0 < ms.length := hbb rfl
              clear hr
              go_wp2_with fail
              go_meet
              exact ⟨_, _, rfl, rfl, by rw [onC_iff]; omega, rfl⟩
          obtain ⟨xx, yy, rfl, rfl, hxy, rfl⟩ := hcut
          clear hbb hon hx hy ex ey
          have hxy' := (onC_iff xx yy).1 hxy
          have e1 := Go.IntWalk.i64_in (xx - rch) (by omega)
          have e2 := Go.IntWalk.i64_in (yy - rch) (by omega)
          have e3 := Go.IntWalk.i64_in (xx + rch) (by omega)
          have e4 := Go.IntWalk.i64_in (xx + rch + 1) (by omega)
          have e5 := Go.IntWalk.i64_in (yy + rch) (by omega)
          have e6 := Go.IntWalk.i64_in (yy + rch + 1) (by omega)
          have V9 := Lib.hid (V4.out.on t9)
          have Z9 := Lib.hid (z4.out.on t9)
          have M9 := Lib.hid hM9
          have b9 := Lib.hid (b4.trans (t9.mono s4))
          have Hcm2 := Lib.hid (Hcm.out xx yy hxy)
          clear hM9 V4 z4 t9 b4 Hcm
          obtain ⟨B0, E0⟩ : ∃ B0, Hid (B0 = max (-40) (xx - rch)) := ⟨_, Lib.hid rfl⟩
          obtain ⟨B1, E1⟩ : ∃ B1, Hid (B1 = max (-40) (yy - rch)) := ⟨_, Lib.hid rfl⟩
          obtain ⟨B2, E2⟩ : ∃ B2, Hid (B2 = min 40 (xx + rch + 1)) := ⟨_, Lib.hid rfl⟩
          obtain ⟨B3, E3⟩ : ∃ B3, Hid (B3 = min 40 (yy + rch + 1)) := ⟨_, Lib.hid rfl⟩
          have HB : Hid (nearB xx yy rch = ⟨B0, B1, B2, B3⟩) := Lib.hid (by rw [E0.out, E1.out, E2.out, E3.out]; rfl)
          rw [HB.out] at Hcm2
          have hsz : (w9.alloc (.cells #[.int .i64 B0, .int .i64 B1, .int .i64 B2, .int .i64 B3] 80)).heap.size = w9.heap.size + 1 := by simp
          have Y := Lib.hid ((Bk.new w9 80 #[.int .i64 B0, .int .i64 B1, .int .i64 B2, .int .i64 B3]).alloc (.cells #[] 26))
          have r0 := RLL.lit0 (w9.alloc (.cells #[.int .i64 B0, .int .i64 B1, .int .i64 B2, .int .i64 B3] 80)) (B := w9.heap.size + 1) (by rw [hsz]; exact Nat.le_refl _)
          rw [hsz] at r0
          have tA := ((Below.refl w9.heap.size w9).alloc (Nat.le_refl _) (.cells #[.int .i64 B0, .int .i64 B1, .int .i64 B2, .int .i64 B3] 80)).alloc (by rw [hsz]; omega) (.cells #[] 26)
          have s9 := b9.out.size
          go_upto_region 17 with fail
          rw [← E0.out, ← E1.out, ← E2.out, ← E3.out]
          clear e1 e2 e3 e4 e5 e6 E0 E1 E2 E3
          go_loopw [12, 13] (fun ov iv wr => ∃ k : Nat, k ≤ 8 ∧ iv = .int .i64 k ∧ RLL wr (w9.heap.size + 1) ov ((rss.take k).map fun rs => clipV rs ⟨B0, B1, B2, B3⟩) ∧ Bk wr w9.heap.size 80 #[.int .i64 B0, .int .i64 B1, .int .i64 B2, .int .i64 B3] ∧ Below w9.heap.size w9 wr) (fun _ iv _ => 8 - (intOf iv).toNat)
          case atStart => exact ⟨0, by omega, rfl, r0, Y.out, tA⟩
          case round =>
            obtain ⟨k, hk, rfl, hO, hY, hb⟩ := hrel
            clear r0 Y tA hsz
            by_cases hlt : k < 8
            · have hz : (k : Int) < 8 := by omega
              have hkr : k < rss.length := by omega
              obtain ⟨gv, uv, rs, hAv, hr, hgv, f0, hR⟩ := (V9.out.on hb).elem hkr
              cases hAv
              have Hrl := Lib.hid (Hsm.out rs (List.mem_of_getElem? hr))
              have Hst : Hid (((rss.take k).map fun rs => clipV rs ⟨B0, B1, B2, B3⟩) ++ [clipV rs ⟨B0, B1, B2, B3⟩] = (rss.take (k + 1)).map fun rs => clipV rs ⟨B0, B1, B2, B3⟩) := Lib.hid (by rw [List.take_add_one, hr, Option.toList, List.map_append, List.map_cons, List.map_nil])
              have Hlen : Hid (((rss.take k).map fun rs => clipV rs ⟨B0, B1, B2, B3⟩).length ≤ 1000000) := Lib.hid (by rw [List.length_map, List.length_take]; omega)
              obtain ⟨Au, cu, rfl, -, -, -⟩ := hR.form
              have hk9 : k < 9223372036854775807 := by omega
              have Q4 : ∀ W : World, Below wr.heap.size wr W → W.cell? ⟨w9.heap.size, 0, none⟩ = some (.int .i64 B0) ∧ W.cell? ⟨w9.heap.size, 1, none⟩ = some (.int .i64 B1) ∧ W.cell? ⟨w9.heap.size, 2, none⟩ = some (.int .i64 B2) ∧ W.cell? ⟨w9.heap.size, 3, none⟩ = some (.int .i64 B3) := fun W h => box4 (hY.on h)
              have tc := (Below.refl wr.heap.size wr).drew
              obtain ⟨p0, p1, p2, p3⟩ := Q4 _ tc
              obtain ⟨r0, r1, r2, r3⟩ := box4 hY
              have HQ := Lib.hid Q4
              have RR := Lib.hid (RL.on hR tc)
              have OO := Lib.hid (hO.on tc)
              have Yd := hY.drew
              have hlo : w9.heap.size + 1 ≤ wr.heap.size := hY.lt
              have hi0 : (0 : Int) ≤ (k : Int) ∧ (k : Int) < 8 := by omega
              clear hr Q4 hR hO
              go_upto_region 19 with fail
              go_region_law (first
                | (go_simp; go_at_call 47; refine (copyR_any _ rs _ RR.out Hrl.out).mono ?_; rintro e wp ⟨up, rfl, qp, bp⟩; have tp := tc.trans (bp.mono tc.size); obtain ⟨d0, d1, d2, d3⟩ := HQ.out _ tp; have PP := Lib.hid (qp.less (Nat.zero_le _)); have OP := Lib.hid (OO.out.on bp); have YP := Yd.on bp)
                | (go_simp; go_at_call 46; refine (clip_impl _ rs ⟨B0, B1, B2, B3⟩ _ PP.out).mono ?_; rintro e ws ⟨us, rfl, qv, bv⟩; have ts := tp.trans (bv.mono tp.size); have SS := qv.less (Nat.le_trans hlo tp.size); obtain ⟨As, cs, rfl, -, -, -⟩ := SS.form; have bA := (Below.refl ws.heap.size ws).alloc (Nat.le_refl _) (.cells #[.slice As (clipV rs ⟨B0, B1, B2, B3⟩).length cs] 26); have OS := Lib.hid ((OP.out.on bv).on bA); have SA := Lib.hid (RL.on SS bA); have YS := (YP.on bv).on bA; have tA := ts.trans (bA.mono ts.size); have hsA := Nat.le_trans hlo tA.size; have ZA := Lib.hid (Bk.new ws 26 #[.slice As (clipV rs ⟨B0, B1, B2, B3⟩).length cs]))
                | (refine step_append_RLL rfl (.tmp 85) (.tmp 93) rfl (w9.heap.size + 1) _ _ rfl OS.out _ _ _ SA.out rfl ZA.out Hlen.out hsA ?_; intro v' w' k1 k2 k3))
              all_goals
                rw [Hst.out] at k1
                go_wp2
                exact ⟨⟨k + 1, by omega, by go_num, k1, YS.below k3 (Nat.lt_succ_self _), (hb.trans (tA.mono hb.size)).trans (k3.mono (Nat.le_succ _))⟩, by simp [intOf]; omega⟩
            · obtain rfl : k = 8 := by omega
              rw [List.take_of_length_le (by omega)] at hO
              obtain ⟨tt, Htt⟩ : ∃ tt, Hid (hasG (cellsG ms) xx yy = tt) := ⟨_, Lib.hid rfl⟩
              have HC1 : Hid ((isReg ms && hasG (cellsG ms) xx yy) = tt) := Lib.hid (by rw [Htt.out, HMS.out, Hm.out, Bool.true_and])
              have HC2 : Hid ((isReg (rmV (rss.map fun rs => clipV rs ⟨B0, B1, B2, B3⟩) ⟨q0, q1, q2, rch, q4⟩) && hasG (cellsG (rmV (rss.map fun rs => clipV rs ⟨B0, B1, B2, B3⟩) ⟨q0, q1, q2, rch, q4⟩)) xx yy) = tt) := Lib.hid (by rw [rmV_isReg, Bool.true_and, ← Htt.out, HMS.out]; exact Hcm2.out.symm)
              clear Htt
              have OO := Lib.hid (hO.less (Nat.zero_le _))
              have ZZ := Z9.out.on hb
              have VV := Lib.hid (V9.out.on hb)
              have MM := Lib.hid (M9.out.on hb)
              have bb := b9.out.trans (hb.mono s9)
              clear hO hY Z9 V9 M9 b9 hlt hk
              go_upto_region 20 with fail
              go_cut [2] from 14 to 112 (fun sv wx => sv = .bool true ∧ Below wr.heap.size wr wx)
              case first =>
                have tc := (Below.refl wr.heap.size wr).drew
                have OO := Lib.hid (OO.out.on tc)
                have ZZ := ZZ.on tc
                have VV := Lib.hid (VV.out.on tc)
                have MM := Lib.hid (MM.out.on tc)
                clear bb
                cases tt
                all_goals
                  go_region_held3 (fun w' => w'.cell? ⟨w1.heap.size, 0, none⟩ = some (.int .i64 q0) ∧ w'.cell? ⟨w1.heap.size, 1, none⟩ = some (.int .i64 q1) ∧ w'.cell? ⟨w1.heap.size, 2, none⟩ = some (.int .i64 q2) ∧ w'.cell? ⟨w1.heap.size, 3, none⟩ = some (.int .i64 rch) ∧ w'.cell? ⟨w1.heap.size, 4, none⟩ = some (.int .i64 q4)) (exact box5 ZZ)
                    (first | (go_at_call 48; have hC := regionContains_any ua _ xx yy _ UA.out; (with_reducible refine hC.mono ?_); rintro e wb ⟨rfl, b2⟩; rw [HC2.out]; have tc := tc.trans (b2.mono tc.size); have ZZ := ZZ.on b2; have VV := Lib.hid (VV.out.on b2); have MM := Lib.hid (MM.out.on b2))
                           | (go_at_call 48; have hC := regionContains_any _ ms xx yy _ MM.out; (with_reducible refine hC.mono ?_); rintro e wa ⟨rfl, b1⟩; rw [HC1.out]; have tc := tc.trans (b1.mono tc.size); have ZZ := ZZ.on b1; have OO := Lib.hid (OO.out.on b1); have VV := Lib.hid (VV.out.on b1); have MM := Lib.hid (MM.out.on b1))
                           | (go_at_call 13; refine (rm_impl _ _ ⟨q0, q1, q2, rch, q4⟩ _ OO.out).mono ?_; rintro e wp ⟨ua, rfl, qp, bp⟩; have tc := tc.trans (bp.mono tc.size); have ZZ := ZZ.on bp; have VV := Lib.hid (VV.out.on bp); have MM := Lib.hid (MM.out.on bp); have UA := Lib.hid (qp.less (Nat.zero_le _)))
                           | (go_at_call 10; refine (rm_spec _ rss ⟨q0, q1, q2, rch, q4⟩ _ VV.out).mono ?_; rintro e ws ⟨us2, rfl, qv, bv⟩; have tc := tc.trans (bv.mono tc.size); have ZZ := ZZ.on bv; have MM := Lib.hid (MM.out.on bv); have SS := Lib.hid (qv.less (Nat.zero_le _)))
                           | (go_at_call 34; refine (sameRects_any _ _ ms _ _ MM.out SS.out).mono ?_; rintro e wt ⟨rfl, bt⟩; have tc := tc.trans (bt.mono tc.size); have ZZ := ZZ.on bt; rw [(eqL_iff _ _).2 HMS.out]))
                all_goals
                  go_wp2_with fail
                  go_meet
                  exact ⟨rfl, tc⟩
              obtain ⟨rfl, b10⟩ := hcut
              go_wp2
              go_ret
              exact ⟨rfl, bb.trans (b10.mono bb.size)⟩
    · go_wp2_with fail
      refine (isLay7b_spec A7 c7 _).mono ?_
      rintro e w3 ⟨rfl, hb3⟩
      go_wp2
      go_ret
      exact ⟨rfl, hb2.trans (hb3.mono hb2.size)⟩

end Go.Proofs.YtbljapihmkmolaaGreat
