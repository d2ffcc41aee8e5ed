/- The walk of the law FnMarkersTurned, over drawn inputs: it answers true. No conditions. Contracts: w9Inner, w9Moved. -/
import Derived.Test.YtbljapihmkmolaaGreatDrawY
import Derived.Test.YtbljapihmkmolaaGreatTurn3
import Derived.Test.YtbljapihmkmolaaGreatFnTurned
import Derived.Deep.RegionHeld3
import Derived.Deep.CutRange
namespace Go.Proofs.YtbljapihmkmolaaGreat
open Go.RowKit

def innerQ (r : Rc) : Bool := decide (-30 ≤ r.x0 ∧ -30 ≤ r.y0 ∧ r.x1 ≤ 30 ∧ r.y1 ≤ 30)
def innerB (rs : List Rc) : Bool := rs.all innerQ
theorem innerB_iff (rs : List Rc) : innerB rs = true ↔ innerL rs := by simp [innerB, innerQ, innerL]
theorem innerB_no {rs : List Rc} {k : Nat} {r : Rc} (h : rs[k]? = some r) (hr : ¬ (-30 ≤ r.x0 ∧ -30 ≤ r.y0 ∧ r.x1 ≤ 30 ∧ r.y1 ≤ 30)) : innerB rs = false := by
  unfold innerB
  rw [List.all_eq_false]
  exact ⟨r, List.mem_of_getElem? h, by unfold innerQ; simpa using hr⟩

set_option maxHeartbeats 800000 in
set_option maxRecDepth 100000 in
/-- w9Inner. -/
theorem inner9_any (v : Value) (rs : List Rc) (w : World) (hv : RL w 0 v rs) : Calls Tryz.prog 40 #[v] w fun e w' => e = .returned (.bool (innerB rs)) ∧ w = w' := by
  obtain ⟨A, c, rfl, hc, hm, -⟩ := hv.form
  unfold maxLen at hm
  go_enter Tryz.func40, Tryz.ntmps40
  go_wp2
  go_loop [3] (fun iv => ∃ k : Nat, k ≤ rs.length ∧ iv = .int .i64 k ∧ Hid (∀ (j : Nat) (r : Rc), j < k → rs[j]? = some r → innerQ r = true)) (fun iv => rs.length - (intOf iv).toNat)
  case atStart => exact ⟨0, Nat.zero_le _, rfl, Lib.hid (fun j r h => absurd h (by omega))⟩
  case round =>
    obtain ⟨k, hk, rfl, Hin⟩ := hrel
    by_cases hlt : k < rs.length
    · obtain ⟨gr, x0, y0, x1, y1, rfl, hr, hgr, f0, f1, f2, f3⟩ := hv.elem hlt
      have Hno := Lib.hid (innerB_no hr)
      dsimp only at Hno
      have Hyes : Hid ((-30 ≤ x0 ∧ -30 ≤ y0 ∧ x1 ≤ 30 ∧ y1 ≤ 30) → ∀ (j : Nat) (r : Rc), j < k + 1 → rs[j]? = some r → innerQ r = true) := Lib.hid (fun h j r hj hjr => by
        by_cases e : j = k
        · subst e
          rw [hr] at hjr
          cases hjr
          exact decide_eq_true h
        · exact Hin.out j r (by omega) hjr)
      have hk9 : k < 9223372036854775807 := by omega
      clear hr hv
      by_cases h0 : x0 < -30
      · have E := Lib.hid (Hno.out (by omega))
        clear Hyes Hno
        go_wp2
        go_ret
        exact ⟨ret_bool E.out.symm, rfl⟩
      · by_cases h1 : y0 < -30
        · have E := Lib.hid (Hno.out (by omega))
          clear Hyes Hno
          go_wp2
          go_ret
          exact ⟨ret_bool E.out.symm, rfl⟩
        · by_cases h2 : x1 > 30
          · have E := Lib.hid (Hno.out (by omega))
            clear Hyes Hno
            go_wp2
            go_ret
            exact ⟨ret_bool E.out.symm, rfl⟩
          · by_cases h3 : y1 > 30
            · have E := Lib.hid (Hno.out (by omega))
              clear Hyes Hno
              go_wp2
              go_ret
              exact ⟨ret_bool E.out.symm, rfl⟩
            · have Hy := Lib.hid (Hyes.out (by omega))
              clear Hno Hyes
              go_wp2
              exact ⟨⟨k + 1, by omega, by go_num, Hy⟩, by simp [intOf]; omega⟩
    · have hke : k = rs.length := by omega
      subst hke
      have hall : innerB rs = true := by
        unfold innerB
        rw [List.all_eq_true]
        intro r hr
        obtain ⟨j, hj, e⟩ := List.mem_iff_getElem.1 hr
        exact Hin.out j r hj (by rw [List.getElem?_eq_getElem hj, e])
      have E := Lib.hid hall
      clear hall
      go_wp2
      go_ret
      exact ⟨ret_bool E.out.symm, rfl⟩

/-- Each of the first lists has been moved. -/
def MovedTo (t : Tf) (rss qss : List (List Rc)) : Prop := ∀ (j : Nat) (rs qs : List Rc), rss[j]? = some rs → qss[j]? = some qs → moveV t rs = some qs
theorem movedTo_snoc {t : Tf} {rss qss : List (List Rc)} {rs qs : List Rc} (h : MovedTo t rss qss) (hr : rss[qss.length]? = some rs) (hm : moveV t rs = some qs) : MovedTo t rss (qss ++ [qs]) := fun j a b ha hb => by
  by_cases hj : j < qss.length
  · rw [List.getElem?_append_left hj] at hb
    exact h j a b ha hb
  · have e : j = qss.length := by have := (List.getElem?_eq_some_iff.1 hb).1; simp at this; omega
    subst e
    rw [hr] at ha
    rw [List.getElem?_append_right (Nat.le_refl _), Nat.sub_self] at hb
    simp at hb
    cases ha
    rw [hm, hb]

set_option maxHeartbeats 1600000 in
set_option maxRecDepth 100000 in
/-- w9Moved. -/
theorem moved9_any (t : Tf) (v : Value) (rss : List (List Rc)) (w : World) (hv : RLL w 0 v rss) (hn : rss.length ≤ 1000000) : Calls Tryz.prog 39 #[t.val, v] w fun e w' => ∃ (u : Value) (b : Bool) (qss : List (List Rc)), e = .returned (.tuple #[u, .bool b]) ∧ RLL w' 0 u qss ∧ (b = true → rss.length = 8 ∧ qss.length = 8 ∧ MovedTo t rss qss) ∧ Below w.heap.size w w' := by
  obtain ⟨A, c, rfl, hc, hm⟩ := hv.form
  obtain ⟨o, x, y⟩ := t
  have zt := Bk.new w 67 #[.int .i64 o, .int .i64 x, .int .i64 y]
  have hb0 := (Below.refl w.heap.size w).alloc (Nat.le_refl _) (.cells #[.int .i64 o, .int .i64 x, .int .i64 y] 67)
  have hs0 : (w.alloc (.cells #[.int .i64 o, .int .i64 x, .int .i64 y] 67)).heap.size = w.heap.size + 1 := by simp
  have r0 := RLL.lit0 (w.alloc (.cells #[.int .i64 o, .int .i64 x, .int .i64 y] 67)) (B := w.heap.size + 1) (by rw [hs0]; exact Nat.le_refl _)
  rw [hs0] at r0
  have z0 := zt.alloc (.cells #[] 26)
  have b0 := hb0.alloc hb0.size (.cells #[] 26)
  have Hv := Lib.hid hv
  clear hv zt hb0 hs0
  unfold Tf.val
  go_enter Tryz.func39, Tryz.ntmps39
  go_wp2
  go_loopw [6, 7] (fun ov iv wr => ∃ (k : Nat) (qss : List (List Rc)), k ≤ rss.length ∧ qss.length = k ∧ iv = .int .i64 k ∧ RLL wr (w.heap.size + 1) ov qss ∧ Hid (MovedTo ⟨o, x, y⟩ rss qss) ∧ Bk wr w.heap.size 67 #[.int .i64 o, .int .i64 x, .int .i64 y] ∧ Below w.heap.size w wr) (fun _ iv _ => rss.length - (intOf iv).toNat)
  case atStart => exact ⟨0, [], Nat.zero_le _, rfl, rfl, r0, Lib.hid (fun j rs qs _ h => by simp at h), z0, b0⟩
  case round =>
    obtain ⟨k, qss, hk, hlk, rfl, hO, Hmv, hZ, hb⟩ := hrel
    have hV := Hv.out.on hb
    have HLK := Lib.hid hlk
    clear r0 z0 b0
    by_cases hlt : k < rss.length
    · obtain ⟨g, u, rs, rfl, hr, hg, f0, hR⟩ := hV.elem hlt
      have Hr := Lib.hid hr
      have Q : ∀ W : World, Below wr.heap.size wr W → W.cell? ⟨w.heap.size, 0, none⟩ = some (.int .i64 o) ∧ W.cell? ⟨w.heap.size, 1, none⟩ = some (.int .i64 x) ∧ W.cell? ⟨w.heap.size, 2, none⟩ = some (.int .i64 y) ∧ W.cell? ⟨g, k, none⟩ = some u := fun W h => ⟨(box3 (hZ.on h)).1, (box3 (hZ.on h)).2.1, (box3 (hZ.on h)).2.2, (h.cell (p := ⟨g, k, none⟩) hg).trans f0⟩
      have HQ := Lib.hid Q
      have hk9 : k < 9223372036854775807 := by omega
      have hi0 : (0 : Int) ≤ (k : Int) ∧ (k : Int) < rss.length := by omega
      obtain ⟨Au, cu, rfl, -, -, -⟩ := hR.form
      clear hr f0 Q hV
      go_upto_region 5 with fail
      go_cut [8, 9] from 11 to 32 (fun sv tv wx => ∃ z qs, z = sv ∧ tv = .bool (moveV ⟨o, x, y⟩ rs).isSome ∧ qs = (moveV ⟨o, x, y⟩ rs).getD [] ∧ RL wx (w.heap.size + 1) z qs ∧ Below wr.heap.size wr wx)
      case first =>
        have tc := (Below.refl wr.heap.size wr).drew
        have rr := RL.on hR tc
        have hlo : w.heap.size + 1 ≤ wr.heap.size := hZ.lt
        clear hO hZ hb
        go_region_held3 (fun w' => w'.cell? ⟨w.heap.size, 0, none⟩ = some (.int .i64 o) ∧ w'.cell? ⟨w.heap.size, 1, none⟩ = some (.int .i64 x) ∧ w'.cell? ⟨w.heap.size, 2, none⟩ = some (.int .i64 y) ∧ w'.cell? ⟨g, k, none⟩ = some (.slice Au rs.length cu)) (exact HQ.out _ tc)
          (first | (go_at_call 41; refine (moveReg_spec ⟨o, x, y⟩ _ rs _ rr).mono ?_; rintro e wp ⟨up, rfl, qp, bp⟩; have tc := tc.trans (bp.mono tc.size); have pp := qp.less (show w.heap.size + 1 ≤ _ from hlo)))
        all_goals
          go_wp2_with fail
          go_meet
          exact ⟨_, _, rfl, rfl, rfl, pp, tc⟩
      obtain ⟨z, qs, rfl, rfl, eq, hZR, b5⟩ := hcut
      obtain ⟨w5, rfl⟩ : ∃ W : World, W = wc := ⟨_, rfl⟩
      replace hO := hO.on b5
      replace hZ := hZ.on b5
      replace hb := hb.trans (b5.mono hb.size)
      have hsz := hZ.lt
      clear b5 HQ hR
      cases hmv : moveV ⟨o, x, y⟩ rs with
      | none =>
        rw [Option.isSome_none]
        go_wp2
        refine bodyPost_ret (results_tmp2 rfl _ _ _) rfl ?_
        exact ⟨_, _, _, rfl, hO.less (Nat.zero_le _), fun h => Bool.noConfusion h, hb⟩
      | some q =>
        rw [Option.isSome_some]
        rw [hmv, Option.getD_some] at eq
        subst eq
        have Hmv2 := Lib.hid (movedTo_snoc Hmv.out (by rw [HLK.out]; exact Hr.out) hmv)
        obtain ⟨Az, cz, rfl, -, -, -⟩ := hZR.form
        have hlen : qss.length ≤ 1000000 := by omega
        have LEN := Lib.hid hlen
        clear hmv hlen
        go_wp2_with (at_builtin; refine wpList_append_RLL rfl (.tmp 29) (.tmp 31) rfl (w.heap.size + 1) _ qss rfl hO _ qs hZR rfl LEN.out hsz ?_; intro v' w' k1 k2 k3)
        exact ⟨⟨k + 1, _, by omega, by rw [List.length_append, HLK.out]; rfl, by go_num, k1, Hmv2, hZ.below k3 (Nat.lt_succ_self _), hb.trans (k3.mono (Nat.le_succ _))⟩, by simp [intOf]; omega⟩
    · have hke : k = rss.length := by omega
      obtain ⟨Ao, co, hov, -, -⟩ := hO.form
      rw [hlk, hke] at hov
      subst hov
      have hmx : rss.length ≤ 9223372036854775807 := by omega
      by_cases h8 : rss.length = 8
      · have hb8 : ((rss.length : Int) == 8) = true := by rw [h8]; rfl
        go_wp2
        refine bodyPost_ret (results_tmp2 rfl _ _ _) rfl ?_
        exact ⟨_, _, qss, rfl, hO.less (Nat.zero_le _), fun _ => ⟨h8, by omega, Hmv.out⟩, hb⟩
      · have hb8 : ((rss.length : Int) == 8) = false := by simp; omega
        go_wp2
        refine bodyPost_ret (results_tmp2 rfl _ _ _) rfl ?_
        exact ⟨_, _, qss, rfl, hO.less (Nat.zero_le _), fun h => Bool.noConfusion h, hb⟩


set_option maxHeartbeats 6400000 in
set_option maxRecDepth 100000 in
/-- FnMarkersTurned answers true. -/
theorem lawFnMTurned (A : Option Addr) (n c : Nat) (w : World) (hA : ArgB w A n) (hm : n ≤ maxLen) : Calls Tryz.prog 7 #[.slice A n c] w fun e w' => e = .returned (.bool true) ∧ Below w.heap.size w w' := by
  go_enter Tryz.func7, Tryz.ntmps7
  go_wp2_with fail
  refine (big_any A n c w hm).mono ?_
  rintro e w0 ⟨rfl, rfl⟩
  by_cases h4 : 4096 < n
  · rw [decide_eq_true h4]
    go_wp2
    go_ret
    exact ⟨rfl, Below.refl _ _⟩
  · rw [decide_eq_false h4]
    go_wp2_with fail
    refine (roll_any A n c 1901 _ hA (by omega) (by omega)).mono ?_
    rintro e w1 ⟨g, rfl, hg, hD, hb1⟩
    have hA1 := hA.on hb1
    go_wp2_with fail
    refine (drawRm_any A n c _ hA1 (by omega)).mono ?_
    rintro e w2 ⟨v, ⟨q0, q1, q2, q3, q4⟩, rss, rfl, hV, h8, hl, hb2⟩
    unfold Ru.val
    have hgl := hD.lt
    replace hV := hV.less (show g + 1 ≤ w1.heap.size by omega)
    replace hD := hD.on hb2
    replace hb2 := hb1.trans (hb2.mono hb1.size)
    clear hA h4 hA1 hb1
    have zr := Bk.new w2 30 #[.int .i64 q0, .int .i64 q1, .int .i64 q2, .int .i64 q3, .int .i64 q4]
    have hV2 := hV.on ((Below.refl w2.heap.size w2).alloc (Nat.le_refl _) (.cells #[.int .i64 q0, .int .i64 q1, .int .i64 q2, .int .i64 q3, .int .i64 q4] 30))
    have hD2 := hD.alloc (.cells #[.int .i64 q0, .int .i64 q1, .int .i64 q2, .int .i64 q3, .int .i64 q4] 30)
    have hb3 := hb2.alloc hb2.size (.cells #[.int .i64 q0, .int .i64 q1, .int .i64 q2, .int .i64 q3, .int .i64 q4] 30)
    have hgl2 := hD.lt
    clear hV hD hb2
    go_wp2_with fail
    refine (place_any g _ hD2).mono ?_
    rintro e w3 ⟨o, x, y, rfl, hvt, hD3, hG3⟩
    have hV3 := (hV2.keptG hG3 (Nat.lt_succ_self g)).less (Nat.zero_le _)
    have hb4 := hb3.trans (grown_below hG3 (fun q hq => by simp at hq; omega) hb3.size)
    have zr3 := zr.grown hG3 (show some w2.heap.size ≠ some g by simp; omega)
    have zt := Bk.new w3 67 #[.int .i64 o, .int .i64 x, .int .i64 y]
    have hV4 := hV3.on ((Below.refl w3.heap.size w3).alloc (Nat.le_refl _) (.cells #[.int .i64 o, .int .i64 x, .int .i64 y] 67))
    have zr4 := zr3.alloc (.cells #[.int .i64 o, .int .i64 x, .int .i64 y] 67)
    have hb5 := hb4.alloc hb4.size (.cells #[.int .i64 o, .int .i64 x, .int .i64 y] 67)
    obtain ⟨Av, cv, rfl, hcv, hmv⟩ := hV4.form
    have hmx : rss.length ≤ 9223372036854775807 := by omega
    clear zr hV2 hD2 hb3 hgl2 hD3 hG3 hV3 hb4 zr3
    obtain ⟨c0, c1, c2⟩ := box3 zt
    go_wp2_with fail
    refine (moved9_any ⟨o, x, y⟩ _ rss _ hV4 (by omega)).mono ?_
    rintro e w5 ⟨u, ok, qss, rfl, hU, hok, hb6⟩
    replace zr4 := Lib.hid (zr4.on hb6)
    replace zt := Lib.hid (zt.on hb6)
    replace hV4 := Lib.hid (hV4.on hb6)
    replace hb6 := hb5.trans (hb6.mono hb5.size)
    clear c0 c1 c2 hb5
    cases ok with
    | false =>
      go_wp2
      go_ret
      exact ⟨rfl, hb6⟩
    | true =>
      obtain ⟨l1, l2, HM⟩ := hok rfl
      have HM := Lib.hid HM
      have c0 := (box5 zr4.out).1
      by_cases h5 : q0 = 5
      · subst h5
        go_wp2
        go_ret
        exact ⟨rfl, hb6⟩
      · have b5 : (q0 == 5) = false := by simpa using h5
        obtain ⟨Au, cu, rfl, hcu, hmu⟩ := hU.form
        rw [l1] at hV4
        rw [l2] at hU
        have s6 := hb6.size
        have b9 := Lib.hid hb6
        have U9 := Lib.hid hU
        clear hok hU hb6
        go_wp2
        go_loopw [9] (fun iv wr => ∃ k : Nat, k ≤ rss.length ∧ iv = .int .i64 k ∧ w5 = wr ∧ Hid (∀ (j : Nat) (rs qs : List Rc), j < k → rss[j]? = some rs → qss[j]? = some qs → innerL rs ∧ innerL qs)) (fun iv _ => rss.length - (intOf iv).toNat)
        case atStart => exact ⟨0, Nat.zero_le _, rfl, rfl, Lib.hid (fun j _ _ h => absurd h (by omega))⟩
        case round =>
          obtain ⟨k, hk, rfl, rfl, Hin⟩ := hrel
          by_cases hlt : k < rss.length
          · have hlt2 : k < qss.length := by omega
            obtain ⟨ga, ua, rs, rfl, hr, hga, f0, hR⟩ := hV4.out.elem hlt
            obtain ⟨gb, ub, qs, rfl, hq, hgb, e0, hQ⟩ := U9.out.elem hlt2
            obtain ⟨Aa, ca, rfl, -, -, -⟩ := hR.form
            obtain ⟨Ab, cb, rfl, -, -, -⟩ := hQ.form
            have hk9 : k < 9223372036854775807 := by omega
            have Hin2 : Hid (innerB rs = true → innerB qs = true → ∀ (j : Nat) (a b : List Rc), j < k + 1 → rss[j]? = some a → qss[j]? = some b → innerL a ∧ innerL b) := Lib.hid (fun h1 h2 j a b hj ha hb => by
              by_cases e : j = k
              · subst e
                rw [hr] at ha
                rw [hq] at hb
                cases ha
                cases hb
                exact ⟨(innerB_iff _).1 h1, (innerB_iff _).1 h2⟩
              · exact Hin.out j a b (by omega) ha hb)
            clear hr hq
            go_wp2_with fail
            refine (inner9_any _ rs _ hR).mono ?_
            rintro e w6 ⟨rfl, rfl⟩
            cases h1 : innerB rs with
            | false =>
              go_wp2
              go_ret
              exact ⟨rfl, b9.out⟩
            | true =>
              have H1 := Lib.hid h1
              clear h1
              go_wp2_with fail
              refine (inner9_any _ qs _ hQ).mono ?_
              rintro e w6 ⟨rfl, rfl⟩
              cases h2 : innerB qs with
              | false =>
                go_wp2
                go_ret
                exact ⟨rfl, b9.out⟩
              | true =>
                have Hin3 := Lib.hid (Hin2.out H1.out h2)
                clear h2
                go_wp2
                exact ⟨⟨k + 1, by omega, by go_num, by first | rfl | trivial, Hin3⟩, by simp [intOf]; omega⟩
          · have hke : k = rss.length := by omega
            have hmoved : Moved ⟨o, x, y⟩ rss qss := ⟨l1, l2, fun j a b ha hb => ⟨HM.out j a b ha hb, Hin.out j a b (by have := (List.getElem?_eq_some_iff.1 ha).1; omega) ha hb⟩⟩
            have HR := Lib.hid (moved_rule hmoved hvt ⟨q0, q1, q2, q3, q4⟩ h5)
            obtain rfl : k = 8 := by omega
            clear hmoved HM Hin l1 l2 hke hk hlt hmx hcu hmu hcv hmv h8 hl
            go_upto_region 14 with fail
            go_cut [10, 11] from 36 to 78 (fun s10 s11 wx => ∃ z, z = s10 ∧ s11 = .bool true ∧ RL wx 0 z (rmV qss ⟨q0, q1, q2, q3, q4⟩) ∧ Below w5.heap.size w5 wx)
            case first =>
              have tc := (Below.refl w5.heap.size w5).drew
              have vv := Lib.hid (hV4.out.on tc)
              have tt := zt.out.drew
              have rr := zr4.out.drew
              clear zt zr4 hV4 U9 b9
              go_region_held3 (fun w' => w'.cell? ⟨w3.heap.size, 0, none⟩ = some (.int .i64 o) ∧ w'.cell? ⟨w3.heap.size, 1, none⟩ = some (.int .i64 x) ∧ w'.cell? ⟨w3.heap.size, 2, none⟩ = some (.int .i64 y) ∧ w'.cell? ⟨w2.heap.size, 0, none⟩ = some (.int .i64 q0) ∧ w'.cell? ⟨w2.heap.size, 1, none⟩ = some (.int .i64 q1) ∧ w'.cell? ⟨w2.heap.size, 2, none⟩ = some (.int .i64 q2) ∧ w'.cell? ⟨w2.heap.size, 3, none⟩ = some (.int .i64 q3) ∧ w'.cell? ⟨w2.heap.size, 4, none⟩ = some (.int .i64 q4)) (exact ⟨(box3 tt).1, (box3 tt).2.1, (box3 tt).2.2, box5 rr⟩)
                (first | (go_at_call 13; refine (rm_impl _ rss ⟨q0, q1, q2, q3, q4⟩ _ vv.out).mono ?_; rintro e wp ⟨up, rfl, qp, bp⟩; have tc := tc.trans (bp.mono tc.size); have tt := tt.on bp; have rr := rr.on bp; have pp := Lib.hid (qp.less (Nat.zero_le _)))
                       | (go_at_call 41; refine (moveReg_spec ⟨o, x, y⟩ _ _ _ pp.out).mono ?_; rintro e ws ⟨us, rfl, qv, bv⟩; rw [HR.out, Option.getD_some] at qv; rw [HR.out, Option.isSome_some]; have tc := tc.trans (bv.mono tc.size); have tt := tt.on bv; have rr := rr.on bv; have ss := Lib.hid (qv.less (Nat.zero_le _))))
              all_goals
                go_wp2_with fail
                go_meet
                exact ⟨_, rfl, rfl, ss.out, tc⟩
            obtain ⟨z, rfl, rfl, hZ, b7⟩ := hcut
            obtain ⟨w7, rfl⟩ : ∃ W : World, W = wc := ⟨_, rfl⟩
            have zr7 := zr4.out.on b7
            have U7 := Lib.hid (U9.out.on b7)
            have b8 := b9.out.trans (b7.mono s6)
            clear zr4 U9 b9 b7 hV4 zt HR
            obtain ⟨c0, c1, c2, c3, c4⟩ := box5 zr7
            go_wp2_with fail
            refine (rm_spec _ qss ⟨q0, q1, q2, q3, q4⟩ _ U7.out).mono ?_
            rintro e w8 ⟨u8, rfl, hU8, hb8⟩
            replace zr7 := zr7.on hb8
            replace U7 := Lib.hid (U7.out.on hb8)
            have hZ8 := hZ.on hb8
            replace b8 := b8.trans (hb8.mono b8.size)
            have hU8' := hU8.less (Nat.zero_le _)
            clear c0 c1 c2 c3 c4 hb8 hZ hU8
            go_wp2_with fail
            refine (sameRects_any _ _ _ _ _ hZ8 hU8').mono ?_
            rintro e w9 ⟨rfl, hb9⟩
            rw [(eqL_iff _ _).2 rfl]
            replace zr7 := zr7.on hb9
            replace U7 := Lib.hid (U7.out.on hb9)
            have hZ9 := hZ8.on hb9
            replace b8 := b8.trans (hb9.mono b8.size)
            clear hb9 hZ8 hU8'
            obtain ⟨c0, c1, c2, c3, c4⟩ := box5 zr7
            go_wp2_with fail
            refine (rm_impl _ qss ⟨q0, q1, q2, q3, q4⟩ _ U7.out).mono ?_
            rintro e wa ⟨ua, rfl, hUa, hba⟩
            have hZa := hZ9.on hba
            replace b8 := b8.trans (hba.mono b8.size)
            have hUa' := hUa.less (Nat.zero_le _)
            clear c0 c1 c2 c3 c4 hba hZ9 hUa zr7 U7
            go_wp2_with fail
            refine (sameRects_any _ _ _ _ _ hZa hUa').mono ?_
            rintro e wb ⟨rfl, hbb⟩
            rw [(eqL_iff _ _).2 rfl]
            replace b8 := b8.trans (hbb.mono b8.size)
            go_wp2
            go_ret
            exact ⟨rfl, b8⟩

end Go.Proofs.YtbljapihmkmolaaGreat
