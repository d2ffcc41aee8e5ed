/- The walk of the law FnMarkersMove, over drawn inputs: it answers true. No conditions. Contract: copyRects. -/
import Derived.Test.YtooglkdloaaomaaFnTurned
import Derived.Test.YtooglkdloaaomaaMoveN
import Derived.Test.YtooglkdloaaomaaDrawZ
namespace Go.Proofs.Ytooglkdloaaomaa
open Go.RowKit

set_option maxHeartbeats 400000 in
/-- copyRects. -/
theorem copy_any (v : Value) (rs : List Rc) (w : World) (hv : RL w 0 v rs) (hl : rs.length ≤ 1000000) : Calls Try.prog 60 #[v] w fun e w' => ∃ u, e = .returned u ∧ RL w' w.heap.size u rs ∧ Below w.heap.size w w' := by
  have r1 : RL (w.alloc (.cells #[] 32)) w.heap.size (.slice (some ⟨w.heap.size, 0, none⟩) 0 0) [] := row_empty w w.heap.size _ rfl (Nat.le_refl _)
  have hv2 := RL.alloc hv (.cells #[] 32)
  have hb1 := (Below.refl w.heap.size w).alloc (Nat.le_refl _) (.cells #[] 32)
  have hs1 := hb1.size
  have hlen : ([] : List Rc).length + rs.length ≤ 1000000 := by rw [List.length_nil]; omega
  obtain ⟨A, c, rfl, hc, hm, -⟩ := hv.form
  clear hv
  go_enter Try.func60, Try.ntmps60
  go_wp2_with (at_builtin; refine wpList_append_RR rfl (.tmp 3) (.tmp 4) rfl w.heap.size 0 _ _ _ _ rfl r1 rfl hv2 hlen hs1 ?_; intro v' w3 hR3 hb3)
  go_ret
  exact ⟨_, rfl, by rw [List.nil_append] at hR3; exact hR3, hb1.trans hb3⟩

theorem moved_few {t : Tf} {rs qs : List Rc} (h : moveV t rs = some qs) : qs.length ≤ 1000000 := by
  obtain ⟨h1, h2, e, hI⟩ := moveV_is h
  rw [e]
  exact Nat.le_trans (canon_few _) (by omega)

set_option maxHeartbeats 6400000 in
set_option maxRecDepth 100000 in
/-- FnMarkersMove answers true. -/
theorem lawFnMove (A : Option Addr) (n c : Nat) (w : World) (hA : ArgB w A n) (hm : n ≤ maxLen) : Calls Try.prog 12 #[.slice A n c] w fun e w' => e = .returned (.bool true) ∧ Below w.heap.size w w' := by
  go_enter Try.func12, Try.ntmps12
  go_wp2_with fail
  refine (big_any A n c w hm).mono ?_
  rintro e w0 ⟨rfl, rfl⟩
  by_cases h4 : 4096 < n
  · rw [decide_eq_true h4]
    go_wp2
    go_ret
    exact ⟨rfl, Below.refl _ _⟩
  · rw [decide_eq_false h4]
    go_wp2_with fail
    refine (drawMove_any A n c _ hA (by omega)).mono ?_
    rintro e w1 ⟨o, x, y, v, rs, rfl, hR, hl, hb1⟩
    have hA1 := hA.on hb1
    have hl1 : rs.length ≤ 1000000 := by omega
    replace hR := hR.less (Nat.zero_le _)
    have hzt := Bk.new w1 61 #[.int .i64 o, .int .i64 x, .int .i64 y]
    have hR4 := RL.alloc hR (.cells #[.int .i64 o, .int .i64 x, .int .i64 y] 61)
    have hA4 := hA1.on ((Below.refl w1.heap.size w1).alloc (Nat.le_refl _) (.cells #[.int .i64 o, .int .i64 x, .int .i64 y] 61))
    have hb4 := hb1.alloc hb1.size (.cells #[.int .i64 o, .int .i64 x, .int .i64 y] 61)
    have hms := fun (v' : Value) (L : List Rc) (w' : World) (h : RL w' 0 v' L) => moveReg_spec ⟨o, x, y⟩ v' L w' h
    have hmv := fun (v' : Value) (L : List Rc) (w' : World) (h : RL w' 0 v' L) => moveReg_impl ⟨o, x, y⟩ v' L w' h
    unfold Tf.val at hmv hms
    dsimp only at hmv hms
    obtain ⟨c0, c1, c2⟩ := box3 hzt
    have hfacts := fun (d : Int) (qs : List Rc) (h : moveV ⟨o, x, y⟩ rs = some qs) => turned_facts d h
    clear hR hb1 hA1 hA
    go_wp2_with fail
    refine (hms _ rs _ hR4).mono ?_
    clear c0 c1 c2
    revert hzt hR4 hA4 hb4
    generalize w1.alloc (.cells #[.int .i64 o, .int .i64 x, .int .i64 y] 61) = w4
    generalize w1.heap.size = bt
    intro hzt hR4 hA4 hb4
    rintro e w5 ⟨u, rfl, hQ, hb5⟩
    replace hzt := hzt.on hb5
    have hR5 := hR4.on hb5
    have hA5 := hA4.on hb5
    replace hQ := hQ.less (Nat.zero_le _)
    replace hb5 := hb4.trans (hb5.mono hb4.size)
    clear hR4 hb4 hA4 hms
    cases hmq : moveV ⟨o, x, y⟩ rs with
    | none =>
      rw [hmq] at hQ
      dsimp only [Option.isSome_none, Option.getD_none] at hQ ⊢
      go_wp2
      go_ret
      exact ⟨rfl, hb5⟩
    | some qs =>
      rw [hmq] at hQ
      dsimp only [Option.isSome_some, Option.getD_some] at hQ ⊢
      have hlq := moved_few hmq
      go_wp2_with fail
      refine (roll_any A n c 53 _ hA5 (by omega) (by omega)).mono ?_
      rintro e w6 ⟨g, rfl, hg, hD, hb6⟩
      clear hA5
      go_wp2_with fail
      refine (below_any g 8 _ hD (by omega)).mono ?_
      rintro e w7 ⟨k, rfl, hk, hD7, hG7⟩
      have hb57 := hb6.trans (grown_below hG7 (fun q hq => by simp at hq; omega) hb6.size)
      clear hb6 hD hD7 hG7 hg
      replace hzt := hzt.on hb57
      have hR7 := hR5.on hb57
      have hQ7 := hQ.on hb57
      have hb7 := hb5.trans (hb57.mono hb5.size)
      clear hR5 hQ hb5 hb57
      have ed := Go.IntWalk.i64_in (k + 1) (by omega)
      obtain ⟨g1, g2, g3, g4⟩ := hfacts (k + 1) qs hmq
      have hm1 := fun (v' : Value) (w' : World) (h : RL w' 0 v' (markV rs (k + 1))) => hmv v' _ w' h
      have hm2 := fun (v' : Value) (w' : World) (h : RL w' 0 v' (markgV rs (k + 1))) => hmv v' _ w' h
      rw [g1] at hm1
      rw [g2] at hm2
      dsimp only [Option.isSome_some, Option.getD_some] at hm1 hm2
      clear hfacts hmq g1 g2 g3 g4 hmv
      go_upto_region 9 with fail
      go_cut [9, 10] from 33 to 41 (fun s9 s10 wx => s10 = .bool true ∧ RL wx 0 s9 (markV qs (k + 1)) ∧ Below w7.heap.size w7 wx)
      case first =>
        obtain ⟨c0, c1, c2⟩ := box3 hzt
        have hlt := hzt.lt
        have t1 := fun (wz : World) (h : Below w7.heap.size w7 wz) => And.intro ((h.cell (p := ⟨bt, 0, none⟩) hlt).trans c0) (And.intro ((h.cell (p := ⟨bt, 1, none⟩) hlt).trans c1) ((h.cell (p := ⟨bt, 2, none⟩) hlt).trans c2))
        have hV0 := (Below.refl w7.heap.size w7).drew
        have hcc := copy_any v rs w7.drew hR7.drew hl1
        go_region_held3 (fun w' => w'.cell? ⟨bt, 0, none⟩ = some (.int .i64 o) ∧ w'.cell? ⟨bt, 1, none⟩ = some (.int .i64 x) ∧ w'.cell? ⟨bt, 2, none⟩ = some (.int .i64 y)) (first | with_reducible exact t1 _ hV0 | with_reducible exact t1 _ hB1 | with_reducible exact t1 _ hB2 | with_reducible exact t1 _ hB3)
          (first
            | (go_at_call 60; (with_reducible refine hcc.mono ?_); rintro e x1 ⟨z1, rfl, hZ1, hb1⟩; have hB1 := hV0.trans (hb1.mono hV0.size); have hca := markw_impl z1 rs (k + 1) x1 (hZ1.less (Nat.zero_le _)))
            | (go_at_call 39; (with_reducible refine hca.mono ?_); rintro e x2 ⟨z2, rfl, hZ2, hb2⟩; have hB2 := hB1.trans (hb2.mono hB1.size); have hcb := hm1 z2 x2 (hZ2.less (Nat.zero_le _)))
            | (go_at_call 59; (with_reducible refine hcb.mono ?_); rintro e x3 ⟨z3, rfl, hZ3, hb3⟩; have hB3 := hB2.trans (hb3.mono hB2.size)))
        all_goals
          go_wp2_with fail
          go_meet
          exact ⟨rfl, hZ3.less (Nat.zero_le _), hB3⟩
      case rest =>
        obtain ⟨rfl, hP, hB⟩ := hcut
        replace hzt := hzt.on hB
        have hR8 := hR7.on hB
        have hQ8 := hQ7.on hB
        have hb8 := hb7.trans (hB.mono hb7.size)
        clear hR7 hQ7 hb7 hB
        go_upto_region 10 with fail
        go_cut [11, 12] from 42 to 50 (fun s9 s10 wx => s10 = .bool true ∧ RL wx 0 s9 (markgV qs (k + 1)) ∧ Below wc.heap.size wc wx)
        case first =>
          obtain ⟨c0, c1, c2⟩ := box3 hzt
          have hlt := hzt.lt
          have t1 := fun (wz : World) (h : Below wc.heap.size wc wz) => And.intro ((h.cell (p := ⟨bt, 0, none⟩) hlt).trans c0) (And.intro ((h.cell (p := ⟨bt, 1, none⟩) hlt).trans c1) ((h.cell (p := ⟨bt, 2, none⟩) hlt).trans c2))
          have hV0 := (Below.refl wc.heap.size wc).drew
          have hcc := copy_any v rs wc.drew hR8.drew hl1
          go_region_held3 (fun w' => w'.cell? ⟨bt, 0, none⟩ = some (.int .i64 o) ∧ w'.cell? ⟨bt, 1, none⟩ = some (.int .i64 x) ∧ w'.cell? ⟨bt, 2, none⟩ = some (.int .i64 y)) (first | with_reducible exact t1 _ hV0 | with_reducible exact t1 _ hB1 | with_reducible exact t1 _ hB2 | with_reducible exact t1 _ hB3)
            (first
              | (go_at_call 60; (with_reducible refine hcc.mono ?_); rintro e x1 ⟨z1, rfl, hZ1, hb1⟩; have hB1 := hV0.trans (hb1.mono hV0.size); have hca := markg_impl z1 rs (k + 1) x1 (hZ1.less (Nat.zero_le _)))
              | (go_at_call 46; (with_reducible refine hca.mono ?_); rintro e x2 ⟨z2, rfl, hZ2, hb2⟩; have hB2 := hB1.trans (hb2.mono hB1.size); have hcb := hm2 z2 x2 (hZ2.less (Nat.zero_le _)))
              | (go_at_call 59; (with_reducible refine hcb.mono ?_); rintro e x3 ⟨z3, rfl, hZ3, hb3⟩; have hB3 := hB2.trans (hb3.mono hB2.size)))
          all_goals
            go_wp2_with fail
            go_meet
            exact ⟨rfl, hZ3.less (Nat.zero_le _), hB3⟩
        case rest =>
          obtain ⟨rfl, hS, hB⟩ := hcut
          have hQ9 := hQ8.on hB
          have hP9 := hP.on hB
          have hb9 := hb8.trans (hB.mono hb8.size)
          have hS9 := hS
          clear hR8 hQ8 hP hb8 hB hzt hm1 hm2 hS
          go_wp2_with fail
          refine (copy_any _ qs _ hQ9 hlq).mono ?_
          rintro e wm ⟨zc, rfl, hC, hbm⟩
          replace hC := hC.less (Nat.zero_le _)
          have hQ10 := hQ9.on hbm
          have hP10 := hP9.on hbm
          have hS10 := hS9.on hbm
          have hb10 := hb9.trans (hbm.mono hb9.size)
          clear hQ9 hP9 hS9 hb9 hbm
          go_wp2_with fail
          refine (markw_impl _ qs (k + 1) _ hC).mono ?_
          rintro e wm ⟨zm, rfl, hZ, hbm⟩
          replace hZ := hZ.less (Nat.zero_le _)
          clear hC
          have hQ11 := hQ10.on hbm
          have hP11 := hP10.on hbm
          have hS11 := hS10.on hbm
          have hb11 := hb10.trans (hbm.mono hb10.size)
          clear hQ10 hP10 hS10 hb10 hbm
          go_wp2_with fail
          refine (sameRects_any _ zm _ _ _ hP11 hZ).mono ?_
          rintro e wn ⟨rfl, hbn⟩
          rw [(eqL_iff _ _).2 rfl]
          clear hZ
          have hQ12 := hQ11.on hbn
          have hP12 := hP11.on hbn
          have hS12 := hS11.on hbn
          have hb12 := hb11.trans (hbn.mono hb11.size)
          clear hQ11 hP11 hS11 hb11 hbn
          go_wp2_with fail
          refine (copy_any _ qs _ hQ12 hlq).mono ?_
          rintro e wm ⟨zc, rfl, hC, hbm⟩
          replace hC := hC.less (Nat.zero_le _)
          have hQ13 := hQ12.on hbm
          have hP13 := hP12.on hbm
          have hS13 := hS12.on hbm
          have hb13 := hb12.trans (hbm.mono hb12.size)
          clear hQ12 hP12 hS12 hb12 hbm
          go_wp2_with fail
          refine (markg_impl _ qs (k + 1) _ hC).mono ?_
          rintro e wm ⟨zm, rfl, hZ, hbm⟩
          replace hZ := hZ.less (Nat.zero_le _)
          clear hC
          have hQ14 := hQ13.on hbm
          have hP14 := hP13.on hbm
          have hS14 := hS13.on hbm
          have hb14 := hb13.trans (hbm.mono hb13.size)
          clear hQ13 hP13 hS13 hb13 hbm
          go_wp2_with fail
          refine (sameRects_any _ zm _ _ _ hS14 hZ).mono ?_
          rintro e wn ⟨rfl, hbn⟩
          rw [(eqL_iff _ _).2 rfl]
          clear hZ
          have hQ15 := hQ14.on hbn
          have hP15 := hP14.on hbn
          have hS15 := hS14.on hbn
          have hb15 := hb14.trans (hbn.mono hb14.size)
          clear hQ14 hP14 hS14 hb14 hbn
          go_wp2_with fail
          refine (markw_spec _ qs (k + 1) _ hQ15).mono ?_
          rintro e wm ⟨zm, rfl, hZ, hbm⟩
          replace hZ := hZ.less (Nat.zero_le _)
          have hQ16 := hQ15.on hbm
          have hP16 := hP15.on hbm
          have hS16 := hS15.on hbm
          have hb16 := hb15.trans (hbm.mono hb15.size)
          clear hQ15 hP15 hS15 hb15 hbm
          go_wp2_with fail
          refine (sameRects_any _ zm _ _ _ hP16 hZ).mono ?_
          rintro e wn ⟨rfl, hbn⟩
          rw [(eqL_iff _ _).2 rfl]
          clear hZ
          have hQ17 := hQ16.on hbn
          have hP17 := hP16.on hbn
          have hS17 := hS16.on hbn
          have hb17 := hb16.trans (hbn.mono hb16.size)
          clear hQ16 hP16 hS16 hb16 hbn
          go_wp2
          go_ret
          exact ⟨by first | rfl | exact ret_bool (by simp), hb17⟩

end Go.Proofs.Ytooglkdloaaomaa
