/- The walk of the law FnReport, over drawn inputs: it answers true. No conditions. -/
import Derived.Test.YtbljapihmkmolaaGreatDrawR
import Derived.Test.YtbljapihmkmolaaGreatCopyL
import Derived.Test.YtbljapihmkmolaaGreatSame
import Derived.Test.YtbljapihmkmolaaGreatRepM
import Derived.Deep.RegionHeld3
import Derived.Deep.CutRange
namespace Go.Proofs.YtbljapihmkmolaaGreat
open Go.RowKit

set_option maxHeartbeats 400000 in
/-- The reference's IsLayout at seven lists. -/
theorem isLay7_spec (A : Option Addr) (c : Nat) (w : World) : Calls Tryz.prog 44 #[.slice A 7 c] w fun e w' => e = .returned (.bool false) ∧ Below w.heap.size w w' := by
  go_enter Tryz.func44, Tryz.ntmps44
  go_wp2
  go_ret
  exact ⟨rfl, Below.refl _ _⟩
set_option maxHeartbeats 800000 in
/-- The reference's CheckLayout at seven lists. -/
theorem check7_spec (A B : Option Addr) (c n d : Nat) (w : World) : Calls Tryz.prog 24 #[.slice A 7 c, .agg #[.slice B n d]] w fun e w' => e = .returned (.tuple #[.slice none 0 0, .int .i64 1]) ∧ Below w.heap.size w w' := by
  have hb0 := (Below.refl w.heap.size w).alloc (Nat.le_refl _) (.cells #[.slice B n d] 44)
  go_enter Tryz.func24, Tryz.ntmps24
  go_wp2_with fail
  refine (isLay7_spec A c _).mono ?_
  rintro e w1 ⟨rfl, hb1⟩
  go_wp2
  refine bodyPost_ret (v := .tuple #[.slice none 0 0, .int .i64 1]) (by simp [results, Tryz.results24, go_sem]) rfl ?_
  exact ⟨rfl, hb0.trans (hb1.mono hb0.size)⟩
theorem chkC_zero {rss : List (List Rc)} {qs : List Ru} (h : chkC rss qs = 0) : layB rss = true ∧ deckB qs = true ∧ (checkV rss qs).length ≤ 256 := by
  unfold chkC at h
  split at h
  · rename_i h1
    split at h
    · rename_i h2
      exact ⟨h1.1, h1.2, h2⟩
    · exact absurd h (by decide)
  · exact absurd h (by decide)

set_option maxHeartbeats 3200000 in
set_option maxRecDepth 100000 in
/-- FnReport answers true. -/
theorem lawFnReport (A : Option Addr) (n c : Nat) (w : World) (hA : ArgB w A n) (hm : n ≤ maxLen) : Calls Tryz.prog 6 #[.slice A n c] w fun e w' => e = .returned (.bool true) ∧ Below w.heap.size w w' := by
  go_enter Tryz.func6, Tryz.ntmps6
  go_wp2_with fail
  refine (big_any A n c w hm).mono ?_
  rintro e w0 ⟨rfl, rfl⟩
  by_cases h4 : 4096 < n
  · rw [decide_eq_true h4]
    go_wp2
    go_ret
    exact ⟨rfl, Below.refl _ _⟩
  · rw [decide_eq_false h4]
    go_wp2_with fail
    refine (drawCheck_any A n c _ hA (by omega)).mono ?_
    rintro e w1 ⟨v, u, qs, rfl, hv, hQ, h6, hb1⟩
    clear hA h4
    obtain ⟨Au, cu, rfl, hcu, hmu⟩ := hQ.form
    have z2 := Bk.new w1 44 #[.slice Au qs.length cu]
    have hv2 := hv.on ((Below.refl w1.heap.size w1).alloc (Nat.le_refl _) (.cells #[.slice Au qs.length cu] 44))
    have hQ2 := hQ.alloc (.cells #[.slice Au qs.length cu] 44)
    have hb2 := hb1.alloc hb1.size (.cells #[.slice Au qs.length cu] 44)
    have d0 := box1 z2
    clear hv hQ hb1
    rcases hv2 with ⟨b, us, rss, rfl, hX, h8, hl⟩ | ⟨A7, c7, rfl⟩
    · have hL := hX.rll
      have Hsm := Lib.hid (show ∀ rs ∈ rss, rs.length ≤ 1000000 from fun rs h => Nat.le_trans (hl rs h) (by omega))
      clear hX hl
      go_wp2_with fail
      refine (check_spec _ _ rss qs _ hL hQ2).mono ?_
      rintro e w3 ⟨x, xs, rfl, -, -, hb3⟩
      have z3 := z2.on hb3
      have hL3 := hL.on hb3
      have hQ3 := hQ2.on hb3
      have b3 := hb2.trans (hb3.mono hb2.size)
      clear z2 hL hQ2 hb2 hb3 d0
      by_cases h0 : chkC rss qs = 0
      · obtain ⟨k1, k2, k3⟩ := chkC_zero h0
        have E0 := Lib.hid h0
        have K1 := Lib.hid k1
        have K2 := Lib.hid k2
        have K3 := Lib.hid k3
        have Hcl := Lib.hid (chk_clean k1 k2 k3)
        have Hrep := Lib.hid (chk_report rss qs)
        rw [h0]
        clear h0 k1 k2 k3
        have s3 := b3.size
        have z9 := Lib.hid z3
        have l9 := Lib.hid hL3
        have q9 := Lib.hid hQ3
        have b9 := Lib.hid b3
        clear z3 hL3 hQ3 b3
        go_upto_region 7 with fail
        go_cut [7, 8] from 10 to 67 (fun sv tv wx => ∃ u us, u = sv ∧ tv = .int .i64 0 ∧ XW wx 0 u us (chkL rss qs) ∧ Below w3.heap.size w3 wx)
        case first =>
          have tc := (Below.refl w3.heap.size w3).drew
          have zz := z9.out.drew
          have ll := Lib.hid (l9.out.on tc)
          have qq := Lib.hid (q9.out.on tc)
          go_region_held3 (fun w' => w'.cell? ⟨w1.heap.size, 0, none⟩ = some (.slice Au qs.length cu)) (exact box1 zz)
            (first | (go_at_call 32; refine (copyLay_any _ rss _ ll.out (by omega) Hsm.out).mono ?_; rintro e wp ⟨up, rfl, qp, bp⟩; have tc := tc.trans (bp.mono tc.size); have zz := zz.on bp; have qq := Lib.hid (qq.out.on bp); have pp := qp.less (Nat.zero_le _))
                   | (go_at_call 25; refine (check_impl up _ rss qs _ pp qq.out (by omega)).mono ?_; rintro e ws ⟨uv, uvs, rfl, qv, qap, bv⟩; have qv2 := qv.less (Nat.zero_le _); have tc := tc.trans (bv.mono tc.size); have zz := zz.on bv; rw [E0.out]))
          all_goals
            go_wp2_with fail
            go_meet
            exact ⟨_, _, rfl, rfl, qv2, tc⟩
        obtain ⟨u4, us4, rfl, rfl, x4, b4⟩ := hcut
        obtain ⟨w4, rfl⟩ : ∃ W : World, W = wc := ⟨_, rfl⟩
        obtain ⟨A4, c4, rfl, hc4, hm4⟩ := x4.form
        have hlen := (show (chkL rss qs).length ≤ 9223372036854775807 by unfold maxLen at hm4; omega)
        replace z9 := Lib.hid (z9.out.on b4)
        replace l9 := Lib.hid (l9.out.on b4)
        replace q9 := Lib.hid (q9.out.on b4)
        replace b9 := Lib.hid (b9.out.trans (b4.mono s3))
        have x9 := Lib.hid x4
        have s4 := b9.out.size
        clear b4 x4
        go_upto_region 8 with fail
        go_cut [48] from 10 to 67 (fun sv wx => sv = .bool false ∧ Below w4.heap.size w4 wx)
        case first =>
          have tc := (Below.refl w4.heap.size w4).drew
          have zz := z9.out.drew
          have ll := Lib.hid (l9.out.on tc)
          have qq := Lib.hid (q9.out.on tc)
          have xx := Lib.hid (x9.out.on tc)
          have hcl := Hcl.out
          clear Hcl
          generalize hm' : (chkL rss qs).length = m at *
          cases hcb : cleanB rss qs with
          | true =>
            rw [hcb] at hcl
            obtain rfl : m = 0 := of_decide_eq_true hcl
            clear hcl
            go_region_held3 (fun w' => w'.cell? ⟨w1.heap.size, 0, none⟩ = some (.slice Au qs.length cu)) (exact box1 zz)
              (first | (go_at_call 32; refine (copyLay_any _ rss _ ll.out (by omega) Hsm.out).mono ?_; rintro e wp ⟨up, rfl, qp, bp⟩; have tc := tc.trans (bp.mono tc.size); have zz := zz.on bp; have qq := Lib.hid (qq.out.on bp); have xx := Lib.hid (xx.out.on bp); have pp := qp.less (Nat.zero_le _))
                     | (go_at_call 22; refine (clean_impl up _ rss qs _ pp qq.out (by omega)).mono ?_; rintro e ws ⟨rfl, bv⟩; have tc := tc.trans (bv.mono tc.size); have zz := zz.on bv; have xx := Lib.hid (xx.out.on bv); rw [hcb])
                     | (go_at_call 33; refine (report_impl _ _ _ _ xx.out).mono ?_; rintro e wt ⟨rfl, bt⟩; have tc := tc.trans (bt.mono tc.size); have zz := zz.on bt; rw [Hrep.out]))
            all_goals
              go_wp2_with fail
              go_meet
              exact ⟨rfl, tc⟩
          | false =>
            rw [hcb] at hcl
            have hm0 : ¬ m = 0 := of_decide_eq_false hcl
            have hmb : ((m : Int) == 0) = false := by simpa using hm0
            clear hcl
            go_region_held3 (fun w' => w'.cell? ⟨w1.heap.size, 0, none⟩ = some (.slice Au qs.length cu)) (exact box1 zz)
              (first | (go_at_call 32; refine (copyLay_any _ rss _ ll.out (by omega) Hsm.out).mono ?_; rintro e wp ⟨up, rfl, qp, bp⟩; have tc := tc.trans (bp.mono tc.size); have zz := zz.on bp; have qq := Lib.hid (qq.out.on bp); have xx := Lib.hid (xx.out.on bp); have pp := qp.less (Nat.zero_le _))
                     | (go_at_call 22; refine (clean_impl up _ rss qs _ pp qq.out (by omega)).mono ?_; rintro e ws ⟨rfl, bv⟩; have tc := tc.trans (bv.mono tc.size); have zz := zz.on bv; have xx := Lib.hid (xx.out.on bv); rw [hcb])
                     | (go_at_call 33; refine (report_impl _ _ _ _ xx.out).mono ?_; rintro e wt ⟨rfl, bt⟩; have tc := tc.trans (bt.mono tc.size); have zz := zz.on bt; rw [Hrep.out]))
            all_goals
              go_wp2_with fail
              go_meet
              exact ⟨rfl, tc⟩
        obtain ⟨rfl, b5⟩ := hcut
        obtain ⟨w5, rfl⟩ : ∃ W : World, W = wc := ⟨_, rfl⟩
        replace z9 := Lib.hid (z9.out.on b5)
        replace l9 := Lib.hid (l9.out.on b5)
        replace q9 := Lib.hid (q9.out.on b5)
        replace x9 := Lib.hid (x9.out.on b5)
        replace b9 := Lib.hid (b9.out.trans (b5.mono s4))
        have s5 := b9.out.size
        clear b5 s4 s3 Hcl Hrep E0
        go_wp2
        go_loopw [9] (fun iv wr => ∃ k : Nat, k ≤ qs.length ∧ iv = .int .i64 k ∧ Below w5.heap.size w5 wr) (fun iv _ => qs.length - (intOf iv).toNat)
        case atStart => exact ⟨0, Nat.zero_le _, rfl, Below.refl _ _⟩
        case round =>
          obtain ⟨k, hk, rfl, hb⟩ := hrel
          have zz := (z9.out.on hb)
          have ll := Lib.hid (l9.out.on hb)
          have qq := (q9.out.on hb)
          have xx := Lib.hid (x9.out.on hb)
          have d0 := box1 zz
          by_cases hlt : k < qs.length
          · obtain ⟨⟨q0, q1, q2, q3, q4⟩, hq⟩ : ∃ q, qs[k]? = some q := ⟨_, List.getElem?_eq_getElem hlt⟩
            have Hmu := Lib.hid (mu_check K1.out K2.out K3.out hq)
            obtain ⟨gq, rfl, -, hgl, f0, f1, f2, f3, f4⟩ := qq.elem hq
            have Q5 : ∀ W : World, Below wr.heap.size wr W → W.cell? ⟨w1.heap.size, 0, none⟩ = some (.slice (some ⟨gq, 0, none⟩) qs.length cu) ∧ W.cell? ⟨gq, k * 5, none⟩ = some (.int .i64 q0) ∧ W.cell? ⟨gq, k * 5 + 1, none⟩ = some (.int .i64 q1) ∧ W.cell? ⟨gq, k * 5 + 2, none⟩ = some (.int .i64 q2) ∧ W.cell? ⟨gq, k * 5 + 3, none⟩ = some (.int .i64 q3) ∧ W.cell? ⟨gq, k * 5 + 4, none⟩ = some (.int .i64 q4) := fun W h => ⟨(h.cell (p := ⟨w1.heap.size, 0, none⟩) zz.lt).trans d0, (h.cell (p := ⟨gq, _, none⟩) hgl).trans f0, (h.cell (p := ⟨gq, _, none⟩) hgl).trans f1, (h.cell (p := ⟨gq, _, none⟩) hgl).trans f2, (h.cell (p := ⟨gq, _, none⟩) hgl).trans f3, (h.cell (p := ⟨gq, _, none⟩) hgl).trans f4⟩
            have HQ5 := Lib.hid Q5
            have hk9 : k < 9223372036854775807 := by omega
            clear hq qq Q5
            clear f0 f1 f2 f3 f4
            go_upto_region 13 with fail
            go_cut [67] from 49 to 67 (fun sv wx => sv = .bool false ∧ Below wr.heap.size wr wx)
            case first =>
              have tc := (Below.refl wr.heap.size wr).drew
              have ll := Lib.hid (ll.out.on tc)
              have xx := Lib.hid (xx.out.on tc)
              have hi0 : (0 : Int) ≤ (k : Int) ∧ (k : Int) < qs.length := by omega
              go_region_held3 (fun w' => w'.cell? ⟨w1.heap.size, 0, none⟩ = some (.slice (some ⟨gq, 0, none⟩) qs.length cu) ∧ w'.cell? ⟨gq, k * 5, none⟩ = some (.int .i64 q0) ∧ w'.cell? ⟨gq, k * 5 + 1, none⟩ = some (.int .i64 q1) ∧ w'.cell? ⟨gq, k * 5 + 2, none⟩ = some (.int .i64 q2) ∧ w'.cell? ⟨gq, k * 5 + 3, none⟩ = some (.int .i64 q3) ∧ w'.cell? ⟨gq, k * 5 + 4, none⟩ = some (.int .i64 q4)) (exact HQ5.out _ tc)
                (first | (go_at_call 35; refine (mu_impl _ _ _ _ _ xx.out).mono ?_; rintro e wp ⟨up, rfl, qp, bp⟩; rw [Hmu.out] at qp; have tc := tc.trans (bp.mono tc.size); have ll := Lib.hid (ll.out.on bp); have pp := Lib.hid (qp.less (Nat.zero_le _)))
                       | (go_at_call 10; refine (rm_spec _ rss ⟨q0, q1, q2, q3, q4⟩ _ ll.out).mono ?_; rintro e ws ⟨us, rfl, qv, bv⟩; have tc := tc.trans (bv.mono tc.size); have pp := Lib.hid (pp.out.on bv); have vv := Lib.hid (qv.less (Nat.zero_le _)))
                       | (go_at_call 34; refine (sameRects_any _ _ _ _ _ pp.out vv.out).mono ?_; rintro e wt ⟨rfl, bt⟩; have tc := tc.trans (bt.mono tc.size); rw [(eqL_iff _ _).2 rfl]))
              all_goals
                go_wp2_with fail
                go_meet
                exact ⟨rfl, tc⟩
            obtain ⟨rfl, b6⟩ := hcut
            obtain ⟨w6, rfl⟩ : ∃ W : World, W = wc := ⟨_, rfl⟩
            have hb6 := hb.trans (b6.mono hb.size)
            clear b6 HQ5 zz d0
            go_wp2
            exact ⟨⟨k + 1, by omega, by go_num, hb6⟩, by simp [intOf]; omega⟩
          · go_wp2
            go_ret
            exact ⟨rfl, b9.out.trans (hb.mono s5)⟩
      · have b0 : (chkC rss qs != 0) = true := by simpa using h0
        generalize chkC rss qs = cc at *
        go_wp2
        go_ret
        exact ⟨rfl, b3⟩
    · go_wp2_with fail
      refine (check7_spec A7 Au c7 qs.length cu _).mono ?_
      rintro e w3 ⟨rfl, hb3⟩
      go_wp2
      go_ret
      exact ⟨rfl, hb2.trans (hb3.mono hb2.size)⟩

end Go.Proofs.YtbljapihmkmolaaGreat
