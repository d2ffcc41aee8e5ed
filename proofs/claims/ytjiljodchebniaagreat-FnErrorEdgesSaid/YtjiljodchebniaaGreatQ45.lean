/- The walk of the law FnErrorEdges, over drawn inputs: it answers true. No conditions. -/
import Derived.Test.YtjiljodchebniaaGreatQ10
import Derived.Test.YtjiljodchebniaaGreatQ30
import Derived.Test.YtjiljodchebniaaGreatQ42
import Derived.Test.YtjiljodchebniaaGreatQ43
import Derived.Test.YtjiljodchebniaaGreatQ44
import Derived.Deep.RegionHeld3
import Derived.Deep.CutRange

namespace Go.Proofs.YtjiljodchebniaaGreat
open Go.RowKit

theorem chkE {rs : List Rc} {d : Int} (hr : isReg rs = true) (hd : inB 1 d 8 = true) : (chkC (layE rs) [ruE d] = 3) ∨ (chkC (layE rs) [ruE d] = 0 ∧ chkL (layE rs) [ruE d] = checkV (layE rs) [ruE d]) := by
  by_cases h : (checkV (layE rs) [ruE d]).length ≤ 256
  · obtain ⟨h1, h2⟩ := chk_yes (layE_ok hr) (deckE_ok hd) h
    exact .inr ⟨h2, h1⟩
  · exact .inl (chk_many (layE_ok hr) (deckE_ok hd) h).2

/-- The cells of the element k. -/
theorem PEL.at8 {w : World} {B n c gp i : Nat} {L : List EP} {x0 x1 x2 x3 x4 x5 x6 x7 : Int} (h : PEL w B (.slice (some ⟨gp, 0, none⟩) n c) L) (hx : L[i]? = some ⟨⟨x0, x1, x2, x3⟩, ⟨x4, x5, x6, x7⟩⟩) : w.cell? ⟨gp, i * 9, none⟩ = some (.int .i64 x0) ∧ w.cell? ⟨gp, i * 9 + 1, none⟩ = some (.int .i64 x1) ∧ w.cell? ⟨gp, i * 9 + 2, none⟩ = some (.int .i64 x2) ∧ w.cell? ⟨gp, i * 9 + 3, none⟩ = some (.int .i64 x3) ∧ w.cell? ⟨gp, i * 9 + 4, none⟩ = some (.int .i64 x4) ∧ w.cell? ⟨gp, i * 9 + 5, none⟩ = some (.int .i64 x5) ∧ w.cell? ⟨gp, i * 9 + 6, none⟩ = some (.int .i64 x6) ∧ w.cell? ⟨gp, i * 9 + 7, none⟩ = some (.int .i64 x7) := by
  obtain ⟨A, c', e, -, -, hf⟩ := h.form
  simp only [Value.slice.injEq] at e
  obtain ⟨g, hA, -, -, h0⟩ := hf i _ hx
  have : gp = g := by
    have h1 := e.1.trans hA
    simpa using h1
  subst this
  exact ⟨h0 0 (by decide), h0 1 (by decide), h0 2 (by decide), h0 3 (by decide), h0 4 (by decide), h0 5 (by decide), h0 6 (by decide), h0 7 (by decide)⟩

set_option maxHeartbeats 6400000 in
set_option maxRecDepth 100000 in
/-- FnErrorEdges answers true. -/
theorem lawFnErrorEdges (A : Option Addr) (n c : Nat) (w : World) (hA : ArgB w A n) (hm : n ≤ maxLen) : Calls Tryz.prog 3 #[.slice A n c] w fun e w' => e = .returned (.bool true) ∧ Below w.heap.size w w' := by
  go_enter Tryz.func3, Tryz.ntmps3
  go_wp2_with fail
  refine (big_any A n c w hm).mono ?_
  rintro e w0 ⟨rfl, rfl⟩
  by_cases h4 : 4096 < n
  · rw [decide_eq_true h4]
    go_wp2
    go_ret
    exact ⟨rfl, Below.refl _ _⟩
  · rw [decide_eq_false h4]
    go_wp2_with fail
    refine (drawFE_any A n c _ hA (by omega)).mono ?_
    rintro e w1 ⟨v, rs, d, b, rfl, hv, hl, hd, hb1⟩
    clear hA h4
    go_wp2_with fail
    refine (isReg_spec v rs _ (hv.less (Nat.zero_le _))).mono ?_
    rintro e w2 ⟨rfl, hb2⟩
    have hv2 := (hv.less (Nat.zero_le _)).on hb2
    have b2 := hb1.trans (hb2.mono hb1.size)
    clear hv hb1 hb2
    cases hr : isReg rs with
    | false =>
      go_wp2
      go_ret
      exact ⟨rfl, b2⟩
    | true =>
      by_cases h1 : d < 1
      · go_wp2
        go_ret
        exact ⟨rfl, b2⟩
      · by_cases h8 : 8 < d
        · go_wp2
          go_ret
          exact ⟨rfl, b2⟩
        · have HR := Lib.hid hr
          clear hr
          obtain ⟨i0, hi0, hz0, hsz0, hby0⟩ := info_parts info_rects
          go_wp2_with (at_make; refine wpList_make_full _ rfl _ _ 28 rfl w2.heap.size 24 i0 _ 1 Tryz.underlying28 hi0 hz0 hsz0 _ _ _ _ 8 rfl rfl rfl rfl (by rw [hby0]; omega) (by simp only [maxLen]; omega) (Nat.le_refl _) ?_)
          intro w3 ho3 hg3
          have b3 : Below w2.heap.size w2 w3 := (Below.refl _ _).grown hg3 (Nat.le_refl _) (fun k hk => by cases hk)
          have hX3 := LW.made ho3
          have hv3 := hv2.on b3
          clear ho3 hg3 hi0 hz0 hsz0 hby0
          go_wp2_with fail
          refine (copyR_any v rs _ hv3 (by omega)).mono ?_
          rintro e w4 ⟨up, rfl, hU, hb4⟩
          have hs2 := b2.size
          have hs3 := b3.size
          have hX4 := hX3.on hb4
          have hX5 := hX4.set1 (k := 3) (by simp) rs up (hU.less hs3)
          have z0 := hX4.frozen 3
          obtain ⟨gx, y, hgx, -, -, d1, d0, -⟩ := LW.elem hX4 (k := 3) (rs := []) rfl
          cases hgx
          obtain ⟨Au, cu, rfl, -, -, -⟩ := hU.form
          have bb4 := (b2.trans (b3.mono hs2)).trans (hb4.mono (by omega))
          have bb5 := bb4.setCell (p := ⟨w2.heap.size, 3, none⟩) hs2 (.slice Au rs.length cu)
          have hne : v.ownBlock ≠ some w2.heap.size := fun e => by have := (own_lt hv2 _ e).2; omega
          have hv5 : RL (w4.setCell ⟨w2.heap.size, 3, none⟩ (.slice Au rs.length cu)) 0 v rs := own_other (hv3.on hb4) hne _
          obtain ⟨W5, hW5⟩ : ∃ W, W = w4.setCell ⟨w2.heap.size, 3, none⟩ (.slice Au rs.length cu) := ⟨_, rfl⟩
          rw [← hW5] at hX5 bb5 hv5
          have hs5 : W5.heap.size = w4.heap.size := by rw [hW5]; simp
          have b6 := (Below.refl W5.heap.size W5).alloc (Nat.le_refl _) (.cells #[.int .i64 0, .int .i64 3, .int .i64 0, .int .i64 d, .int .i64 0] 31)
          have b7 := b6.alloc (by simp) (.cells #[.slice (some ⟨w4.heap.size, 0, none⟩) 1 1] 34)
          have hQ6 : QL (W5.alloc (.cells #[.int .i64 0, .int .i64 3, .int .i64 0, .int .i64 d, .int .i64 0] 31)) 0 (.slice (some ⟨w4.heap.size, 0, none⟩) 1 1) [ruE d] := by
            rw [← hs5]
            exact World.ownsRow_lit W5 #[.int .i64 0, .int .i64 3, .int .i64 0, .int .i64 d, .int .i64 0] 1 (Nat.zero_le _) (by simp [maxLen]) (by simp)
          have hQ7 := hQ6.alloc (.cells #[.slice (some ⟨w4.heap.size, 0, none⟩) 1 1] 34)
          have hK7 := Bk.new (W5.alloc (.cells #[.int .i64 0, .int .i64 3, .int .i64 0, .int .i64 d, .int .i64 0] 31)) 34 #[.slice (some ⟨w4.heap.size, 0, none⟩) 1 1]
          rw [show (W5.alloc (.cells #[.int .i64 0, .int .i64 3, .int .i64 0, .int .i64 d, .int .i64 0] 31)).heap.size = w4.heap.size + 1 by rw [← hs5]; simp] at hK7
          obtain ⟨W7, hW7⟩ : ∃ W, W = (W5.alloc (.cells #[.int .i64 0, .int .i64 3, .int .i64 0, .int .i64 d, .int .i64 0] 31)).alloc (.cells #[.slice (some ⟨w4.heap.size, 0, none⟩) 1 1] 34) := ⟨_, rfl⟩
          rw [← hW7] at b7 hQ7 hK7
          have L7 := Lib.hid (show RLL W7 0 (.slice (some ⟨w2.heap.size, 0, none⟩) 8 8) (layE rs) from (hX5.rll.on b7).less (Nat.zero_le _))
          have V7 := Lib.hid (hv5.on b7)
          have B7 := Lib.hid (bb5.trans (b7.mono bb5.size))
          have Q7 := Lib.hid hQ7
          have K7 := Lib.hid hK7
          clear hX3 hX4 hX5 hv2 hv3 hv5 hU b2 b3 hb4 bb4 bb5 b6 b7 hQ6 hQ7 hK7 hne
          go_upto_region 9 with fail
          rw [← hW5, ← hW7]
          clear hW5 hW7 hs5
          obtain ⟨cc, Hcc⟩ : ∃ cc, Hid (chkC (layE rs) [ruE d] = cc) := ⟨_, Lib.hid rfl⟩
          go_cut [8, 9] from 16 to 124 (fun sv tv wx => ∃ u us, u = sv ∧ tv = .int .i64 cc ∧ XW wx 0 u us (chkL (layE rs) [ruE d]) ∧ Below W7.heap.size W7 wx)
          case first =>
            have tc := (Below.refl W7.heap.size W7).drew
            have zz := K7.out.drew
            have ll := Lib.hid (L7.out.on tc)
            have qq := Lib.hid (Q7.out.on tc)
            have Hsm := Lib.hid (show ∀ r ∈ layE rs, r.length ≤ 1000000 from fun r h => by
              unfold layE at h
              simp only [List.mem_cons, List.not_mem_nil, or_false] at h
              rcases h with rfl | rfl | rfl | rfl | rfl | rfl | rfl | rfl <;> first | omega | simp)
            have h88 : (layE rs).length ≤ 1000000 := by show (8 : Nat) ≤ 1000000; omega
            have h11 : ([ruE d] : List Ru).length ≤ 1000000000 := by show (1 : Nat) ≤ 1000000000; omega
            go_region_held3 (fun w' => w'.cell? ⟨w4.heap.size + 1, 0, none⟩ = some (.slice (some ⟨w4.heap.size, 0, none⟩) 1 1)) (exact box1 zz)
              (first | (go_at_call 9; refine (copyLay_any _ (layE rs) _ ll.out h88 Hsm.out).mono ?_; rintro e wp ⟨up, rfl, qp, bp⟩; have tc := tc.trans (bp.mono tc.size); have zz := zz.on bp; have qq := Lib.hid (qq.out.on bp); have pp := qp.less (Nat.zero_le _))
                     | (go_at_call 8; refine (check_impl up _ (layE rs) [ruE d] _ pp qq.out h11).mono ?_; rintro e ws ⟨uv, uvs, rfl, qv, qap, bv⟩; have qv2 := qv.less (Nat.zero_le _); have tc := tc.trans (bv.mono tc.size); have zz := zz.on bv; rw [Hcc.out]))
            all_goals
              go_wp2_with fail
              go_meet
              exact ⟨_, _, rfl, rfl, qv2, tc⟩
          obtain ⟨uv, us, rfl, rfl, hx8, hb8⟩ := hcut
          obtain ⟨w8, rfl⟩ : ∃ W : World, W = wc := ⟨_, rfl⟩
          obtain ⟨A8, c8, rfl, hc8, hm8⟩ := hx8.form
          have V8 := Lib.hid (V7.out.on hb8)
          have L8 := Lib.hid (L7.out.on hb8)
          have Q8 := Lib.hid (Q7.out.on hb8)
          have K8 := Lib.hid (K7.out.on hb8)
          have B8 := Lib.hid (B7.out.trans (hb8.mono B7.out.size))
          have X8 := Lib.hid hx8
          have hin : inB 1 d 8 = true := by unfold inB; exact decide_eq_true (by omega)
          have HIN := Lib.hid hin
          have hvl : (chkL (layE rs) [ruE d]).length ≤ 9223372036854775807 := by unfold maxLen at hm8; omega
          clear hx8 hb8 L7 Q7 K7 B7 V7 hm8 hc8
          rcases chkE HR.out hin with h3 | ⟨h0, hL0⟩
          · obtain rfl : cc = 3 := Hcc.out.symm.trans h3
            clear h3 hin
            go_wp2
            go_ret
            exact ⟨rfl, B8.out⟩
          · obtain rfl : cc = 0 := Hcc.out.symm.trans h0
            have HL0 := Lib.hid hL0
            obtain ⟨VS, HVS⟩ : ∃ VS, Hid (chkL (layE rs) [ruE d] = VS) := ⟨_, Lib.hid rfl⟩
            rw [HVS.out] at X8 hvl ⊢
            obtain ⟨L, HL⟩ : ∃ L, Hid (srtP (faceL (cellsG rs) d) = L) := ⟨_, Lib.hid rfl⟩
            have HLV : Hid (VS = checkV (layE rs) [ruE d]) := Lib.hid (HVS.out.symm.trans hL0)
            have HLm : Hid (∀ x ∈ L, FaceC (cellsG rs) d x) := Lib.hid (fun x hx => (faceL_mem _ _ _).1 ((srtP_mem _ _).1 (by rw [HL.out]; exact hx)))
            have HL1 : Hid (L.length = (faceS (cellsG rs) d).length) := Lib.hid (by rw [← HL.out, srtP_len]; exact face_count _ _)
            have HL2 : Hid (L.length = 0 ↔ VS.length = 0) := Lib.hid (by
              rw [← HL.out, srtP_len, HLV.out, List.length_eq_zero_iff, List.length_eq_zero_iff]
              exact face_nil HR.out HIN.out)
            have HLB : Hid (L.length ≤ 20000) := Lib.hid (by
              rw [← HL.out, srtP_len]
              have h1 := addAll_len (faceTo (cellsG rs) d 80) []
              have h2 := faceTo_len (cellsG rs) d 80
              unfold faceL
              rw [List.length_nil] at h1
              omega)
            have hrl : rs.length ≤ 1000000 := by omega
            have hd80 : 1 ≤ d ∧ d ≤ 80 := by omega
            clear h0 hL0 hin
            go_wp2_with (first
              | (go_at_call 7; (with_reducible refine (copyR_any v rs _ V8.out hrl).mono ?_); rintro e w9 ⟨u9, rfl, hU9, hb9⟩; have hU9z := Lib.hid (hU9.less (Nat.zero_le w8.heap.size)); clear hU9)
              | (go_at_call 10; (with_reducible refine (face_impl u9 rs d _ hU9z.out HR.out hd80).mono ?_); rintro e w10 ⟨u10, rfl, hP, hb10⟩; rw [HL.out] at hP; have b10 := Lib.hid (hb9.trans (hb10.mono hb9.size)); obtain ⟨Ap, cp, rfl, -, -, -⟩ := hP.form; have P10 := Lib.hid (hP.less (Nat.zero_le _)); clear hP hb10 hb9))
            have V9 := Lib.hid (V8.out.on b10.out)
            have L9 := Lib.hid (L8.out.on b10.out)
            have Q9 := Lib.hid (Q8.out.on b10.out)
            have K9 := Lib.hid (K8.out.on b10.out)
            have X9 := Lib.hid (X8.out.on b10.out)
            have B9 := Lib.hid (B8.out.trans (b10.out.mono B8.out.size))
            clear V8 L8 Q8 K8 X8 B8 b10
            go_loopw [11] (fun iv wr => ∃ i : Nat, i ≤ L.length ∧ iv = .int .i64 i ∧ Below w10.heap.size w10 wr) (fun iv _ => L.length - (intOf iv).toNat)
            case atStart => exact ⟨0, Nat.zero_le _, rfl, Below.refl _ _⟩
            case round =>
              obtain ⟨i, hi, rfl, hb⟩ := hrel
              by_cases hlt : i < L.length
              · obtain ⟨gp, x, hAp, hx, -, hgp, -⟩ := (P10.out.on hb).elem hlt
                obtain ⟨⟨x0, x1, x2, x3⟩, ⟨x4, x5, x6, x7⟩⟩ := x
                have hfc := HLm.out _ (List.mem_of_getElem? hx)
                obtain ⟨ms, hms, -, hf1, hf2, hvc⟩ := face_vio HR.out HIN.out hfc
                obtain ⟨k0, hk0, hk0e⟩ := List.mem_iff_getElem.1 (show ((0 : Int), ms) ∈ VS by rw [HLV.out]; exact hms)
                have Hk0 := Lib.hid (show VS[k0]? = some ((0 : Int), ms) by rw [List.getElem?_eq_getElem hk0, hk0e])
                have HF := Lib.hid (And.intro hf1 (And.intro hf2 hvc))
                have hk9 : k0 < VS.length := hk0
                have Hx := Lib.hid hx
                have en := Go.IntWalk.i64_in ((i : Int) + 1) (by have := HLB.out; omega)
                clear hfc hms hf1 hf2 hvc hk0e hk0 hx
                subst hAp
                go_wp2
                obtain ⟨wo, hwo⟩ : ∃ wo, wo = wr := ⟨_, rfl⟩
                subst hwo
                go_loopw [12, 13] (fun fv kv wx => ∃ (k : Nat) (f : Bool), k ≤ VS.length ∧ kv = .int .i64 k ∧ fv = .bool f ∧ Hid (k0 < k → f = true) ∧ Below w10.heap.size w10 wx) (fun _ kv _ => VS.length - (intOf kv).toNat)
                case atStart => exact ⟨0, false, Nat.zero_le _, rfl, rfl, Lib.hid (fun h => by omega), hb⟩
                case round =>
                  obtain ⟨k, f, hk, rfl, rfl, HFk, hbk⟩ := hrel
                  by_cases hkl : k < VS.length
                  · obtain ⟨⟨kk, mk⟩, hq⟩ : ∃ q, VS[k]? = some q := ⟨_, List.getElem?_eq_getElem hkl⟩
                    obtain ⟨g8, um, hA8, -, -, hg8, c0, c1, hRm⟩ := (X9.out.on hbk).elem hq
                    dsimp only at c0 hRm
                    subst hA8
                    obtain ⟨Am, cm, rfl, -, -, -⟩ := hRm.form
                    have Hq := Lib.hid hq
                    have k1 := box1 (K9.out.on hbk)
                    have ekn := Go.IntWalk.i64_in ((k : Int) + 1) (by omega)
                    have HS8 := Lib.hid (show ∀ W, Below wr.heap.size wr W → W.cell? ⟨w4.heap.size + 1, 0, none⟩ = some (.slice (some ⟨w4.heap.size, 0, none⟩) 1 1) ∧ W.cell? ⟨g8, k * 2, none⟩ = some (.int .i64 kk) ∧ W.cell? ⟨g8, k * 2 + 1, none⟩ = some (.slice Am mk.length cm) from fun W h => ⟨(h.cell (p := ⟨w4.heap.size + 1, 0, none⟩) (K9.out.on hbk).lt).trans k1, (h.cell (p := ⟨g8, _, none⟩) hg8).trans c0, (h.cell (p := ⟨g8, _, none⟩) hg8).trans c1⟩)
                    have HRm := Lib.hid hRm
                    obtain ⟨cv, Hcv⟩ : ∃ cv, Hid (veC (layE rs) [ruE d] kk mk = cv) := ⟨_, Lib.hid rfl⟩
                    obtain ⟨vl, Hvl⟩ : ∃ vl, Hid (veLst (layE rs) [ruE d] kk mk = vl) := ⟨_, Lib.hid rfl⟩
                    have hbk9 := hbk.size
                    clear c0 c1 hRm k1 hq
                    go_upto_region 20 with fail
                    go_cut [14, 15] from 63 to 102 (fun sv tv wx => ∃ u, u = sv ∧ tv = .int .i64 cv ∧ EL wx 0 u vl ∧ Below wr.heap.size wr wx)
                    case first =>
                      have tc := (Below.refl wr.heap.size wr).drew
                      have ll := Lib.hid ((L9.out.on hbk).on tc)
                      have qq := Lib.hid ((Q9.out.on hbk).on tc)
                      have rr := Lib.hid (HRm.out.on tc)
                      have Hsm := Lib.hid (show ∀ r ∈ layE rs, r.length ≤ 1000000 from fun r h => by
                        unfold layE at h
                        simp only [List.mem_cons, List.not_mem_nil, or_false] at h
                        rcases h with rfl | rfl | rfl | rfl | rfl | rfl | rfl | rfl <;> first | omega | simp)
                      have h88 : (layE rs).length ≤ 1000000 := by show (8 : Nat) ≤ 1000000; omega
                      have h11 : ([ruE d] : List Ru).length ≤ 1000000000 := by show (1 : Nat) ≤ 1000000000; omega
                      have hi0 : (0 : Int) ≤ (k : Int) ∧ (k : Int) < VS.length := by omega
                      go_region_held3 (fun W => W.cell? ⟨w4.heap.size + 1, 0, none⟩ = some (.slice (some ⟨w4.heap.size, 0, none⟩) 1 1) ∧ W.cell? ⟨g8, k * 2, none⟩ = some (.int .i64 kk) ∧ W.cell? ⟨g8, k * 2 + 1, none⟩ = some (.slice Am mk.length cm)) (exact HS8.out _ tc)
                        (first | (go_at_call 9; refine (copyLay_any _ (layE rs) _ ll.out h88 Hsm.out).mono ?_; rintro e wp ⟨up, rfl, qp, bp⟩; have tc := tc.trans (bp.mono tc.size); have qq := Lib.hid (qq.out.on bp); have rr := Lib.hid (rr.out.on bp); have pp := qp.less (Nat.zero_le _))
                               | (go_at_call 11; refine (ve_impl up _ _ (layE rs) [ruE d] kk mk _ pp qq.out rr.out h11).mono ?_; rintro e ws ⟨uv, rfl, qv, bv⟩; have qv2 := qv.less (Nat.zero_le _); have tc := tc.trans (bv.mono tc.size); rw [Hcv.out]; rw [Hvl.out] at qv2))
                      all_goals
                        go_wp2_with fail
                        go_meet
                        exact ⟨_, rfl, rfl, qv2, tc⟩
                    obtain ⟨u14, rfl, rfl, hE, hb12⟩ := hcut
                    obtain ⟨w12, rfl⟩ : ∃ W : World, W = wc := ⟨_, rfl⟩
                    have E12 := Lib.hid hE
                    have bk12 := hbk.trans (hb12.mono hbk9)
                    obtain ⟨p0, p1, p2, p3, p4, p5, p6, p7⟩ := PEL.at8 (P10.out.on bk12) Hx.out
                    have HP12 := Lib.hid (show ∀ W, Below w12.heap.size w12 W → W.cell? ⟨gp, i * 9, none⟩ = some (.int .i64 x0) ∧ W.cell? ⟨gp, i * 9 + 1, none⟩ = some (.int .i64 x1) ∧ W.cell? ⟨gp, i * 9 + 2, none⟩ = some (.int .i64 x2) ∧ W.cell? ⟨gp, i * 9 + 3, none⟩ = some (.int .i64 x3) ∧ W.cell? ⟨gp, i * 9 + 4, none⟩ = some (.int .i64 x4) ∧ W.cell? ⟨gp, i * 9 + 5, none⟩ = some (.int .i64 x5) ∧ W.cell? ⟨gp, i * 9 + 6, none⟩ = some (.int .i64 x6) ∧ W.cell? ⟨gp, i * 9 + 7, none⟩ = some (.int .i64 x7) from fun W h => PEL.at8 ((P10.out.on bk12).on h) Hx.out)
                    have hs12 := bk12.size
                    clear hE hb12 HS8 HRm
                    have hk0c : k = k0 → cv = 0 ∧ hasEd vl ⟨x0, x1, x2, x3⟩ = true ∧ hasEd vl ⟨x4, x5, x6, x7⟩ = true := fun e => by
                      subst e
                      have h1 := Hk0.out.symm.trans Hq.out
                      simp only [Option.some.injEq, Prod.mk.injEq] at h1
                      obtain ⟨rfl, rfl⟩ := h1
                      refine ⟨Hcv.out.symm.trans HF.out.2.2, ?_, ?_⟩
                      · unfold hasEd
                        rw [← Hvl.out]
                        exact decide_eq_true HF.out.1
                      · unfold hasEd
                        rw [← Hvl.out]
                        exact decide_eq_true HF.out.2.1
                    have HC0 := Lib.hid hk0c
                    clear hk0c
                    cases f with
                    | true =>
                      go_wp2
                      exact ⟨⟨k + 1, true, by omega, by go_num, rfl, Lib.hid (fun _ => rfl), bk12⟩, by simp [intOf]; omega⟩
                    | false =>
                      have hkk : ¬ k0 < k := fun h => by have := HFk.out h; cases this
                      by_cases hc0 : cv = 0
                      · subst hc0
                        cases h1 : hasEd vl ⟨x0, x1, x2, x3⟩ with
                        | false =>
                          have H1 := Lib.hid h1
                          have hne : k ≠ k0 := fun e => by have := (HC0.out e).2.1; rw [h1] at this; cases this
                          clear h1
                          go_wp2_with (go_at_call 12; (with_reducible refine (hasEd_any u14 _ x0 x1 x2 x3 _ E12.out).mono ?_); rintro e w13 ⟨he, hb13⟩; rw [H1.out] at he; subst he; have E13 := Lib.hid (E12.out.on hb13); have b13 := hb13; obtain ⟨q0, q1, q2, q3, q4, q5, q6, q7⟩ := HP12.out _ hb13)
                          exact ⟨⟨k + 1, false, by omega, by go_num, rfl, Lib.hid (fun _ => by omega), bk12.trans (b13.mono hs12)⟩, by simp [intOf]; omega⟩
                        | true =>
                          have H1 := Lib.hid h1
                          clear h1
                          cases h2 : hasEd vl ⟨x4, x5, x6, x7⟩ with
                          | false =>
                            have H2 := Lib.hid h2
                            have hne : k ≠ k0 := fun e => by have := (HC0.out e).2.2; rw [h2] at this; cases this
                            clear h2
                            go_wp2_with (first | (go_at_call 12; (with_reducible refine (hasEd_any u14 _ x0 x1 x2 x3 _ E12.out).mono ?_); rintro e w13 ⟨he, hb13⟩; rw [H1.out] at he; subst he; have E13 := Lib.hid (E12.out.on hb13); have b13 := hb13; obtain ⟨q0, q1, q2, q3, q4, q5, q6, q7⟩ := HP12.out _ hb13) | (go_at_call 12; (with_reducible refine (hasEd_any u14 _ x4 x5 x6 x7 _ E13.out).mono ?_); rintro e w15 ⟨he, hb15⟩; rw [H2.out] at he; subst he; have b15 := b13.trans (hb15.mono b13.size)))
                            exact ⟨⟨k + 1, false, by omega, by go_num, rfl, Lib.hid (fun _ => by omega), bk12.trans (b15.mono hs12)⟩, by simp [intOf]; omega⟩
                          | true =>
                            have H2 := Lib.hid h2
                            clear h2
                            go_wp2_with (first | (go_at_call 12; (with_reducible refine (hasEd_any u14 _ x0 x1 x2 x3 _ E12.out).mono ?_); rintro e w13 ⟨he, hb13⟩; rw [H1.out] at he; subst he; have E13 := Lib.hid (E12.out.on hb13); have b13 := hb13; obtain ⟨q0, q1, q2, q3, q4, q5, q6, q7⟩ := HP12.out _ hb13) | (go_at_call 12; (with_reducible refine (hasEd_any u14 _ x4 x5 x6 x7 _ E13.out).mono ?_); rintro e w15 ⟨he, hb15⟩; rw [H2.out] at he; subst he; have b15 := b13.trans (hb15.mono b13.size)))
                            exact ⟨⟨k + 1, true, by omega, by go_num, rfl, Lib.hid (fun _ => rfl), bk12.trans (b15.mono hs12)⟩, by simp [intOf]; omega⟩
                      · have bc0 : (cv == 0) = false := by simpa using hc0
                        have hne : k ≠ k0 := fun e => hc0 (HC0.out e).1
                        go_wp2
                        exact ⟨⟨k + 1, false, by omega, by go_num, rfl, Lib.hid (fun _ => by omega), bk12⟩, by simp [intOf]; omega⟩
                  · have hft : f = true := HFk.out (by omega)
                    subst hft
                    go_wp2
                    exact ⟨⟨i + 1, by omega, by go_num, hbk⟩, by simp [intOf]; omega⟩
              · obtain rfl : i = L.length := by omega
                obtain ⟨bz, Hbz⟩ : ∃ bz, Hid (((L.length : Int) == 0) = bz) := ⟨_, Lib.hid rfl⟩
                have hbz2 : ((VS.length : Int) == 0) = bz := by
                  rw [← Hbz.out, Bool.eq_iff_iff]
                  have := HL2.out
                  simp only [beq_iff_eq]
                  omega
                have hbz := Hbz.out
                go_wp2_with (go_at_call 13; (with_reducible refine (face_spec v rs d _ (V9.out.on hb) HR.out hd80).mono ?_); rintro e w20 ⟨u20, rfl, hP20, hb20⟩; obtain ⟨A20, c20, rfl, -, -, -⟩ := hP20.form; rw [← HL1.out])
                go_ret
                exact ⟨ret_bool (by simp), B9.out.trans ((hb.trans (hb20.mono hb.size)).mono B9.out.size)⟩

end Go.Proofs.YtjiljodchebniaaGreat
