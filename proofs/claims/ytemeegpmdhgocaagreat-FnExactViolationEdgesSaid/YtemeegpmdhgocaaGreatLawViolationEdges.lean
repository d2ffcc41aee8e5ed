/- FnExactViolationEdges returns true for all arguments. No conditions. -/
import Derived.Test.YtemeegpmdhgocaaGreatLawKit
import Derived.Test.YtemeegpmdhgocaaGreatEdKX
import Derived.Test.YtemeegpmdhgocaaGreatCheck
import Derived.Test.YtemeegpmdhgocaaGreatLay
import Derived.Test.YtemeegpmdhgocaaGreatVioA
import Derived.Deep.RegionHeld3
namespace Go.Proofs.YtemeegpmdhgocaaGreat
open Go.RowKit

theorem sqz_len (l : List Ed) : (sqz l).length ≤ l.length := sqTo_len l _
theorem veLst_len (rss : List (List Rc)) (qs : List Ru) (k : Int) (ms : List Rc) : (veLst rss qs k ms).length ≤ 30000 := by
  unfold veLst
  split
  · split
    · rename_i q _
      unfold veL
      refine Nat.le_trans (sqz_len _) ?_
      rw [srtE_len]
      refine Nat.le_trans (List.length_filter_le _ _) ?_
      rw [List.length_append]
      have h1 := bndTo_len (cellsG (layAt rss q.l)) 81
      have h2 := bndTo_len (cellsG (layAt rss q.o)) 81
      split
      · omega
      · rw [List.length_nil]; omega
    · simp
  · simp
set_option maxHeartbeats 400000 in
/-- markViolation. -/
theorem markVio_any (r : Int) (v : Value) (rs : List Rc) (w : World) (B : Nat) (hv : RL w B v rs) (k0 : Int) (h0 : 0 ≤ k0) (h1 : k0 ≤ 10000000) (hn : rs.length ≤ 1048576) :
    Calls Tryz.prog 18 #[.agg #[.int .i64 r, v], .int .i64 k0] w fun e w' => e = .returned (.int .i64 (k0 + 4 * rs.length)) ∧ (w.alloc (.cells #[.int .i64 r, v] 43)).grownBy w' v.ownBlock := by
  have hv0 := RL.alloc hv (.cells #[.int .i64 r, v] 43)
  clear hv
  go_enter Tryz.func18, Tryz.ntmps18
  go_wp2_with fail
  refine (markRectS_any v rs _ B hv0 k0 h0 h1 hn).mono ?_
  rintro e w1 ⟨rfl, -, hg⟩
  go_wp2
  go_ret
  exact ⟨rfl, hg⟩
/-- The arguments, and the boxes of the law. -/
structure LA (w W : World) (A0 : Option Addr) (n0 : Nat) (rss : List (List Rc)) (A1 : Option Addr) (c1 : Nat) (qs : List Ru) (k : Int) (A2 : Option Addr) (c2 : Nat) (ms : List Rc) : Prop where
  dk : Bk W w.heap.size 25 #[.slice A1 qs.length c1]
  vi : Bk W (w.heap.size + 1) 28 #[.int .i64 k, .slice A2 ms.length c2]
  o0 : ArgL w A0 n0 rss
  o1 : ArgQ w A1 qs.length qs
  o2 : ArgR w A2 ms.length ms
  bel : Below w.heap.size w W
section
variable {w W W' : World} {A0 A1 A2 : Option Addr} {n0 c1 c2 : Nat} {rss : List (List Rc)} {qs : List Ru} {k : Int} {ms : List Rc}
theorem LA.low (h : LA w W A0 n0 rss A1 c1 qs k A2 c2 ms) (hb : Below (w.heap.size + 2) W W') : LA w W' A0 n0 rss A1 c1 qs k A2 c2 ms :=
  ⟨h.dk.below hb (by omega), h.vi.below hb (by omega), h.o0, h.o1, h.o2, h.bel.trans (hb.mono (by omega))⟩
theorem LA.on (h : LA w W A0 n0 rss A1 c1 qs k A2 c2 ms) (hb : Below W.heap.size W W') : LA w W' A0 n0 rss A1 c1 qs k A2 c2 ms := h.low (hb.mono h.vi.lt)
theorem LA.drew (h : LA w W A0 n0 rss A1 c1 qs k A2 c2 ms) : LA w W.drew A0 n0 rss A1 c1 qs k A2 c2 ms := h.on (Below.refl _ _).drew
theorem LA.a0 (h : LA w W A0 n0 rss A1 c1 qs k A2 c2 ms) : ArgL W A0 n0 rss := h.o0.on h.bel
theorem LA.a1 (h : LA w W A0 n0 rss A1 c1 qs k A2 c2 ms) : ArgQ W A1 qs.length qs := h.o1.on h.bel
theorem LA.a2 (h : LA w W A0 n0 rss A1 c1 qs k A2 c2 ms) : ArgR W A2 ms.length ms := h.o2.on h.bel
theorem LA.start (c1 c2 : Nat) (k : Int) (h0 : ArgL w A0 n0 rss) (h1 : ArgQ w A1 qs.length qs) (h2 : ArgR w A2 ms.length ms) : LA w ((w.alloc (.cells #[.slice A1 qs.length c1] 25)).alloc (.cells #[.int .i64 k, .slice A2 ms.length c2] 28)) A0 n0 rss A1 c1 qs k A2 c2 ms := by
  have b1 := (Below.refl w.heap.size w).alloc (Nat.le_refl _) (.cells #[.slice A1 qs.length c1] 25)
  refine ⟨(Bk.new w _ _).alloc _, ?_, h0, h1, h2, b1.alloc b1.size _⟩
  have := Bk.new (w.alloc (.cells #[.slice A1 qs.length c1] 25)) 28 #[.int .i64 k, .slice A2 ms.length c2]
  simpa using this
end
theorem Bk.mid {w w' : World} {lo hi g : Nat} {t : TypeId} {cs : Array Value} (h : Bk w g t cs) (hm : Mid lo hi w w') (hg : g < lo ∨ hi ≤ g) : Bk w' g t cs := (hm.block g h.lt hg).trans h
theorem EL.mid {w w' : World} {lo hi B : Nat} {v : Value} {rs : List Ed} (h : EL w B v rs) (hm : Mid lo hi w w') (hv : ∀ g, v.ownBlock = some g → g < lo ∨ hi ≤ g) : EL w' B v rs := hm.own h hv

set_option linter.unusedVariables false
set_option maxHeartbeats 6400000 in
set_option maxRecDepth 100000 in
theorem lawViolationEdges (A0 : Option Addr) (n0 c0 : Nat) (rss : List (List Rc)) (A1 : Option Addr) (n1 c1 : Nat) (qs : List Ru) (k : Int) (A2 : Option Addr) (n2 c2 : Nat) (ms : List Rc) (w : World) (ha0 : ArgL w A0 n0 rss) (hn0 : n0 ≤ c0) (hc0 : c0 ≤ maxLen) (ha1 : ArgQ w A1 n1 qs) (hn1 : n1 ≤ c1) (hc1 : c1 ≤ maxLen) (ha2 : ArgR w A2 n2 ms) (hn2 : n2 ≤ c2) (hc2 : c2 ≤ maxLen) : Calls Tryz.prog 3 #[.slice A0 n0 c0, .agg #[.slice A1 n1 c1], .agg #[.int .i64 k, .slice A2 n2 c2]] w fun e w' => e = .returned (.bool true) ∧ Below w.heap.size w w' := by
  obtain rfl := ha1.len
  obtain rfl := ha2.len
  have Hm0 := hc0
  have Hm1 := hc1
  have Hm2 := hc2
  unfold maxLen at Hm0 Hm1 Hm2
  have HL := Lib.hid (LA.start c1 c2 k ha0 ha1 ha2)
  clear ha0 ha1 ha2
  by_cases hs0 : ((n0 + sizeL rss : Nat) : Int) ≤ 1048576
  case' neg =>
    go_enter Tryz.func3, Tryz.ntmps3
    go_wp2_with fail
    refine (szRss_no A0 n0 c0 rss 1048576 _ HL.out.a0 (by omega) (by omega) (by omega) (Nat.le_trans hn0 hc0)).mono ?_
    rintro e w1 ⟨rfl, hb1⟩
    go_wp2
    go_ret
    exact ⟨rfl, (HL.out.on hb1).bel⟩
  have hle : (1048576 : Int) - n0 - (sizeL rss : Nat) ≤ 1048576 := by omega
  have hge : (0 : Int) ≤ (1048576 : Int) - n0 - (sizeL rss : Nat) := by omega
  by_cases hs1 : (qs.length : Int) ≤ 1048576 - n0 - (sizeL rss : Nat)
  case' neg =>
    go_enter Tryz.func3, Tryz.ntmps3
    go_wp2_with fail
    refine (szRss_yes A0 n0 c0 rss 1048576 _ HL.out.a0 (by omega) (by omega)).mono ?_
    rintro e w1 ⟨rfl, hb1⟩
    replace HL := Lib.hid (HL.out.on hb1)
    clear hb1
    have d0 := box1 HL.out.dk
    generalize (1048576 : Int) - n0 - (sizeL rss : Nat) = m at *
    go_wp2_with fail
    refine (szDeck_no A1 qs.length c1 m _ (by omega) (by omega) (Nat.le_trans hn1 hc1)).mono ?_
    rintro e w2 ⟨rfl, hb2⟩
    clear d0
    go_wp2
    go_ret
    exact ⟨rfl, (HL.out.on hb2).bel⟩
  have hle1 : (1048576 : Int) - n0 - (sizeL rss : Nat) - (qs.length : Int) ≤ 1048576 := by omega
  have hge1 : (0 : Int) ≤ (1048576 : Int) - n0 - (sizeL rss : Nat) - (qs.length : Int) := by omega
  by_cases hs2 : (ms.length : Int) ≤ 1048576 - n0 - (sizeL rss : Nat) - (qs.length : Int)
  case' neg =>
    go_enter Tryz.func3, Tryz.ntmps3
    go_wp2_with fail
    refine (szRss_yes A0 n0 c0 rss 1048576 _ HL.out.a0 (by omega) (by omega)).mono ?_
    rintro e w1 ⟨rfl, hb1⟩
    replace HL := Lib.hid (HL.out.on hb1)
    clear hb1
    have d0 := box1 HL.out.dk
    generalize (1048576 : Int) - n0 - (sizeL rss : Nat) = m at *
    go_wp2_with fail
    refine (szDeck_yes A1 qs.length c1 m _ (by omega) (by omega)).mono ?_
    rintro e w2 ⟨rfl, hb2⟩
    clear d0
    replace HL := Lib.hid (HL.out.on hb2)
    clear hb2
    obtain ⟨d1, d2⟩ := box2 HL.out.vi
    generalize m - (qs.length : Int) = m2 at *
    go_wp2_with fail
    refine (szVio_no k A2 ms.length c2 m2 _ (by omega) (by omega) (Nat.le_trans hn2 hc2)).mono ?_
    rintro e w3 ⟨rfl, hb3⟩
    clear d1 d2
    go_wp2
    go_ret
    exact ⟨rfl, (HL.out.on hb3).bel⟩
  have hl0 : n0 + sizeL rss ≤ 1048576 := by omega
  have hq : qs.length ≤ 1048576 := by omega
  have hq9 : qs.length ≤ 1000000000 := by omega
  have hv : ms.length ≤ 1048576 := by omega
  have hfin : ¬ ((1048576 : Int) - n0 - (sizeL rss : Nat) - (qs.length : Int) - (ms.length : Int) < 0) := by omega
  go_enter Tryz.func3, Tryz.ntmps3
  go_wp2_with fail
  refine (szRss_yes A0 n0 c0 rss 1048576 _ HL.out.a0 (by omega) (by omega)).mono ?_
  rintro e w1 ⟨rfl, hb1⟩
  replace HL := Lib.hid (HL.out.on hb1)
  clear hb1
  have d0 := box1 HL.out.dk
  generalize (1048576 : Int) - n0 - (sizeL rss : Nat) = m at *
  go_wp2_with fail
  refine (szDeck_yes A1 qs.length c1 m _ (by omega) (by omega)).mono ?_
  rintro e w2 ⟨rfl, hb2⟩
  clear d0
  replace HL := Lib.hid (HL.out.on hb2)
  clear hb2
  obtain ⟨d1, d2⟩ := box2 HL.out.vi
  generalize m - (qs.length : Int) = m2 at *
  go_wp2_with fail
  refine (szVio_yes k A2 ms.length c2 m2 _ (by omega) (by omega)).mono ?_
  rintro e w2 ⟨rfl, hb3⟩
  clear d1 d2
  replace HL := Lib.hid (HL.out.on hb3)
  clear hb3 hs0 hs1 hs2 hle hge hle1 hge1 hn0 hn1 hn2 hc0 hc1 hc2 Hm0 Hm1 Hm2
  have HEl := Lib.hid (veLst_len rss qs k ms)
  obtain ⟨E, hE⟩ : ∃ E, veLst rss qs k ms = E := ⟨_, rfl⟩
  obtain ⟨C, hC⟩ : ∃ C, veC rss qs k ms = C := ⟨_, rfl⟩
  have HEC := Lib.hid (And.intro hE hC)
  rw [hE] at HEl
  clear hE hC
  have s2 := Lib.hid (show w.heap.size + 2 ≤ w2.heap.size from HL.out.vi.lt)
  have d0 := box1 HL.out.dk
  obtain ⟨d1, d2⟩ := box2 HL.out.vi
  go_upto_region 11 with fail
  go_cut [8, 9] from 35 to 141 (fun sv tv wx => ∃ u, u = sv ∧ tv = .int .i64 C ∧ EL wx w2.heap.size u E ∧ Below w2.heap.size w2 wx)
  case first =>
    have tc := (Below.refl w2.heap.size w2).drew
    have ll := Lib.hid HL.out.drew
    clear d0 d1 d2 HL 
    go_region_held3 (fun w' => w'.cell? ⟨w.heap.size, 0, none⟩ = some (.slice A1 qs.length c1) ∧ (w'.cell? ⟨w.heap.size + 1, 0, none⟩ = some (.int .i64 k) ∧ w'.cell? ⟨w.heap.size + 1, 1, none⟩ = some (.slice A2 ms.length c2))) (exact ⟨box1 ll.out.dk, box2 ll.out.vi⟩)
      (first | (go_at_call 8; refine (toRss_any A0 n0 c0 rss _ ll.out.a0 hl0).mono ?_; rintro e wp ⟨up, usp, rfl, qp, app, bp⟩; have tc := tc.trans (bp.mono tc.size); have ll := Lib.hid (ll.out.on bp); have pp := qp.less (Nat.zero_le _); (try have qq := QL.on qq bp); (try have rr := RL.on rr bp))
             | (go_at_call 9; refine (toDeck_any A1 qs.length c1 qs _ ll.out.a1 hq).mono ?_; rintro e wq ⟨uq, rfl, qq0, bq⟩; have tc := tc.trans (bq.mono tc.size); have ll := Lib.hid (ll.out.on bq); have qq := qq0.less (Nat.zero_le _); (try have pp := LW.on pp bq); (try have rr := RL.on rr bq))
             | (go_at_call 10; refine (toVio_any k A2 ms.length c2 ms _ ll.out.a2 hv).mono ?_; rintro e wr ⟨ur, rfl, rr0, br⟩; have tc := tc.trans (br.mono tc.size); have ll := Lib.hid (ll.out.on br); have rr := rr0.less (Nat.zero_le _); (try have pp := LW.on pp br); (try have qq := QL.on qq br))
             | (go_at_call 7; refine (ve_spec up uq ur rss qs k ms _ pp.rll qq rr).mono ?_; rintro e ws ⟨uv, rfl, qv, bv⟩; rw [HEC.out.2]; rw [HEC.out.1] at qv; have qv2 := qv.less tc.size; have tc := tc.trans (bv.mono tc.size); have ll := Lib.hid (ll.out.on bv)))
    all_goals
      go_wp2_with fail
      go_meet
      exact ⟨_, rfl, rfl, qv2, tc⟩
  obtain ⟨u_w0, rfl, rfl, q_w0, b_w3⟩ := hcut
  obtain ⟨w3, rfl⟩ : ∃ W : World, W = wc := ⟨_, rfl⟩
  clear d0 d1 d2
  have in_w0 := Lib.hid (own_lt q_w0)
  have r_w0 := Lib.hid (EL.less q_w0 (Nat.zero_le _))
  clear q_w0
  replace HL := Lib.hid (HL.out.on b_w3)
  have s_w3 := Lib.hid b_w3.size
  clear b_w3
  go_wp2_with fail
  refine (toRss_any A0 n0 c0 rss _ HL.out.a0 hl0).mono ?_
  rintro e w4 ⟨u_x0, us_x0, rfl, q_x0, ap_x0, b_w4⟩
  have ap_x0 := Lib.hid ap_x0
  have in_x0 := Lib.hid q_x0.inside
  have r_x0 := Lib.hid (q_x0.less (Nat.zero_le _))
  clear q_x0
  replace HL := Lib.hid (HL.out.on b_w4)
  replace r_w0 := Lib.hid (r_w0.out.on b_w4)
  have s_w4 := Lib.hid b_w4.size
  clear b_w4
  have d0 := box1 HL.out.dk
  go_wp2_with fail
  refine (toDeck_any A1 qs.length c1 qs _ HL.out.a1 hq).mono ?_
  rintro e w5 ⟨uy, rfl, qy, b_w5⟩
  have in_y := Lib.hid (fun g h => (qy.lt g h))
  have r_y := Lib.hid (qy.less (Nat.zero_le _))
  obtain ⟨A5, c5, rfl, -, -⟩ := r_y.out.form
  clear d0 qy
  replace HL := Lib.hid (HL.out.on b_w5)
  replace r_w0 := Lib.hid (r_w0.out.on b_w5)
  replace r_x0 := Lib.hid (r_x0.out.on b_w5)
  have s_w5 := Lib.hid b_w5.size
  clear b_w5
  have x9 := Lib.hid (Bk.new w5 39 #[.slice A5 qs.length c5])
  have b_w6 := (Below.refl w5.heap.size w5).alloc (Nat.le_refl _) (.cells #[.slice A5 qs.length c5] 39)
  have z_w6 := Lib.hid (show (w5.alloc (.cells #[.slice A5 qs.length c5] 39)).heap.size = w5.heap.size + 1 by simp)
  replace HL := Lib.hid (HL.out.on b_w6)
  replace r_w0 := Lib.hid (r_w0.out.on b_w6)
  replace r_x0 := Lib.hid (r_x0.out.on b_w6)
  replace r_y := Lib.hid (r_y.out.on b_w6)
  have s_w6 := Lib.hid b_w6.size
  clear b_w6
  obtain ⟨d1, d2⟩ := box2 HL.out.vi
  go_wp2_with fail
  refine (toVio_any k A2 ms.length c2 ms _ HL.out.a2 hv).mono ?_
  rintro e w7 ⟨uz, rfl, qz, b_w7⟩
  have in_z := Lib.hid (own_lt qz)
  have r_z := Lib.hid (RL.less qz (Nat.zero_le _))
  obtain ⟨A7, c7, rfl, -, -, -⟩ := r_z.out.form
  clear d1 d2 qz
  replace HL := Lib.hid (HL.out.on b_w7)
  replace r_w0 := Lib.hid (r_w0.out.on b_w7)
  replace r_x0 := Lib.hid (r_x0.out.on b_w7)
  replace r_y := Lib.hid (r_y.out.on b_w7)
  replace x9 := Lib.hid (x9.out.on b_w7)
  have s_w7 := Lib.hid b_w7.size
  clear b_w7
  have y9 := Lib.hid (Bk.new w7 43 #[.int .i64 k, .slice A7 ms.length c7])
  have b_w8 := (Below.refl w7.heap.size w7).alloc (Nat.le_refl _) (.cells #[.int .i64 k, .slice A7 ms.length c7] 43)
  have z_w8 := Lib.hid (show (w7.alloc (.cells #[.int .i64 k, .slice A7 ms.length c7] 43)).heap.size = w7.heap.size + 1 by simp)
  replace HL := Lib.hid (HL.out.on b_w8)
  replace r_w0 := Lib.hid (r_w0.out.on b_w8)
  replace r_x0 := Lib.hid (r_x0.out.on b_w8)
  replace r_y := Lib.hid (r_y.out.on b_w8)
  replace x9 := Lib.hid (x9.out.on b_w8)
  replace r_z := Lib.hid (r_z.out.on b_w8)
  have s_w8 := Lib.hid b_w8.size
  clear b_w8
  have f0 := box1 x9.out
  obtain ⟨f1, f2⟩ := box2 y9.out
  go_wp2_with fail
  refine (ve_impl u_x0 _ _ rss qs k ms _ r_x0.out.rll r_y.out r_z.out hq9).mono ?_
  rintro e w9 ⟨u_g0, rfl, q_g0, b_w9⟩
  clear f0 f1 f2
  rw [HEC.out.2]
  rw [HEC.out.1] at q_g0
  have in_g0 := Lib.hid (own_lt q_g0)
  have r_g0 := Lib.hid (EL.less q_g0 (Nat.zero_le _))
  clear q_g0
  replace HL := Lib.hid (HL.out.on b_w9)
  replace r_w0 := Lib.hid (r_w0.out.on b_w9)
  replace r_x0 := Lib.hid (r_x0.out.on b_w9)
  replace r_y := Lib.hid (r_y.out.on b_w9)
  replace x9 := Lib.hid (x9.out.on b_w9)
  replace r_z := Lib.hid (r_z.out.on b_w9)
  replace y9 := Lib.hid (y9.out.on b_w9)
  have s_w9 := Lib.hid b_w9.size
  clear b_w9
  go_wp2_with fail
  refine (eqEdgeS_same u_g0 u_w0 E _ r_g0.out r_w0.out).mono ?_
  rintro e w10 ⟨rfl, b_w10⟩
  replace HL := Lib.hid (HL.out.on b_w10)
  replace r_w0 := Lib.hid (r_w0.out.on b_w10)
  replace r_x0 := Lib.hid (r_x0.out.on b_w10)
  replace r_y := Lib.hid (r_y.out.on b_w10)
  replace x9 := Lib.hid (x9.out.on b_w10)
  replace r_z := Lib.hid (r_z.out.on b_w10)
  replace y9 := Lib.hid (y9.out.on b_w10)
  replace r_g0 := Lib.hid (r_g0.out.on b_w10)
  have s_w10 := Lib.hid b_w10.size
  clear b_w10
  go_wp2_with fail
  refine (toRss_any A0 n0 c0 rss _ HL.out.a0 hl0).mono ?_
  rintro e w11 ⟨u_y0, us_y0, rfl, q_y0, ap_y0, b_w11⟩
  have ap_y0 := Lib.hid ap_y0
  have in_y0 := Lib.hid q_y0.inside
  have r_y0 := Lib.hid (q_y0.less (Nat.zero_le _))
  clear q_y0
  replace HL := Lib.hid (HL.out.on b_w11)
  replace r_w0 := Lib.hid (r_w0.out.on b_w11)
  replace r_x0 := Lib.hid (r_x0.out.on b_w11)
  replace r_y := Lib.hid (r_y.out.on b_w11)
  replace x9 := Lib.hid (x9.out.on b_w11)
  replace r_z := Lib.hid (r_z.out.on b_w11)
  replace y9 := Lib.hid (y9.out.on b_w11)
  replace r_g0 := Lib.hid (r_g0.out.on b_w11)
  have s_w11 := Lib.hid b_w11.size
  clear b_w11
  go_wp2_with fail
  refine (eqRss_same u_x0 u_y0 us_x0 us_y0 rss _ r_x0.out r_y0.out).mono ?_
  rintro e w12 ⟨rfl, b_w12⟩
  replace HL := Lib.hid (HL.out.on b_w12)
  replace r_w0 := Lib.hid (r_w0.out.on b_w12)
  replace r_x0 := Lib.hid (r_x0.out.on b_w12)
  replace r_y := Lib.hid (r_y.out.on b_w12)
  replace x9 := Lib.hid (x9.out.on b_w12)
  replace r_z := Lib.hid (r_z.out.on b_w12)
  replace y9 := Lib.hid (y9.out.on b_w12)
  replace r_g0 := Lib.hid (r_g0.out.on b_w12)
  replace r_y0 := Lib.hid (r_y0.out.on b_w12)
  have s_w12 := Lib.hid b_w12.size
  clear b_w12
  clear r_y0 in_y0 ap_y0
  have f0 := box1 x9.out
  have d0 := box1 HL.out.dk
  have tc := (Below.refl w12.heap.size w12).drew
  have ll := Lib.hid HL.out.drew
  have xx := x9.out.drew
  have uu := QL.on r_y.out tc
  go_wp2
  go_region_held3 (fun w' => w'.cell? ⟨w5.heap.size, 0, none⟩ = some (.slice A5 qs.length c5) ∧ w'.cell? ⟨w.heap.size, 0, none⟩ = some (.slice A1 qs.length c1)) (exact ⟨box1 xx, box1 ll.out.dk⟩)
    (first | (go_at_call 9; refine (toDeck_any A1 qs.length c1 qs _ ll.out.a1 hq).mono ?_; rintro e wa ⟨u9, rfl, hU9, hba⟩; have tc := tc.trans (hba.mono tc.size); have ll := Lib.hid (ll.out.on hba); have xx := xx.on hba; have uu := QL.on uu hba; have vv := hU9.less (Nat.zero_le _))
           | (go_at_call 14; refine (eqDeck_same _ _ qs _ uu vv).mono ?_; rintro e w13 ⟨rfl, hbb⟩; have tc := tc.trans (hbb.mono tc.size); have ll := Lib.hid (ll.out.on hbb); have xx := xx.on hbb))
  clear xx uu vv f0 d0 ll
  have tcc := tc
  clear tc
  replace HL := Lib.hid (HL.out.on tcc)
  replace r_w0 := Lib.hid (r_w0.out.on tcc)
  replace r_x0 := Lib.hid (r_x0.out.on tcc)
  replace r_y := Lib.hid (r_y.out.on tcc)
  replace x9 := Lib.hid (x9.out.on tcc)
  replace r_z := Lib.hid (r_z.out.on tcc)
  replace y9 := Lib.hid (y9.out.on tcc)
  replace r_g0 := Lib.hid (r_g0.out.on tcc)
  have s_w13 := Lib.hid tcc.size
  clear tcc
  obtain ⟨f0, f1⟩ := box2 y9.out
  obtain ⟨d1, d2⟩ := box2 HL.out.vi
  have tc := (Below.refl w13.heap.size w13).drew
  have ll := Lib.hid HL.out.drew
  have xx := y9.out.drew
  have uu := RL.on r_z.out tc
  go_wp2
  go_region_held3 (fun w' => (w'.cell? ⟨w7.heap.size, 0, none⟩ = some (.int .i64 k) ∧ w'.cell? ⟨w7.heap.size, 1, none⟩ = some (.slice A7 ms.length c7)) ∧ (w'.cell? ⟨w.heap.size + 1, 0, none⟩ = some (.int .i64 k) ∧ w'.cell? ⟨w.heap.size + 1, 1, none⟩ = some (.slice A2 ms.length c2))) (exact ⟨box2 xx, box2 ll.out.vi⟩)
    (first | (go_at_call 10; refine (toVio_any k A2 ms.length c2 ms _ ll.out.a2 hv).mono ?_; rintro e wa ⟨u9, rfl, hU9, hba⟩; have tc := tc.trans (hba.mono tc.size); have ll := Lib.hid (ll.out.on hba); have xx := xx.on hba; have uu := RL.on uu hba; have vv := hU9.less (Nat.zero_le _))
           | (go_at_call 15; refine (eqVio_same k _ _ ms _ uu vv).mono ?_; rintro e w14 ⟨rfl, hbb⟩; have tc := tc.trans (hbb.mono tc.size); have ll := Lib.hid (ll.out.on hbb); have xx := xx.on hbb))
  clear xx uu vv f0 f1 d1 d2 ll
  have tcc := tc
  clear tc
  replace HL := Lib.hid (HL.out.on tcc)
  replace r_w0 := Lib.hid (r_w0.out.on tcc)
  replace r_x0 := Lib.hid (r_x0.out.on tcc)
  replace r_y := Lib.hid (r_y.out.on tcc)
  replace x9 := Lib.hid (x9.out.on tcc)
  replace r_z := Lib.hid (r_z.out.on tcc)
  replace y9 := Lib.hid (y9.out.on tcc)
  replace r_g0 := Lib.hid (r_g0.out.on tcc)
  have s_w14 := Lib.hid tcc.size
  clear tcc
  have hlr : rss.length + sizeL rss ≤ 1048576 := by have := HL.out.a0.len; omega
  have SZ := Lib.hid (show w.heap.size + 2 ≤ w2.heap.size ∧ w2.heap.size ≤ w3.heap.size ∧ w3.heap.size ≤ w4.heap.size ∧ w4.heap.size ≤ w5.heap.size ∧ w5.heap.size + 1 ≤ w7.heap.size ∧ w7.heap.size + 1 ≤ w9.heap.size ∧ w9.heap.size ≤ w14.heap.size by have q0 := s2.out; have q1 := s_w3.out; have q2 := s_w4.out; have q3 := s_w5.out; have q4 := s_w6.out; have q5 := s_w7.out; have q6 := s_w8.out; have q7 := s_w9.out; have q8 := z_w6.out; have q9 := z_w8.out; have q10 := s_w10.out; have q11 := s_w11.out; have q12 := s_w12.out; have q13 := s_w13.out; have q14 := s_w14.out; omega)
  have S6 := Lib.hid (show ∀ g : Nat, w5.heap.size + 1 ≤ g → (w5.alloc (.cells #[.slice A5 qs.length c5] 39)).heap.size ≤ g by intro g h; rw [z_w6.out]; exact h)
  have IW := Lib.hid (show ∀ g, u_w0.ownBlock = some g → w2.heap.size ≤ g ∧ g < w3.heap.size from in_w0.out)
  have IY := Lib.hid (show ∀ g, (Value.slice A5 qs.length c5).ownBlock = some g → w4.heap.size ≤ g ∧ g < w5.heap.size from in_y.out)
  have IZ := Lib.hid (show ∀ g, (Value.slice A7 ms.length c7).ownBlock = some g → w5.heap.size + 1 ≤ g ∧ g < w7.heap.size from fun g h => by have := in_z.out g h; rw [z_w6.out] at this; exact this)
  have IG := Lib.hid (show ∀ g, u_g0.ownBlock = some g → w7.heap.size + 1 ≤ g ∧ g < w9.heap.size from fun g h => by have := in_g0.out g h; rw [z_w8.out] at this; exact this)
  go_wp2_with fail
  refine (markRss_any u_x0 us_x0 rss _ 0 r_x0.out ap_x0.out _ _ in_x0.out _ (by omega) (by omega) hlr).mono ?_
  rintro e w15 ⟨rfl, g_15⟩
  replace r_w0 := Lib.hid (EL.mid r_w0.out g_15 (fun g h => by have := IW.out g h; have q := SZ.out; omega))
  replace r_g0 := Lib.hid (EL.mid r_g0.out g_15 (fun g h => by have := IG.out g h; have q := SZ.out; omega))
  replace r_y := Lib.hid (show QL w15 0 _ qs from g_15.own r_y.out (fun g h => by have := IY.out g h; have q := SZ.out; omega))
  replace r_z := Lib.hid (show RL w15 0 _ ms from g_15.own r_z.out (fun g h => by have := IZ.out g h; have q := SZ.out; omega))
  replace x9 := Lib.hid (x9.out.mid g_15 (by have q := SZ.out; omega))
  replace y9 := Lib.hid (y9.out.mid g_15 (by have q := SZ.out; omega))
  replace HL := Lib.hid (HL.out.low (g_15.below (by have q := SZ.out; omega) HL.out.vi.lt))
  have s_w15 := Lib.hid g_15.size
  clear g_15 r_x0 in_x0 ap_x0
  have f0 := box1 x9.out
  go_wp2_with fail
  refine (markDeck_any _ qs _ 0 r_y.out _ (by omega) (by omega) hq).mono ?_
  rintro e w16 ⟨rfl, gg⟩
  have g_16 : Mid w4.heap.size w5.heap.size w15 w16 := (Mid.of_below ((Below.refl _ _).alloc (Nat.le_refl _) _)).trans (Mid.of_grown gg (fun g h => IY.out g h))
  clear gg f0
  replace r_w0 := Lib.hid (EL.mid r_w0.out g_16 (fun g h => by have := IW.out g h; have q := SZ.out; omega))
  replace r_g0 := Lib.hid (EL.mid r_g0.out g_16 (fun g h => by have := IG.out g h; have q := SZ.out; omega))
  replace r_z := Lib.hid (show RL w16 0 _ ms from g_16.own r_z.out (fun g h => by have := IZ.out g h; have q := SZ.out; omega))
  replace y9 := Lib.hid (y9.out.mid g_16 (by have q := SZ.out; omega))
  replace HL := Lib.hid (HL.out.low (g_16.below (by have q := SZ.out; omega) HL.out.vi.lt))
  clear g_16 r_y x9
  obtain ⟨f0, f1⟩ := box2 y9.out
  go_wp2_with fail
  refine (markVio_any k _ ms _ 0 r_z.out _ (by omega) (by omega) hv).mono ?_
  rintro e w17 ⟨rfl, gg⟩
  have g_17 : Mid (w5.heap.size + 1) w7.heap.size w16 w17 := (Mid.of_below ((Below.refl _ _).alloc (Nat.le_refl _) _)).trans (Mid.of_grown gg (fun g h => IZ.out g h))
  clear gg f0 f1
  replace r_w0 := Lib.hid (EL.mid r_w0.out g_17 (fun g h => by have := IW.out g h; have q := SZ.out; omega))
  replace r_g0 := Lib.hid (EL.mid r_g0.out g_17 (fun g h => by have := IG.out g h; have q := SZ.out; omega))
  replace HL := Lib.hid (HL.out.low (g_17.below (by have q := SZ.out; omega) HL.out.vi.lt))
  clear g_17 r_z y9
  have hend : ¬ ((1 : Int) + 4 * (sizeL rss : Nat) + 5 * (qs.length : Nat) + 4 * (ms.length : Nat) < 0) := by omega
  go_wp2_with fail
  refine (eqEdgeS_same u_g0 u_w0 E _ r_g0.out r_w0.out).mono ?_
  rintro e w18 ⟨rfl, b_w18⟩
  replace HL := Lib.hid (HL.out.on b_w18)
  replace r_w0 := Lib.hid (r_w0.out.on b_w18)
  replace r_g0 := Lib.hid (r_g0.out.on b_w18)
  have s_w18 := Lib.hid b_w18.size
  clear b_w18
  clear hend
  have hEl := HEl.out
  go_wp2_with fail
  refine (markEdgeS_any u_g0 E _ 0 r_g0.out _ (by omega) (by omega) (by omega)).mono ?_
  rintro e w19 ⟨rfl, m_g0, gg⟩
  have g_19 : Mid (w7.heap.size + 1) w9.heap.size w18 w19 := Mid.of_grown gg (fun g h => IG.out g h)
  clear gg
  replace r_w0 := Lib.hid (EL.mid r_w0.out g_19 (fun g h => by have := IW.out g h; have q := SZ.out; omega))
  replace HL := Lib.hid (HL.out.low (g_19.below (by have q := SZ.out; omega) HL.out.vi.lt))
  replace m_g0 := Lib.hid m_g0
  clear g_19 r_g0
  have hend2 : ¬ ((1 : Int) + 4 * (E.length : Nat) < 0) := by omega
  go_wp2_with fail
  refine (heldEdgeS_any u_g0 E.length _ 1 m_g0.out (by omega) (by omega) (by omega)).mono ?_
  rintro e _ ⟨rfl, rfl⟩
  have d0 := box1 HL.out.dk
  obtain ⟨d1, d2⟩ := box2 HL.out.vi
  go_upto_region 38 with fail
  go_cut [18, 19] from 115 to 141 (fun sv tv wx => ∃ u, u = sv ∧ tv = .int .i64 C ∧ EL wx w19.heap.size u E ∧ Below w19.heap.size w19 wx)
  case first =>
    have tc := (Below.refl w19.heap.size w19).drew
    have ll := Lib.hid HL.out.drew
    clear d0 d1 d2 HL r_w0 m_g0
    go_region_held3 (fun w' => w'.cell? ⟨w.heap.size, 0, none⟩ = some (.slice A1 qs.length c1) ∧ (w'.cell? ⟨w.heap.size + 1, 0, none⟩ = some (.int .i64 k) ∧ w'.cell? ⟨w.heap.size + 1, 1, none⟩ = some (.slice A2 ms.length c2))) (exact ⟨box1 ll.out.dk, box2 ll.out.vi⟩)
      (first | (go_at_call 8; refine (toRss_any A0 n0 c0 rss _ ll.out.a0 hl0).mono ?_; rintro e wp ⟨up, usp, rfl, qp, app, bp⟩; have tc := tc.trans (bp.mono tc.size); have ll := Lib.hid (ll.out.on bp); have pp := qp.less (Nat.zero_le _); (try have qq := QL.on qq bp); (try have rr := RL.on rr bp))
             | (go_at_call 9; refine (toDeck_any A1 qs.length c1 qs _ ll.out.a1 hq).mono ?_; rintro e wq ⟨uq, rfl, qq0, bq⟩; have tc := tc.trans (bq.mono tc.size); have ll := Lib.hid (ll.out.on bq); have qq := qq0.less (Nat.zero_le _); (try have pp := LW.on pp bq); (try have rr := RL.on rr bq))
             | (go_at_call 10; refine (toVio_any k A2 ms.length c2 ms _ ll.out.a2 hv).mono ?_; rintro e wr ⟨ur, rfl, rr0, br⟩; have tc := tc.trans (br.mono tc.size); have ll := Lib.hid (ll.out.on br); have rr := rr0.less (Nat.zero_le _); (try have pp := LW.on pp br); (try have qq := QL.on qq br))
             | (go_at_call 11; refine (ve_impl up uq ur rss qs k ms _ pp.rll qq rr hq9).mono ?_; rintro e ws ⟨uv, rfl, qv, bv⟩; rw [HEC.out.2]; rw [HEC.out.1] at qv; have qv2 := qv.less tc.size; have tc := tc.trans (bv.mono tc.size); have ll := Lib.hid (ll.out.on bv)))
    all_goals
      go_wp2_with fail
      go_meet
      exact ⟨_, rfl, rfl, qv2, tc⟩
  obtain ⟨u_h0, rfl, rfl, q_h0, b_w20⟩ := hcut
  obtain ⟨w20, rfl⟩ : ∃ W : World, W = wc := ⟨_, rfl⟩
  clear d0 d1 d2
  have in_h0 := Lib.hid (own_lt q_h0)
  have r_h0 := Lib.hid (EL.less q_h0 (Nat.zero_le _))
  clear q_h0
  replace HL := Lib.hid (HL.out.on b_w20)
  replace r_w0 := Lib.hid (r_w0.out.on b_w20)
  replace m_g0 := Lib.hid (m_g0.out.on b_w20)
  have s_w20 := Lib.hid b_w20.size
  clear b_w20
  go_wp2_with fail
  refine (eqEdgeS_same u_h0 u_w0 E _ r_h0.out r_w0.out).mono ?_
  rintro e w21 ⟨rfl, b_w21⟩
  replace HL := Lib.hid (HL.out.on b_w21)
  replace r_w0 := Lib.hid (r_w0.out.on b_w21)
  replace m_g0 := Lib.hid (m_g0.out.on b_w21)
  replace r_h0 := Lib.hid (r_h0.out.on b_w21)
  have s_w21 := Lib.hid b_w21.size
  clear b_w21
  go_wp2_with fail
  refine (heldEdgeS_any u_g0 E.length _ 1 m_g0.out (by omega) (by omega) (by omega)).mono ?_
  rintro e _ ⟨rfl, rfl⟩
  go_wp2
  go_ret
  exact ⟨rfl, HL.out.bel⟩

end Go.Proofs.YtemeegpmdhgocaaGreat
