/- Contract: the program's gapsBetween. No conditions. -/
import Derived.Test.YtjiljodchebniaaGreatQ34
import Derived.Test.YtjiljodchebniaaGreatQ25

namespace Go.Proofs.YtjiljodchebniaaGreat
open Go.RowKit

/-- What has been listed before round n. -/
def partB (A B : Gr) : Nat → List Rc
  | 0 => []
  | 1 => btwG A B false
  | _ => allBtw A B
theorem OutB.lo {w : World} {B N M : Nat} {v : Value} {rs : List Rc} (h : RL w B v rs) (hN : N = w.heap.size) : OutB v N M := fun g hg => .inl (by rw [hN]; exact (own_lt h g hg).2)
theorem GB.keptR {w w' : World} {g : Nat} {t e : TypeId} {G : Gr} {B s n : Nat} {v : Value} {xs : List Value} (h : GB w g t G) (ho : w.ownsRow B e s v n xs) (hne : t ≠ e) (hg : w.grownBy w' v.ownBlock) : GB w' g t G := by
  obtain ⟨cs, hb, hr⟩ := h
  exact ⟨cs, hb.grown hg (hb.apart' ho hne), hr⟩
theorem GB.neB {w : World} {g b : Nat} {t e : TypeId} {G : Gr} {cs : Array Value} (h : GB w g t G) (hb : Bk w b e cs) (hne : t ≠ e) : g ≠ b := by
  obtain ⟨cs', hk, _⟩ := h
  rintro rfl
  unfold Bk at hk hb
  rw [hk] at hb
  simp at hb
  exact hne hb.2
theorem Bk.neB {w : World} {g b : Nat} {t e : TypeId} {cs cs' : Array Value} (h : Bk w g t cs) (hb : Bk w b e cs') (hne : t ≠ e) : g ≠ b := by
  rintro rfl
  unfold Bk at h hb
  rw [h] at hb
  simp at hb
  exact hne hb.2
theorem GB.other2 {w : World} {g b : Nat} {t : TypeId} {G : Gr} (h : GB w g t G) (hne : g ≠ b) (x0 x1 : Value) : GB ((w.setCell ⟨b, 0, none⟩ x0).setCell ⟨b, 1, none⟩ x1) g t G := (h.other (p := ⟨b, 0, none⟩) hne x0).other (p := ⟨b, 1, none⟩) hne x1
theorem RL.other2 {w : World} {B b : Nat} {v : Value} {rs : List Rc} (h : RL w B v rs) (hne : some b ≠ v.ownBlock) (x0 x1 : Value) : RL ((w.setCell ⟨b, 0, none⟩ x0).setCell ⟨b, 1, none⟩ x1) B v rs := own_other (own_other h (p := ⟨b, 0, none⟩) (fun e => hne e.symm) x0) (p := ⟨b, 1, none⟩) (fun e => hne e.symm) x1
theorem Src.other2 {w : World} {N M b : Nat} {v : Value} {rs : List Rc} (h : Src w N M v rs) (hne : some b ≠ v.ownBlock) (x0 x1 : Value) : Src ((w.setCell ⟨b, 0, none⟩ x0).setCell ⟨b, 1, none⟩ x1) N M v rs := ⟨h.row.other2 hne x0 x1, h.hi⟩
theorem size2 (w : World) (b : Nat) (x0 x1 : Value) (b' : Nat) (x2 x3 : Value) : w.heap.size ≤ ((((w.setCell ⟨b, 0, none⟩ x0).setCell ⟨b, 1, none⟩ x1).setCell ⟨b', 0, none⟩ x2).setCell ⟨b', 1, none⟩ x3).drew.heap.size := by
  show w.heap.size ≤ ((((w.setCell ⟨b, 0, none⟩ x0).setCell ⟨b, 1, none⟩ x1).setCell ⟨b', 0, none⟩ x2).setCell ⟨b', 1, none⟩ x3).heap.size
  simp

set_option maxHeartbeats 12800000 in
set_option maxRecDepth 100000 in
/-- gapsBetween. -/
theorem gapsBetween_any (v u : Value) (rs qs : List Rc) (w : World) (hv : RL w 0 v rs) (hu : RL w 0 u qs) : Calls Tryz.prog 115 #[v, u] w fun e w' => ∃ z, e = .returned z ∧ RL w' w.heap.size z (allBtw (cellsG rs) (cellsG qs)) ∧ Below w.heap.size w w' := by
  go_enter Tryz.func115, Tryz.ntmps115
  go_wp2_with fail
  refine (cellsOf_any v rs _ hv).mono ?_
  rintro e w1 ⟨gx, rfl, hgx, hX, hb1⟩
  have t := hb1
  replace hv := hv.on hb1
  replace hu := hu.on hb1
  clear hb1
  go_wp2_with fail
  refine (cellsOf_any u qs _ hu).mono ?_
  rintro e w2 ⟨gy, rfl, hgy, hY, hb2⟩
  replace hX := (hX.on hb2).alloc (.cells #[] 75)
  replace t := t.trans (hb2.mono t.size)
  have hsz2 := t.size
  have r0 : RL (w2.alloc (.cells #[] 75)) w.heap.size (.slice (some ⟨w2.heap.size, 0, none⟩) 0 0) [] := row_empty w2 _ _ rfl t.size
  replace t := t.alloc t.size (.cells #[] 75)
  replace hv := RL.alloc (hv.on hb2) (.cells #[] 75)
  replace hu := RL.alloc (hu.on hb2) (.cells #[] 75)
  replace hY := hY.alloc (.cells #[] 75)
  clear hb2
  have hxl := hX.lt
  have hyl := hY.lt
  go_wp2_with fail
  refine (cellsOf_any v rs _ hv).mono ?_
  rintro e w3 ⟨gz, rfl, hgz, hZ, hb3⟩
  replace hX := hX.on hb3
  replace hY := hY.on hb3
  replace hu := hu.on hb3
  replace r0 := r0.on hb3
  have hgzw : w.heap.size ≤ gz := Nat.le_trans t.size hgz
  replace t := t.trans (hb3.mono t.size)
  have hxz : gx ≠ gz := Nat.ne_of_lt (Nat.lt_of_lt_of_le hxl hgz)
  have hyz : gy ≠ gz := Nat.ne_of_lt (Nat.lt_of_lt_of_le hyl hgz)
  clear hb3 hv hxl hyl hgz
  obtain ⟨Au, cu, rfl, hcu, hmu, -⟩ := hu.form
  have hmu' : qs.length ≤ 9223372036854775807 := by unfold maxLen at hmu; omega
  go_wp2
  go_loopw [26] (fun jv wr => ∃ j : Nat, j ≤ qs.length ∧ jv = .int .i64 j ∧ GB wr gz 89 (cellsG (rs ++ qs.take j)) ∧ GB wr gx 89 (cellsG rs) ∧ GB wr gy 89 (cellsG qs) ∧ RL wr 0 (.slice Au qs.length cu) qs ∧ RL wr w.heap.size (.slice (some ⟨w2.heap.size, 0, none⟩) 0 0) [] ∧ Below w.heap.size w wr) (fun jv _ => qs.length - (intOf jv).toNat)
  case atStart => exact ⟨0, Nat.zero_le _, rfl, by rw [List.take_zero, List.append_nil]; exact hZ, hX, hY, hu, r0, t⟩
  case round =>
    obtain ⟨j, hj, rfl, hZ1, hX1, hY1, hu1, hr1, hb1⟩ := hrel
    clear hZ hX hY hu r0 t
    by_cases hltj : j < qs.length
    · obtain ⟨g', x0, y0, x1, y1, rfl, hr, hg', e0, e1, e2, e3⟩ := hu1.elem hltj
      have Hr := Lib.hid (cells_more (qs := rs) hr)
      clear hr
      have zA := hZ1.alloc (.cells #[.int .i64 x0, .int .i64 y0, .int .i64 x1, .int .i64 y1] 75)
      have tA := hb1.alloc hb1.size (.cells #[.int .i64 x0, .int .i64 y0, .int .i64 x1, .int .i64 y1] 75)
      have uA := RL.alloc hu1 (.cells #[.int .i64 x0, .int .i64 y0, .int .i64 x1, .int .i64 y1] 75)
      have rA := RL.alloc hr1 (.cells #[.int .i64 x0, .int .i64 y0, .int .i64 x1, .int .i64 y1] 75)
      have xA := hX1.alloc (.cells #[.int .i64 x0, .int .i64 y0, .int .i64 x1, .int .i64 y1] 75)
      have yA := hY1.alloc (.cells #[.int .i64 x0, .int .i64 y0, .int .i64 x1, .int .i64 y1] 75)
      go_wp2_with fail
      refine (put_any _ _ ⟨x0, y0, x1, y1⟩ _ zA).mono ?_
      rintro e w5 ⟨rfl, hG5, hO5⟩
      go_wp2
      exact ⟨⟨j + 1, by omega, by go_num, hG5.cong Hr.out, xA.grown hO5 (by simpa using hxz), yA.grown hO5 (by simpa using hyz), uA.put_other zA hO5, rA.put_other zA hO5, only_far tA hO5 tA.size hgzw⟩, by simp [intOf]; omega⟩
    · have hje : j = qs.length := by omega
      rw [hje, List.take_length, cellsG_append] at hZ1
      clear hje hu1
      have hX := hX1.alloc (.cells #[.bool false, .bool true] 4)
      have hY := hY1.alloc (.cells #[.bool false, .bool true] 4)
      have hZ := hZ1.alloc (.cells #[.bool false, .bool true] 4)
      have hR := RL.alloc hr1 (.cells #[.bool false, .bool true] 4)
      have hb := hb1.alloc hb1.size (.cells #[.bool false, .bool true] 4)
      have hBL := Bk.new wr 4 #[.bool false, .bool true]
      obtain ⟨bl, hbl⟩ : ∃ n, n = wr.heap.size := ⟨_, rfl⟩
      rw [← hbl] at hBL
      clear hX1 hY1 hZ1 hr1 hb1
      go_wp2
      rw [← hbl]
      clear hbl
      go_loopw [7, 36] (fun ov iv wr => ∃ (n : Nat) (ps : List Rc), n ≤ 2 ∧ iv = .int .i64 n ∧ RL wr w.heap.size ov ps ∧ Hid (ps = partB (cellsG rs) (cellsG qs) n) ∧ GB wr gx 89 (cellsG rs) ∧ GB wr gy 89 (cellsG qs) ∧ GB wr gz 89 (unionG (cellsG rs) (cellsG qs)) ∧ Bk wr bl 4 #[.bool false, .bool true] ∧ Below w.heap.size w wr) (fun _ iv _ => 2 - (intOf iv).toNat)
      case atStart => exact ⟨0, [], by omega, rfl, hR, Lib.hid rfl, hX, hY, hZ, hBL, hb⟩
      case round =>
        obtain ⟨n, ps, hn, rfl, hR1, hps, hX1, hY1, hZ1, hBL1, hb1⟩ := hrel
        clear hR hX hY hZ hBL hb
        have hR := hR1
        have hX := hX1
        have hY := hY1
        have hZ := hZ1
        have hBL := hBL1
        have hb := hb1
        clear hR1 hX1 hY1 hZ1 hBL1 hb1
        by_cases hn0 : n = 0
        · subst hn0
          obtain ⟨f1, f2⟩ := box2 hBL
          obtain ⟨N1, hN1⟩ : ∃ n, n = wr.heap.size := ⟨_, rfl⟩
          have ho0 := fun M => OutB.lo (M := M) hR hN1
          go_wp2_with fail
          refine (gapsOf_any gz false _ _ hZ).mono ?_
          rintro e w5 ⟨u5, rfl, hU, hb5⟩
          rw [← hN1] at hU
          have hS := Src.of hU
          obtain ⟨A5, c5, rfl, hc5, hm5, -⟩ := hU.form
          clear hU f1 f2
          have hl5 := gapsG_length (unionG (cellsG rs) (cellsG qs)) false
          have Hok5 := Lib.hid (gapsG_ok (unionG (cellsG rs) (cellsG qs)) false)
          have hm5' : (gapsG (unionG (cellsG rs) (cellsG qs)) false).length ≤ 9223372036854775807 := by omega
          have Hlen5 := Lib.hid hl5
          clear hl5
          replace hX := hX.on hb5
          replace hY := hY.on hb5
          replace hZ := hZ.on hb5
          replace hBL := hBL.on hb5
          replace hR := hR.on hb5
          replace hb := hb.trans (hb5.mono hb.size)
          clear hb5 hN1
          have hs5 := hb.size
          go_wp2
          go_loopw [7, 44] (fun ov2 iv2 wi => ∃ (k : Nat) (ps2 : List Rc), k ≤ (gapsG (unionG (cellsG rs) (cellsG qs)) false).length ∧ iv2 = .int .i64 k ∧ RL wi w.heap.size ov2 ps2 ∧ Hid (ps2 = [] ++ ((gapsG (unionG (cellsG rs) (cellsG qs)) false).take k).filter (endsG (cellsG rs) (cellsG qs) false)) ∧ OutB ov2 N1 w5.heap.size ∧ Src wi N1 w5.heap.size (.slice A5 (gapsG (unionG (cellsG rs) (cellsG qs)) false).length c5) (gapsG (unionG (cellsG rs) (cellsG qs)) false) ∧ GB wi gx 89 (cellsG rs) ∧ GB wi gy 89 (cellsG qs) ∧ GB wi gz 89 (unionG (cellsG rs) (cellsG qs)) ∧ Bk wi bl 4 #[.bool false, .bool true] ∧ w5.heap.size ≤ wi.heap.size ∧ Below w.heap.size w wi) (fun _ iv2 _ => (gapsG (unionG (cellsG rs) (cellsG qs)) false).length - (intOf iv2).toNat)
          case atStart => exact ⟨0, ps, Nat.zero_le _, rfl, hR, Lib.hid (by rw [hps.out]; simp [partB]), ho0 _, hS, hX, hY, hZ, hBL, Nat.le_refl _, hb⟩
          case round =>
            obtain ⟨k, ps2, hk, rfl, hR2, hps2, ho, hS2, hX2, hY2, hZ2, hBL2, hsz, hb2⟩ := hrel
            clear hR ho0 hS hX hY hZ hBL hb
            by_cases hlt : k < (gapsG (unionG (cellsG rs) (cellsG qs)) false).length
            · obtain ⟨g', x0, y0, x1, y1, rfl, hr, hg, f0, f1, f2, f3⟩ := hS2.elem hlt
              have hrok := (okRc_iff _).1 (okAll_get Hok5.out hr)
              dsimp only at hrok
              have hl3 : ps2.length ≤ 1000000 := by
                rw [hps2.out, List.length_append]
                have h1 := filter_len (p := endsG (cellsG rs) (cellsG qs) false) k Hlen5.out
                have h2 : ([] : List Rc).length ≤ 6400 := by simp
                omega
              have tA := hb2.alloc hb2.size (.cells #[.int .i64 x0, .int .i64 y0, .int .i64 x1, .int .i64 y1] 75)
              have rA := RL.alloc hR2 (.cells #[.int .i64 x0, .int .i64 y0, .int .i64 x1, .int .i64 y1] 75)
              have sA := hS2.alloc (.cells #[.int .i64 x0, .int .i64 y0, .int .i64 x1, .int .i64 y1] 75)
              have xA := hX2.alloc (.cells #[.int .i64 x0, .int .i64 y0, .int .i64 x1, .int .i64 y1] 75)
              have yA := hY2.alloc (.cells #[.int .i64 x0, .int .i64 y0, .int .i64 x1, .int .i64 y1] 75)
              have zA := hZ2.alloc (.cells #[.int .i64 x0, .int .i64 y0, .int .i64 x1, .int .i64 y1] 75)
              have lA := hBL2.alloc (.cells #[.int .i64 x0, .int .i64 y0, .int .i64 x1, .int .i64 y1] 75)
              have bA := Bk.new wr 75 #[.int .i64 x0, .int .i64 y0, .int .i64 x1, .int .i64 y1]
              have HsA := Lib.hid (show (wr.alloc (.cells #[.int .i64 x0, .int .i64 y0, .int .i64 x1, .int .i64 y1] 75)).heap.size = wr.heap.size + 1 by simp)
              have Hr := Lib.hid hr
              obtain ⟨d0, d1, d2, d3⟩ := box4 bA
              clear hr hR2 hS2 hX2 hY2 hZ2 hBL2
              replace rA := Lib.hid rA
              replace sA := Lib.hid sA
              replace xA := Lib.hid xA
              replace yA := Lib.hid yA
              replace zA := Lib.hid zA
              replace lA := Lib.hid lA
              replace tA := Lib.hid tA
              replace bA := Lib.hid bA
              have hw1 := Go.IntWalk.i64_in (x0 - 1) (by omega)
              have hw2 := Go.IntWalk.i64_in (y0 - 1) (by omega)
              clear hg
              go_wp2
              clear f0 f1 f2 f3
              go_region_held3 (fun w' => w'.cell? ⟨wr.heap.size, 0, none⟩ = some (.int .i64 x0) ∧ w'.cell? ⟨wr.heap.size, 1, none⟩ = some (.int .i64 y0) ∧ w'.cell? ⟨wr.heap.size, 2, none⟩ = some (.int .i64 x1) ∧ w'.cell? ⟨wr.heap.size, 3, none⟩ = some (.int .i64 y1)) (first | with_reducible exact box4 bA.out.drew | with_reducible exact box4 (bA.out.alloc _).drew | with_reducible exact box4 ((bA.out.alloc _).alloc _).drew | go_keep) (fail)
              replace rA := rA.out
              replace sA := sA.out
              replace xA := xA.out
              replace yA := yA.out
              replace zA := zA.out
              replace lA := lA.out
              replace tA := tA.out
              replace bA := bA.out
              have c1 := (Bk.new (wr.alloc (.cells #[.int .i64 x0, .int .i64 y0, .int .i64 x1, .int .i64 y1] 75)) 93 #[.int .i64 (x0 - 1), .int .i64 y0]).alloc (.cells #[.int .i64 x1, .int .i64 y0] 93)
              have c2 := Bk.new ((wr.alloc (.cells #[.int .i64 x0, .int .i64 y0, .int .i64 x1, .int .i64 y1] 75)).alloc (.cells #[.int .i64 (x0 - 1), .int .i64 y0] 93)) 93 #[.int .i64 x1, .int .i64 y0]
              have e2 : ((wr.alloc (.cells #[.int .i64 x0, .int .i64 y0, .int .i64 x1, .int .i64 y1] 75)).alloc (.cells #[.int .i64 (x0 - 1), .int .i64 y0] 93)).heap.size = wr.heap.size + 1 + 1 := by simp
              rw [HsA.out] at c1
              rw [e2] at c2
              clear e2
              have cp := c1.drew
              have cq := c2.drew
              clear c1 c2
              have tB := ((tA.alloc tA.size (.cells #[.int .i64 (x0 - 1), .int .i64 y0] 93)).alloc (by have := tA.size; have := HsA.out; simp; omega) (.cells #[.int .i64 x1, .int .i64 y0] 93)).drew
              replace rA := (RL.alloc (RL.alloc rA (.cells #[.int .i64 (x0 - 1), .int .i64 y0] 93)) (.cells #[.int .i64 x1, .int .i64 y0] 93)).on ((Below.refl _ _).drew)
              replace sA := ((sA.alloc (.cells #[.int .i64 (x0 - 1), .int .i64 y0] 93)).alloc (.cells #[.int .i64 x1, .int .i64 y0] 93)).on ((Below.refl _ _).drew)
              replace xA := ((xA.alloc (.cells #[.int .i64 (x0 - 1), .int .i64 y0] 93)).alloc (.cells #[.int .i64 x1, .int .i64 y0] 93)).drew
              replace yA := ((yA.alloc (.cells #[.int .i64 (x0 - 1), .int .i64 y0] 93)).alloc (.cells #[.int .i64 x1, .int .i64 y0] 93)).drew
              replace zA := ((zA.alloc (.cells #[.int .i64 (x0 - 1), .int .i64 y0] 93)).alloc (.cells #[.int .i64 x1, .int .i64 y0] 93)).drew
              replace lA := ((lA.alloc (.cells #[.int .i64 (x0 - 1), .int .i64 y0] 93)).alloc (.cells #[.int .i64 x1, .int .i64 y0] 93)).drew
              replace bA := ((bA.alloc (.cells #[.int .i64 (x0 - 1), .int .i64 y0] 93)).alloc (.cells #[.int .i64 x1, .int .i64 y0] 93)).drew
              have hszB : w5.heap.size ≤ (((wr.alloc (.cells #[.int .i64 x0, .int .i64 y0, .int .i64 x1, .int .i64 y1] 75)).alloc (.cells #[.int .i64 (x0 - 1), .int .i64 y0] 93)).alloc (.cells #[.int .i64 x1, .int .i64 y0] 93)).drew.heap.size := by
                show w5.heap.size ≤ (((wr.alloc (.cells #[.int .i64 x0, .int .i64 y0, .int .i64 x1, .int .i64 y1] 75)).alloc (.cells #[.int .i64 (x0 - 1), .int .i64 y0] 93)).alloc (.cells #[.int .i64 x1, .int .i64 y0] 93)).heap.size
                simp
                omega
              have hs0 : w.heap.size ≤ w5.heap.size ∧ w5.heap.size ≤ wr.heap.size := by omega
              revert cp cq tB rA sA xA yA zA lA bA hszB
              generalize World.drew _ = wz
              have hne : wr.heap.size + 1 ≠ wr.heap.size + 1 + 1 ∧ wr.heap.size ≠ wr.heap.size + 1 ∧ wr.heap.size ≠ wr.heap.size + 1 + 1 ∧ w.heap.size ≤ wr.heap.size + 1 ∧ w.heap.size ≤ wr.heap.size + 1 + 1 := by omega
              revert hne
              clear HsA tA d0 d1 d2 d3
              generalize wr.heap.size + 1 + 1 = bq
              generalize wr.heap.size + 1 = bp
              intro hne cp cq tB rA sA xA yA zA lA bA hszB
              rotate_left
              replace rA := rA.out
              replace sA := sA.out
              replace xA := xA.out
              replace yA := yA.out
              replace zA := zA.out
              replace lA := lA.out
              replace tA := tA.out
              replace bA := bA.out
              have c1 := (Bk.new (wr.alloc (.cells #[.int .i64 x0, .int .i64 y0, .int .i64 x1, .int .i64 y1] 75)) 93 #[.int .i64 x1, .int .i64 y0]).alloc (.cells #[.int .i64 (x0 - 1), .int .i64 y0] 93)
              have c2 := Bk.new ((wr.alloc (.cells #[.int .i64 x0, .int .i64 y0, .int .i64 x1, .int .i64 y1] 75)).alloc (.cells #[.int .i64 x1, .int .i64 y0] 93)) 93 #[.int .i64 (x0 - 1), .int .i64 y0]
              have e2 : ((wr.alloc (.cells #[.int .i64 x0, .int .i64 y0, .int .i64 x1, .int .i64 y1] 75)).alloc (.cells #[.int .i64 x1, .int .i64 y0] 93)).heap.size = wr.heap.size + 1 + 1 := by simp
              rw [HsA.out] at c1
              rw [e2] at c2
              clear e2
              have cp := c2.drew
              have cq := c1.drew
              clear c1 c2
              have tB := ((tA.alloc tA.size (.cells #[.int .i64 x1, .int .i64 y0] 93)).alloc (by have := tA.size; have := HsA.out; simp; omega) (.cells #[.int .i64 (x0 - 1), .int .i64 y0] 93)).drew
              replace rA := (RL.alloc (RL.alloc rA (.cells #[.int .i64 x1, .int .i64 y0] 93)) (.cells #[.int .i64 (x0 - 1), .int .i64 y0] 93)).on ((Below.refl _ _).drew)
              replace sA := ((sA.alloc (.cells #[.int .i64 x1, .int .i64 y0] 93)).alloc (.cells #[.int .i64 (x0 - 1), .int .i64 y0] 93)).on ((Below.refl _ _).drew)
              replace xA := ((xA.alloc (.cells #[.int .i64 x1, .int .i64 y0] 93)).alloc (.cells #[.int .i64 (x0 - 1), .int .i64 y0] 93)).drew
              replace yA := ((yA.alloc (.cells #[.int .i64 x1, .int .i64 y0] 93)).alloc (.cells #[.int .i64 (x0 - 1), .int .i64 y0] 93)).drew
              replace zA := ((zA.alloc (.cells #[.int .i64 x1, .int .i64 y0] 93)).alloc (.cells #[.int .i64 (x0 - 1), .int .i64 y0] 93)).drew
              replace lA := ((lA.alloc (.cells #[.int .i64 x1, .int .i64 y0] 93)).alloc (.cells #[.int .i64 (x0 - 1), .int .i64 y0] 93)).drew
              replace bA := ((bA.alloc (.cells #[.int .i64 x1, .int .i64 y0] 93)).alloc (.cells #[.int .i64 (x0 - 1), .int .i64 y0] 93)).drew
              have hszB : w5.heap.size ≤ (((wr.alloc (.cells #[.int .i64 x0, .int .i64 y0, .int .i64 x1, .int .i64 y1] 75)).alloc (.cells #[.int .i64 x1, .int .i64 y0] 93)).alloc (.cells #[.int .i64 (x0 - 1), .int .i64 y0] 93)).drew.heap.size := by
                show w5.heap.size ≤ (((wr.alloc (.cells #[.int .i64 x0, .int .i64 y0, .int .i64 x1, .int .i64 y1] 75)).alloc (.cells #[.int .i64 x1, .int .i64 y0] 93)).alloc (.cells #[.int .i64 (x0 - 1), .int .i64 y0] 93)).heap.size
                simp
                omega
              have hs0 : w.heap.size ≤ w5.heap.size ∧ w5.heap.size ≤ wr.heap.size := by omega
              revert cp cq tB rA sA xA yA zA lA bA hszB
              generalize World.drew _ = wz
              have hne : wr.heap.size + 1 + 1 ≠ wr.heap.size + 1 ∧ wr.heap.size ≠ wr.heap.size + 1 + 1 ∧ wr.heap.size ≠ wr.heap.size + 1 ∧ w.heap.size ≤ wr.heap.size + 1 + 1 ∧ w.heap.size ≤ wr.heap.size + 1 := by omega
              revert hne
              clear HsA tA d0 d1 d2 d3
              generalize wr.heap.size + 1 + 1 = bp
              generalize wr.heap.size + 1 = bq
              intro hne cp cq tB rA sA xA yA zA lA bA hszB
              rotate_left
              all_goals
                obtain ⟨hpq, hrp, hrq, hp5, hq5⟩ := hne
                by_cases hc : endsG (cellsG rs) (cellsG qs) false ⟨x0, y0, x1, y1⟩ = true
                · have Hn := Lib.hid (filter_yes Hr.out hc)
                  rw [ends_h] at hc
                  have hc2 : (hasG (cellsG rs) (x0 - 1) (y0) = true ∧ hasG (cellsG qs) (x1) (y0) = true) ∨ ((hasG (cellsG rs) (x0 - 1) (y0) = true ∧ hasG (cellsG qs) (x1) (y0) = false) ∧ (hasG (cellsG qs) (x0 - 1) (y0) = true ∧ hasG (cellsG rs) (x1) (y0) = true)) ∨ (hasG (cellsG rs) (x0 - 1) (y0) = false ∧ (hasG (cellsG qs) (x0 - 1) (y0) = true ∧ hasG (cellsG rs) (x1) (y0) = true)) := by
                    revert hc
                    cases hasG (cellsG rs) (x0 - 1) (y0) <;> cases hasG (cellsG qs) (x1) (y0) <;> cases hasG (cellsG qs) (x0 - 1) (y0) <;> cases hasG (cellsG rs) (x1) (y0) <;> simp
                  clear hc
                  rcases hc2 with ⟨ha, hb1⟩ | ⟨⟨ha, hb1⟩, hb0, ha0⟩ | ⟨ha, hb0, ha0⟩
                  · obtain ⟨m0, m1⟩ := box2 cp
                    obtain ⟨n0, n1⟩ := box2 cq
                    go_wp2_with fail
                    refine (has_any gx _ _ _ _ xA).mono ?_
                    rintro e wc ⟨rfl, hbc⟩
                    replace rA := rA.on hbc
                    replace sA := sA.on hbc
                    replace xA := xA.on hbc
                    replace yA := yA.on hbc
                    replace zA := zA.on hbc
                    replace lA := lA.on hbc
                    replace bA := bA.on hbc
                    replace cp := cp.on hbc
                    replace cq := cq.on hbc
                    replace tB := tB.trans (hbc.mono tB.size)
                    replace hszB := Nat.le_trans hszB hbc.size
                    clear hbc m0 m1 n0 n1
                    obtain ⟨m0, m1⟩ := box2 cp
                    obtain ⟨n0, n1⟩ := box2 cq
                    go_wp2_with fail
                    refine (has_any gy _ _ _ _ yA).mono ?_
                    rintro e wc ⟨rfl, hbc⟩
                    replace rA := rA.on hbc
                    replace sA := sA.on hbc
                    replace xA := xA.on hbc
                    replace yA := yA.on hbc
                    replace zA := zA.on hbc
                    replace lA := lA.on hbc
                    replace bA := bA.on hbc
                    replace cp := cp.on hbc
                    replace cq := cq.on hbc
                    replace tB := tB.trans (hbc.mono tB.size)
                    replace hszB := Nat.le_trans hszB hbc.size
                    clear hbc m0 m1 n0 n1
                    obtain ⟨d0, d1, d2, d3⟩ := box4 bA
                    go_wp2_with (at_builtin; refine wpList_append_R_at rfl (.tmp 101) (.tmp 103) rfl w.heap.size _ ps2 rfl rA _ _ _ _ rfl hl3 tB.size ?_)
                    intro v1 w6 ho1 hg1 hb6 hat
                    go_wp2
                    have hsz6 := hg1.size
                    exact ⟨⟨k + 1, _, by omega, by go_num, ho1, Lib.hid (by rw [hps2.out, Hn.out, List.append_assoc]), ho.next hszB hat, sA.kept ho hg1, xA.keptR rA (by decide) hg1, yA.keptR rA (by decide) hg1, zA.keptR rA (by decide) hg1, lA.grown hg1 (lA.apart' rA (by decide)), by omega, tB.trans hb6⟩, by simp [intOf]; omega⟩
                  · obtain ⟨m0, m1⟩ := box2 cp
                    obtain ⟨n0, n1⟩ := box2 cq
                    go_wp2_with fail
                    refine (has_any gx _ _ _ _ xA).mono ?_
                    rintro e wc ⟨rfl, hbc⟩
                    replace rA := rA.on hbc
                    replace sA := sA.on hbc
                    replace xA := xA.on hbc
                    replace yA := yA.on hbc
                    replace zA := zA.on hbc
                    replace lA := lA.on hbc
                    replace bA := bA.on hbc
                    replace cp := cp.on hbc
                    replace cq := cq.on hbc
                    replace tB := tB.trans (hbc.mono tB.size)
                    replace hszB := Nat.le_trans hszB hbc.size
                    clear hbc m0 m1 n0 n1
                    obtain ⟨m0, m1⟩ := box2 cp
                    obtain ⟨n0, n1⟩ := box2 cq
                    go_wp2_with fail
                    refine (has_any gy _ _ _ _ yA).mono ?_
                    rintro e wc ⟨rfl, hbc⟩
                    replace rA := rA.on hbc
                    replace sA := sA.on hbc
                    replace xA := xA.on hbc
                    replace yA := yA.on hbc
                    replace zA := zA.on hbc
                    replace lA := lA.on hbc
                    replace bA := bA.on hbc
                    replace cp := cp.on hbc
                    replace cq := cq.on hbc
                    replace tB := tB.trans (hbc.mono tB.size)
                    replace hszB := Nat.le_trans hszB hbc.size
                    clear hbc m0 m1 n0 n1
                    obtain ⟨m0, m1⟩ := box2 cp
                    obtain ⟨n0, n1⟩ := box2 cq
                    go_wp2_with fail
                    refine (has_any gy _ _ _ _ yA).mono ?_
                    rintro e wc ⟨rfl, hbc⟩
                    replace rA := rA.on hbc
                    replace sA := sA.on hbc
                    replace xA := xA.on hbc
                    replace yA := yA.on hbc
                    replace zA := zA.on hbc
                    replace lA := lA.on hbc
                    replace bA := bA.on hbc
                    replace cp := cp.on hbc
                    replace cq := cq.on hbc
                    replace tB := tB.trans (hbc.mono tB.size)
                    replace hszB := Nat.le_trans hszB hbc.size
                    clear hbc m0 m1 n0 n1
                    obtain ⟨m0, m1⟩ := box2 cp
                    obtain ⟨n0, n1⟩ := box2 cq
                    go_wp2_with fail
                    refine (has_any gx _ _ _ _ xA).mono ?_
                    rintro e wc ⟨rfl, hbc⟩
                    replace rA := rA.on hbc
                    replace sA := sA.on hbc
                    replace xA := xA.on hbc
                    replace yA := yA.on hbc
                    replace zA := zA.on hbc
                    replace lA := lA.on hbc
                    replace bA := bA.on hbc
                    replace cp := cp.on hbc
                    replace cq := cq.on hbc
                    replace tB := tB.trans (hbc.mono tB.size)
                    replace hszB := Nat.le_trans hszB hbc.size
                    clear hbc m0 m1 n0 n1
                    obtain ⟨d0, d1, d2, d3⟩ := box4 bA
                    go_wp2_with (at_builtin; refine wpList_append_R_at rfl (.tmp 101) (.tmp 103) rfl w.heap.size _ ps2 rfl rA _ _ _ _ rfl hl3 tB.size ?_)
                    intro v1 w6 ho1 hg1 hb6 hat
                    go_wp2
                    have hsz6 := hg1.size
                    exact ⟨⟨k + 1, _, by omega, by go_num, ho1, Lib.hid (by rw [hps2.out, Hn.out, List.append_assoc]), ho.next hszB hat, sA.kept ho hg1, xA.keptR rA (by decide) hg1, yA.keptR rA (by decide) hg1, zA.keptR rA (by decide) hg1, lA.grown hg1 (lA.apart' rA (by decide)), by omega, tB.trans hb6⟩, by simp [intOf]; omega⟩
                  · obtain ⟨m0, m1⟩ := box2 cp
                    obtain ⟨n0, n1⟩ := box2 cq
                    go_wp2_with fail
                    refine (has_any gx _ _ _ _ xA).mono ?_
                    rintro e wc ⟨rfl, hbc⟩
                    replace rA := rA.on hbc
                    replace sA := sA.on hbc
                    replace xA := xA.on hbc
                    replace yA := yA.on hbc
                    replace zA := zA.on hbc
                    replace lA := lA.on hbc
                    replace bA := bA.on hbc
                    replace cp := cp.on hbc
                    replace cq := cq.on hbc
                    replace tB := tB.trans (hbc.mono tB.size)
                    replace hszB := Nat.le_trans hszB hbc.size
                    clear hbc m0 m1 n0 n1
                    obtain ⟨m0, m1⟩ := box2 cp
                    obtain ⟨n0, n1⟩ := box2 cq
                    go_wp2_with fail
                    refine (has_any gy _ _ _ _ yA).mono ?_
                    rintro e wc ⟨rfl, hbc⟩
                    replace rA := rA.on hbc
                    replace sA := sA.on hbc
                    replace xA := xA.on hbc
                    replace yA := yA.on hbc
                    replace zA := zA.on hbc
                    replace lA := lA.on hbc
                    replace bA := bA.on hbc
                    replace cp := cp.on hbc
                    replace cq := cq.on hbc
                    replace tB := tB.trans (hbc.mono tB.size)
                    replace hszB := Nat.le_trans hszB hbc.size
                    clear hbc m0 m1 n0 n1
                    obtain ⟨m0, m1⟩ := box2 cp
                    obtain ⟨n0, n1⟩ := box2 cq
                    go_wp2_with fail
                    refine (has_any gx _ _ _ _ xA).mono ?_
                    rintro e wc ⟨rfl, hbc⟩
                    replace rA := rA.on hbc
                    replace sA := sA.on hbc
                    replace xA := xA.on hbc
                    replace yA := yA.on hbc
                    replace zA := zA.on hbc
                    replace lA := lA.on hbc
                    replace bA := bA.on hbc
                    replace cp := cp.on hbc
                    replace cq := cq.on hbc
                    replace tB := tB.trans (hbc.mono tB.size)
                    replace hszB := Nat.le_trans hszB hbc.size
                    clear hbc m0 m1 n0 n1
                    obtain ⟨d0, d1, d2, d3⟩ := box4 bA
                    go_wp2_with (at_builtin; refine wpList_append_R_at rfl (.tmp 101) (.tmp 103) rfl w.heap.size _ ps2 rfl rA _ _ _ _ rfl hl3 tB.size ?_)
                    intro v1 w6 ho1 hg1 hb6 hat
                    go_wp2
                    have hsz6 := hg1.size
                    exact ⟨⟨k + 1, _, by omega, by go_num, ho1, Lib.hid (by rw [hps2.out, Hn.out, List.append_assoc]), ho.next hszB hat, sA.kept ho hg1, xA.keptR rA (by decide) hg1, yA.keptR rA (by decide) hg1, zA.keptR rA (by decide) hg1, lA.grown hg1 (lA.apart' rA (by decide)), by omega, tB.trans hb6⟩, by simp [intOf]; omega⟩
                · have hcn : endsG (cellsG rs) (cellsG qs) false ⟨x0, y0, x1, y1⟩ = false := by simpa using hc
                  have Hn := Lib.hid (filter_no Hr.out hcn)
                  clear hc
                  rw [ends_h] at hcn
                  have hc2 : ((hasG (cellsG rs) (x0 - 1) (y0) = true ∧ hasG (cellsG qs) (x1) (y0) = false) ∧ (hasG (cellsG qs) (x0 - 1) (y0) = true ∧ hasG (cellsG rs) (x1) (y0) = false)) ∨ ((hasG (cellsG rs) (x0 - 1) (y0) = true ∧ hasG (cellsG qs) (x1) (y0) = false) ∧ hasG (cellsG qs) (x0 - 1) (y0) = false) ∨ (hasG (cellsG rs) (x0 - 1) (y0) = false ∧ (hasG (cellsG qs) (x0 - 1) (y0) = true ∧ hasG (cellsG rs) (x1) (y0) = false)) ∨ (hasG (cellsG rs) (x0 - 1) (y0) = false ∧ hasG (cellsG qs) (x0 - 1) (y0) = false) := by
                    revert hcn
                    cases hasG (cellsG rs) (x0 - 1) (y0) <;> cases hasG (cellsG qs) (x1) (y0) <;> cases hasG (cellsG qs) (x0 - 1) (y0) <;> cases hasG (cellsG rs) (x1) (y0) <;> simp
                  clear hcn
                  rcases hc2 with ⟨⟨ha, hb1⟩, hb0, ha0⟩ | ⟨⟨ha, hb1⟩, hb0⟩ | ⟨ha, hb0, ha0⟩ | ⟨ha, hb0⟩
                  · obtain ⟨m0, m1⟩ := box2 cp
                    obtain ⟨n0, n1⟩ := box2 cq
                    go_wp2_with fail
                    refine (has_any gx _ _ _ _ xA).mono ?_
                    rintro e wc ⟨rfl, hbc⟩
                    replace rA := rA.on hbc
                    replace sA := sA.on hbc
                    replace xA := xA.on hbc
                    replace yA := yA.on hbc
                    replace zA := zA.on hbc
                    replace lA := lA.on hbc
                    replace bA := bA.on hbc
                    replace cp := cp.on hbc
                    replace cq := cq.on hbc
                    replace tB := tB.trans (hbc.mono tB.size)
                    replace hszB := Nat.le_trans hszB hbc.size
                    clear hbc m0 m1 n0 n1
                    obtain ⟨m0, m1⟩ := box2 cp
                    obtain ⟨n0, n1⟩ := box2 cq
                    go_wp2_with fail
                    refine (has_any gy _ _ _ _ yA).mono ?_
                    rintro e wc ⟨rfl, hbc⟩
                    replace rA := rA.on hbc
                    replace sA := sA.on hbc
                    replace xA := xA.on hbc
                    replace yA := yA.on hbc
                    replace zA := zA.on hbc
                    replace lA := lA.on hbc
                    replace bA := bA.on hbc
                    replace cp := cp.on hbc
                    replace cq := cq.on hbc
                    replace tB := tB.trans (hbc.mono tB.size)
                    replace hszB := Nat.le_trans hszB hbc.size
                    clear hbc m0 m1 n0 n1
                    obtain ⟨m0, m1⟩ := box2 cp
                    obtain ⟨n0, n1⟩ := box2 cq
                    go_wp2_with fail
                    refine (has_any gy _ _ _ _ yA).mono ?_
                    rintro e wc ⟨rfl, hbc⟩
                    replace rA := rA.on hbc
                    replace sA := sA.on hbc
                    replace xA := xA.on hbc
                    replace yA := yA.on hbc
                    replace zA := zA.on hbc
                    replace lA := lA.on hbc
                    replace bA := bA.on hbc
                    replace cp := cp.on hbc
                    replace cq := cq.on hbc
                    replace tB := tB.trans (hbc.mono tB.size)
                    replace hszB := Nat.le_trans hszB hbc.size
                    clear hbc m0 m1 n0 n1
                    obtain ⟨m0, m1⟩ := box2 cp
                    obtain ⟨n0, n1⟩ := box2 cq
                    go_wp2_with fail
                    refine (has_any gx _ _ _ _ xA).mono ?_
                    rintro e wc ⟨rfl, hbc⟩
                    replace rA := rA.on hbc
                    replace sA := sA.on hbc
                    replace xA := xA.on hbc
                    replace yA := yA.on hbc
                    replace zA := zA.on hbc
                    replace lA := lA.on hbc
                    replace bA := bA.on hbc
                    replace cp := cp.on hbc
                    replace cq := cq.on hbc
                    replace tB := tB.trans (hbc.mono tB.size)
                    replace hszB := Nat.le_trans hszB hbc.size
                    clear hbc m0 m1 n0 n1
                    go_wp2
                    exact ⟨⟨k + 1, _, by omega, by go_num, rA, Lib.hid (by rw [hps2.out, Hn.out]), ho, sA, xA, yA, zA, lA, hszB, tB⟩, by simp [intOf]; omega⟩
                  · obtain ⟨m0, m1⟩ := box2 cp
                    obtain ⟨n0, n1⟩ := box2 cq
                    go_wp2_with fail
                    refine (has_any gx _ _ _ _ xA).mono ?_
                    rintro e wc ⟨rfl, hbc⟩
                    replace rA := rA.on hbc
                    replace sA := sA.on hbc
                    replace xA := xA.on hbc
                    replace yA := yA.on hbc
                    replace zA := zA.on hbc
                    replace lA := lA.on hbc
                    replace bA := bA.on hbc
                    replace cp := cp.on hbc
                    replace cq := cq.on hbc
                    replace tB := tB.trans (hbc.mono tB.size)
                    replace hszB := Nat.le_trans hszB hbc.size
                    clear hbc m0 m1 n0 n1
                    obtain ⟨m0, m1⟩ := box2 cp
                    obtain ⟨n0, n1⟩ := box2 cq
                    go_wp2_with fail
                    refine (has_any gy _ _ _ _ yA).mono ?_
                    rintro e wc ⟨rfl, hbc⟩
                    replace rA := rA.on hbc
                    replace sA := sA.on hbc
                    replace xA := xA.on hbc
                    replace yA := yA.on hbc
                    replace zA := zA.on hbc
                    replace lA := lA.on hbc
                    replace bA := bA.on hbc
                    replace cp := cp.on hbc
                    replace cq := cq.on hbc
                    replace tB := tB.trans (hbc.mono tB.size)
                    replace hszB := Nat.le_trans hszB hbc.size
                    clear hbc m0 m1 n0 n1
                    obtain ⟨m0, m1⟩ := box2 cp
                    obtain ⟨n0, n1⟩ := box2 cq
                    go_wp2_with fail
                    refine (has_any gy _ _ _ _ yA).mono ?_
                    rintro e wc ⟨rfl, hbc⟩
                    replace rA := rA.on hbc
                    replace sA := sA.on hbc
                    replace xA := xA.on hbc
                    replace yA := yA.on hbc
                    replace zA := zA.on hbc
                    replace lA := lA.on hbc
                    replace bA := bA.on hbc
                    replace cp := cp.on hbc
                    replace cq := cq.on hbc
                    replace tB := tB.trans (hbc.mono tB.size)
                    replace hszB := Nat.le_trans hszB hbc.size
                    clear hbc m0 m1 n0 n1
                    go_wp2
                    exact ⟨⟨k + 1, _, by omega, by go_num, rA, Lib.hid (by rw [hps2.out, Hn.out]), ho, sA, xA, yA, zA, lA, hszB, tB⟩, by simp [intOf]; omega⟩
                  · obtain ⟨m0, m1⟩ := box2 cp
                    obtain ⟨n0, n1⟩ := box2 cq
                    go_wp2_with fail
                    refine (has_any gx _ _ _ _ xA).mono ?_
                    rintro e wc ⟨rfl, hbc⟩
                    replace rA := rA.on hbc
                    replace sA := sA.on hbc
                    replace xA := xA.on hbc
                    replace yA := yA.on hbc
                    replace zA := zA.on hbc
                    replace lA := lA.on hbc
                    replace bA := bA.on hbc
                    replace cp := cp.on hbc
                    replace cq := cq.on hbc
                    replace tB := tB.trans (hbc.mono tB.size)
                    replace hszB := Nat.le_trans hszB hbc.size
                    clear hbc m0 m1 n0 n1
                    obtain ⟨m0, m1⟩ := box2 cp
                    obtain ⟨n0, n1⟩ := box2 cq
                    go_wp2_with fail
                    refine (has_any gy _ _ _ _ yA).mono ?_
                    rintro e wc ⟨rfl, hbc⟩
                    replace rA := rA.on hbc
                    replace sA := sA.on hbc
                    replace xA := xA.on hbc
                    replace yA := yA.on hbc
                    replace zA := zA.on hbc
                    replace lA := lA.on hbc
                    replace bA := bA.on hbc
                    replace cp := cp.on hbc
                    replace cq := cq.on hbc
                    replace tB := tB.trans (hbc.mono tB.size)
                    replace hszB := Nat.le_trans hszB hbc.size
                    clear hbc m0 m1 n0 n1
                    obtain ⟨m0, m1⟩ := box2 cp
                    obtain ⟨n0, n1⟩ := box2 cq
                    go_wp2_with fail
                    refine (has_any gx _ _ _ _ xA).mono ?_
                    rintro e wc ⟨rfl, hbc⟩
                    replace rA := rA.on hbc
                    replace sA := sA.on hbc
                    replace xA := xA.on hbc
                    replace yA := yA.on hbc
                    replace zA := zA.on hbc
                    replace lA := lA.on hbc
                    replace bA := bA.on hbc
                    replace cp := cp.on hbc
                    replace cq := cq.on hbc
                    replace tB := tB.trans (hbc.mono tB.size)
                    replace hszB := Nat.le_trans hszB hbc.size
                    clear hbc m0 m1 n0 n1
                    go_wp2
                    exact ⟨⟨k + 1, _, by omega, by go_num, rA, Lib.hid (by rw [hps2.out, Hn.out]), ho, sA, xA, yA, zA, lA, hszB, tB⟩, by simp [intOf]; omega⟩
                  · obtain ⟨m0, m1⟩ := box2 cp
                    obtain ⟨n0, n1⟩ := box2 cq
                    go_wp2_with fail
                    refine (has_any gx _ _ _ _ xA).mono ?_
                    rintro e wc ⟨rfl, hbc⟩
                    replace rA := rA.on hbc
                    replace sA := sA.on hbc
                    replace xA := xA.on hbc
                    replace yA := yA.on hbc
                    replace zA := zA.on hbc
                    replace lA := lA.on hbc
                    replace bA := bA.on hbc
                    replace cp := cp.on hbc
                    replace cq := cq.on hbc
                    replace tB := tB.trans (hbc.mono tB.size)
                    replace hszB := Nat.le_trans hszB hbc.size
                    clear hbc m0 m1 n0 n1
                    obtain ⟨m0, m1⟩ := box2 cp
                    obtain ⟨n0, n1⟩ := box2 cq
                    go_wp2_with fail
                    refine (has_any gy _ _ _ _ yA).mono ?_
                    rintro e wc ⟨rfl, hbc⟩
                    replace rA := rA.on hbc
                    replace sA := sA.on hbc
                    replace xA := xA.on hbc
                    replace yA := yA.on hbc
                    replace zA := zA.on hbc
                    replace lA := lA.on hbc
                    replace bA := bA.on hbc
                    replace cp := cp.on hbc
                    replace cq := cq.on hbc
                    replace tB := tB.trans (hbc.mono tB.size)
                    replace hszB := Nat.le_trans hszB hbc.size
                    clear hbc m0 m1 n0 n1
                    go_wp2
                    exact ⟨⟨k + 1, _, by omega, by go_num, rA, Lib.hid (by rw [hps2.out, Hn.out]), ho, sA, xA, yA, zA, lA, hszB, tB⟩, by simp [intOf]; omega⟩
            · have Hd := Lib.hid (hps2.out.trans (by rw [filter_all (by omega), btw_gaps]))
              go_wp2
              exact ⟨⟨1, ps2, by omega, by go_num, hR2, Lib.hid (by rw [Hd.out]; rfl), hX2, hY2, hZ2, hBL2, hb2⟩, by simp [intOf]⟩
        · by_cases hn1 : n = 1
          · subst hn1
            obtain ⟨f1, f2⟩ := box2 hBL
            obtain ⟨N1, hN1⟩ : ∃ n, n = wr.heap.size := ⟨_, rfl⟩
            have ho0 := fun M => OutB.lo (M := M) hR hN1
            go_wp2_with fail
            refine (gapsOf_any gz true _ _ hZ).mono ?_
            rintro e w5 ⟨u5, rfl, hU, hb5⟩
            rw [← hN1] at hU
            have hS := Src.of hU
            obtain ⟨A5, c5, rfl, hc5, hm5, -⟩ := hU.form
            clear hU f1 f2
            have hl5 := gapsG_length (unionG (cellsG rs) (cellsG qs)) true
            have Hok5 := Lib.hid (gapsG_ok (unionG (cellsG rs) (cellsG qs)) true)
            have hm5' : (gapsG (unionG (cellsG rs) (cellsG qs)) true).length ≤ 9223372036854775807 := by omega
            have Hlen5 := Lib.hid hl5
            clear hl5
            replace hX := hX.on hb5
            replace hY := hY.on hb5
            replace hZ := hZ.on hb5
            replace hBL := hBL.on hb5
            replace hR := hR.on hb5
            replace hb := hb.trans (hb5.mono hb.size)
            clear hb5 hN1
            have hs5 := hb.size
            go_wp2
            go_loopw [7, 44] (fun ov2 iv2 wi => ∃ (k : Nat) (ps2 : List Rc), k ≤ (gapsG (unionG (cellsG rs) (cellsG qs)) true).length ∧ iv2 = .int .i64 k ∧ RL wi w.heap.size ov2 ps2 ∧ Hid (ps2 = btwG (cellsG rs) (cellsG qs) false ++ ((gapsG (unionG (cellsG rs) (cellsG qs)) true).take k).filter (endsG (cellsG rs) (cellsG qs) true)) ∧ OutB ov2 N1 w5.heap.size ∧ Src wi N1 w5.heap.size (.slice A5 (gapsG (unionG (cellsG rs) (cellsG qs)) true).length c5) (gapsG (unionG (cellsG rs) (cellsG qs)) true) ∧ GB wi gx 89 (cellsG rs) ∧ GB wi gy 89 (cellsG qs) ∧ GB wi gz 89 (unionG (cellsG rs) (cellsG qs)) ∧ Bk wi bl 4 #[.bool false, .bool true] ∧ w5.heap.size ≤ wi.heap.size ∧ Below w.heap.size w wi) (fun _ iv2 _ => (gapsG (unionG (cellsG rs) (cellsG qs)) true).length - (intOf iv2).toNat)
            case atStart => exact ⟨0, ps, Nat.zero_le _, rfl, hR, Lib.hid (by rw [hps.out]; simp [partB]), ho0 _, hS, hX, hY, hZ, hBL, Nat.le_refl _, hb⟩
            case round =>
              obtain ⟨k, ps2, hk, rfl, hR2, hps2, ho, hS2, hX2, hY2, hZ2, hBL2, hsz, hb2⟩ := hrel
              clear hR ho0 hS hX hY hZ hBL hb
              by_cases hlt : k < (gapsG (unionG (cellsG rs) (cellsG qs)) true).length
              · obtain ⟨g', x0, y0, x1, y1, rfl, hr, hg, f0, f1, f2, f3⟩ := hS2.elem hlt
                have hrok := (okRc_iff _).1 (okAll_get Hok5.out hr)
                dsimp only at hrok
                have hl3 : ps2.length ≤ 1000000 := by
                  rw [hps2.out, List.length_append]
                  have h1 := filter_len (p := endsG (cellsG rs) (cellsG qs) true) k Hlen5.out
                  have h2 : (btwG (cellsG rs) (cellsG qs) false : List Rc).length ≤ 6400 := btwG_length (cellsG rs) (cellsG qs) false
                  omega
                have tA := hb2.alloc hb2.size (.cells #[.int .i64 x0, .int .i64 y0, .int .i64 x1, .int .i64 y1] 75)
                have rA := RL.alloc hR2 (.cells #[.int .i64 x0, .int .i64 y0, .int .i64 x1, .int .i64 y1] 75)
                have sA := hS2.alloc (.cells #[.int .i64 x0, .int .i64 y0, .int .i64 x1, .int .i64 y1] 75)
                have xA := hX2.alloc (.cells #[.int .i64 x0, .int .i64 y0, .int .i64 x1, .int .i64 y1] 75)
                have yA := hY2.alloc (.cells #[.int .i64 x0, .int .i64 y0, .int .i64 x1, .int .i64 y1] 75)
                have zA := hZ2.alloc (.cells #[.int .i64 x0, .int .i64 y0, .int .i64 x1, .int .i64 y1] 75)
                have lA := hBL2.alloc (.cells #[.int .i64 x0, .int .i64 y0, .int .i64 x1, .int .i64 y1] 75)
                have bA := Bk.new wr 75 #[.int .i64 x0, .int .i64 y0, .int .i64 x1, .int .i64 y1]
                have HsA := Lib.hid (show (wr.alloc (.cells #[.int .i64 x0, .int .i64 y0, .int .i64 x1, .int .i64 y1] 75)).heap.size = wr.heap.size + 1 by simp)
                have Hr := Lib.hid hr
                obtain ⟨d0, d1, d2, d3⟩ := box4 bA
                clear hr hR2 hS2 hX2 hY2 hZ2 hBL2
                replace rA := Lib.hid rA
                replace sA := Lib.hid sA
                replace xA := Lib.hid xA
                replace yA := Lib.hid yA
                replace zA := Lib.hid zA
                replace lA := Lib.hid lA
                replace tA := Lib.hid tA
                replace bA := Lib.hid bA
                have hw1 := Go.IntWalk.i64_in (x0 - 1) (by omega)
                have hw2 := Go.IntWalk.i64_in (y0 - 1) (by omega)
                clear hg
                go_wp2
                clear f0 f1 f2 f3
                go_region_held3 (fun w' => w'.cell? ⟨wr.heap.size, 0, none⟩ = some (.int .i64 x0) ∧ w'.cell? ⟨wr.heap.size, 1, none⟩ = some (.int .i64 y0) ∧ w'.cell? ⟨wr.heap.size, 2, none⟩ = some (.int .i64 x1) ∧ w'.cell? ⟨wr.heap.size, 3, none⟩ = some (.int .i64 y1)) (first | with_reducible exact box4 bA.out.drew | with_reducible exact box4 (bA.out.alloc _).drew | with_reducible exact box4 ((bA.out.alloc _).alloc _).drew | go_keep) (fail)
                replace rA := rA.out
                replace sA := sA.out
                replace xA := xA.out
                replace yA := yA.out
                replace zA := zA.out
                replace lA := lA.out
                replace tA := tA.out
                replace bA := bA.out
                have c1 := (Bk.new (wr.alloc (.cells #[.int .i64 x0, .int .i64 y0, .int .i64 x1, .int .i64 y1] 75)) 93 #[.int .i64 (x0 - 1), .int .i64 y0]).alloc (.cells #[.int .i64 x1, .int .i64 y0] 93)
                have c2 := Bk.new ((wr.alloc (.cells #[.int .i64 x0, .int .i64 y0, .int .i64 x1, .int .i64 y1] 75)).alloc (.cells #[.int .i64 (x0 - 1), .int .i64 y0] 93)) 93 #[.int .i64 x1, .int .i64 y0]
                have e2 : ((wr.alloc (.cells #[.int .i64 x0, .int .i64 y0, .int .i64 x1, .int .i64 y1] 75)).alloc (.cells #[.int .i64 (x0 - 1), .int .i64 y0] 93)).heap.size = wr.heap.size + 1 + 1 := by simp
                rw [HsA.out] at c1
                rw [e2] at c2
                clear e2
                have cp := c1.drew
                have cq := c2.drew
                clear c1 c2
                have tB := ((tA.alloc tA.size (.cells #[.int .i64 (x0 - 1), .int .i64 y0] 93)).alloc (by have := tA.size; have := HsA.out; simp; omega) (.cells #[.int .i64 x1, .int .i64 y0] 93)).drew
                replace rA := (RL.alloc (RL.alloc rA (.cells #[.int .i64 (x0 - 1), .int .i64 y0] 93)) (.cells #[.int .i64 x1, .int .i64 y0] 93)).on ((Below.refl _ _).drew)
                replace sA := ((sA.alloc (.cells #[.int .i64 (x0 - 1), .int .i64 y0] 93)).alloc (.cells #[.int .i64 x1, .int .i64 y0] 93)).on ((Below.refl _ _).drew)
                replace xA := ((xA.alloc (.cells #[.int .i64 (x0 - 1), .int .i64 y0] 93)).alloc (.cells #[.int .i64 x1, .int .i64 y0] 93)).drew
                replace yA := ((yA.alloc (.cells #[.int .i64 (x0 - 1), .int .i64 y0] 93)).alloc (.cells #[.int .i64 x1, .int .i64 y0] 93)).drew
                replace zA := ((zA.alloc (.cells #[.int .i64 (x0 - 1), .int .i64 y0] 93)).alloc (.cells #[.int .i64 x1, .int .i64 y0] 93)).drew
                replace lA := ((lA.alloc (.cells #[.int .i64 (x0 - 1), .int .i64 y0] 93)).alloc (.cells #[.int .i64 x1, .int .i64 y0] 93)).drew
                replace bA := ((bA.alloc (.cells #[.int .i64 (x0 - 1), .int .i64 y0] 93)).alloc (.cells #[.int .i64 x1, .int .i64 y0] 93)).drew
                have hszB : w5.heap.size ≤ (((wr.alloc (.cells #[.int .i64 x0, .int .i64 y0, .int .i64 x1, .int .i64 y1] 75)).alloc (.cells #[.int .i64 (x0 - 1), .int .i64 y0] 93)).alloc (.cells #[.int .i64 x1, .int .i64 y0] 93)).drew.heap.size := by
                  show w5.heap.size ≤ (((wr.alloc (.cells #[.int .i64 x0, .int .i64 y0, .int .i64 x1, .int .i64 y1] 75)).alloc (.cells #[.int .i64 (x0 - 1), .int .i64 y0] 93)).alloc (.cells #[.int .i64 x1, .int .i64 y0] 93)).heap.size
                  simp
                  omega
                have hs0 : w.heap.size ≤ w5.heap.size ∧ w5.heap.size ≤ wr.heap.size := by omega
                revert cp cq tB rA sA xA yA zA lA bA hszB
                generalize World.drew _ = wz
                have hne : wr.heap.size + 1 ≠ wr.heap.size + 1 + 1 ∧ wr.heap.size ≠ wr.heap.size + 1 ∧ wr.heap.size ≠ wr.heap.size + 1 + 1 ∧ w.heap.size ≤ wr.heap.size + 1 ∧ w.heap.size ≤ wr.heap.size + 1 + 1 := by omega
                revert hne
                clear HsA tA d0 d1 d2 d3
                generalize wr.heap.size + 1 + 1 = bq
                generalize wr.heap.size + 1 = bp
                intro hne cp cq tB rA sA xA yA zA lA bA hszB
                rotate_left
                replace rA := rA.out
                replace sA := sA.out
                replace xA := xA.out
                replace yA := yA.out
                replace zA := zA.out
                replace lA := lA.out
                replace tA := tA.out
                replace bA := bA.out
                have c1 := (Bk.new (wr.alloc (.cells #[.int .i64 x0, .int .i64 y0, .int .i64 x1, .int .i64 y1] 75)) 93 #[.int .i64 x1, .int .i64 y0]).alloc (.cells #[.int .i64 (x0 - 1), .int .i64 y0] 93)
                have c2 := Bk.new ((wr.alloc (.cells #[.int .i64 x0, .int .i64 y0, .int .i64 x1, .int .i64 y1] 75)).alloc (.cells #[.int .i64 x1, .int .i64 y0] 93)) 93 #[.int .i64 (x0 - 1), .int .i64 y0]
                have e2 : ((wr.alloc (.cells #[.int .i64 x0, .int .i64 y0, .int .i64 x1, .int .i64 y1] 75)).alloc (.cells #[.int .i64 x1, .int .i64 y0] 93)).heap.size = wr.heap.size + 1 + 1 := by simp
                rw [HsA.out] at c1
                rw [e2] at c2
                clear e2
                have cp := c2.drew
                have cq := c1.drew
                clear c1 c2
                have tB := ((tA.alloc tA.size (.cells #[.int .i64 x1, .int .i64 y0] 93)).alloc (by have := tA.size; have := HsA.out; simp; omega) (.cells #[.int .i64 (x0 - 1), .int .i64 y0] 93)).drew
                replace rA := (RL.alloc (RL.alloc rA (.cells #[.int .i64 x1, .int .i64 y0] 93)) (.cells #[.int .i64 (x0 - 1), .int .i64 y0] 93)).on ((Below.refl _ _).drew)
                replace sA := ((sA.alloc (.cells #[.int .i64 x1, .int .i64 y0] 93)).alloc (.cells #[.int .i64 (x0 - 1), .int .i64 y0] 93)).on ((Below.refl _ _).drew)
                replace xA := ((xA.alloc (.cells #[.int .i64 x1, .int .i64 y0] 93)).alloc (.cells #[.int .i64 (x0 - 1), .int .i64 y0] 93)).drew
                replace yA := ((yA.alloc (.cells #[.int .i64 x1, .int .i64 y0] 93)).alloc (.cells #[.int .i64 (x0 - 1), .int .i64 y0] 93)).drew
                replace zA := ((zA.alloc (.cells #[.int .i64 x1, .int .i64 y0] 93)).alloc (.cells #[.int .i64 (x0 - 1), .int .i64 y0] 93)).drew
                replace lA := ((lA.alloc (.cells #[.int .i64 x1, .int .i64 y0] 93)).alloc (.cells #[.int .i64 (x0 - 1), .int .i64 y0] 93)).drew
                replace bA := ((bA.alloc (.cells #[.int .i64 x1, .int .i64 y0] 93)).alloc (.cells #[.int .i64 (x0 - 1), .int .i64 y0] 93)).drew
                have hszB : w5.heap.size ≤ (((wr.alloc (.cells #[.int .i64 x0, .int .i64 y0, .int .i64 x1, .int .i64 y1] 75)).alloc (.cells #[.int .i64 x1, .int .i64 y0] 93)).alloc (.cells #[.int .i64 (x0 - 1), .int .i64 y0] 93)).drew.heap.size := by
                  show w5.heap.size ≤ (((wr.alloc (.cells #[.int .i64 x0, .int .i64 y0, .int .i64 x1, .int .i64 y1] 75)).alloc (.cells #[.int .i64 x1, .int .i64 y0] 93)).alloc (.cells #[.int .i64 (x0 - 1), .int .i64 y0] 93)).heap.size
                  simp
                  omega
                have hs0 : w.heap.size ≤ w5.heap.size ∧ w5.heap.size ≤ wr.heap.size := by omega
                revert cp cq tB rA sA xA yA zA lA bA hszB
                generalize World.drew _ = wz
                have hne : wr.heap.size + 1 + 1 ≠ wr.heap.size + 1 ∧ wr.heap.size ≠ wr.heap.size + 1 + 1 ∧ wr.heap.size ≠ wr.heap.size + 1 ∧ w.heap.size ≤ wr.heap.size + 1 + 1 ∧ w.heap.size ≤ wr.heap.size + 1 := by omega
                revert hne
                clear HsA tA d0 d1 d2 d3
                generalize wr.heap.size + 1 + 1 = bp
                generalize wr.heap.size + 1 = bq
                intro hne cp cq tB rA sA xA yA zA lA bA hszB
                rotate_left
                all_goals
                  obtain ⟨hpq, hrp, hrq, hp5, hq5⟩ := hne
                  obtain ⟨d0, d1, d2, d3⟩ := box4 bA
                  obtain ⟨m0, m1⟩ := box2 cp
                  obtain ⟨n0, n1⟩ := box2 cq
                  have i0 := cp.frozen 0
                  have i1 := cp.frozen 1
                  have j0 := cq.frozen 0
                  have j1 := cq.frozen 1
                  have xAp := xA.neB cp (by decide)
                  have xAq := xA.neB cq (by decide)
                  have yAp := yA.neB cp (by decide)
                  have yAq := yA.neB cq (by decide)
                  have zAp := zA.neB cp (by decide)
                  have zAq := zA.neB cq (by decide)
                  have lAp := lA.neB cp (by decide)
                  have lAq := lA.neB cq (by decide)
                  have rAp := cp.apart' rA (by decide)
                  have rAq := cq.apart' rA (by decide)
                  have sAp := cp.apart' sA.row (by decide)
                  have sAq := cq.apart' sA.row (by decide)
                  replace rA := Lib.hid rA
                  replace sA := Lib.hid sA
                  replace xA := Lib.hid xA
                  replace yA := Lib.hid yA
                  replace zA := Lib.hid zA
                  replace lA := Lib.hid lA
                  replace tB := Lib.hid tB
                  replace bA := Lib.hid bA
                  replace cp := Lib.hid cp
                  replace cq := Lib.hid cq
                  replace rAp := Lib.hid rAp
                  replace rAq := Lib.hid rAq
                  replace sAp := Lib.hid sAp
                  replace sAq := Lib.hid sAq
                  replace xAp := Lib.hid xAp
                  replace xAq := Lib.hid xAq
                  replace yAp := Lib.hid yAp
                  replace yAq := Lib.hid yAq
                  replace zAp := Lib.hid zAp
                  replace zAq := Lib.hid zAq
                  replace lAp := Lib.hid lAp
                  replace lAq := Lib.hid lAq
                  go_wp2
                  go_region_held3 (fun w' => w'.cell? ⟨wr.heap.size, 0, none⟩ = some (.int .i64 x0) ∧ w'.cell? ⟨wr.heap.size, 1, none⟩ = some (.int .i64 y0) ∧ w'.cell? ⟨wr.heap.size, 2, none⟩ = some (.int .i64 x1) ∧ w'.cell? ⟨wr.heap.size, 3, none⟩ = some (.int .i64 y1)) (first | with_reducible exact box4 bA.out.drew | with_reducible exact box4 (other2 bA.out hrp _ _).drew | with_reducible exact box4 (other2 bA.out hrq _ _).drew | with_reducible exact box4 (other2 (other2 bA.out hrp _ _) hrq _ _).drew | with_reducible exact box4 (other2 (other2 bA.out hrq _ _) hrp _ _).drew | go_keep) (fail)
                  all_goals rename_i hS16
                  all_goals
                    replace rA := rA.out; replace sA := sA.out; replace xA := xA.out; replace yA := yA.out; replace zA := zA.out; replace lA := lA.out; replace tB := tB.out; replace bA := bA.out; replace cp := cp.out; replace cq := cq.out; replace rAp := rAp.out; replace rAq := rAq.out; replace sAp := sAp.out; replace sAq := sAq.out; replace xAp := xAp.out; replace xAq := xAq.out; replace yAp := yAp.out; replace yAq := yAq.out; replace zAp := zAp.out; replace zAq := zAq.out; replace lAp := lAp.out; replace lAq := lAq.out
                  clear d0 d1 d2 d3 m0 m1 n0 n1 i0 i1 j0 j1
                  all_goals
                    first
                    | (have hck : (((((wz.setCell ⟨bp, 0, none⟩ (.int .i64 x0)).setCell ⟨bp, 1, none⟩ (.int .i64 (y0 - 1))).setCell ⟨bq, 0, none⟩ (.int .i64 x0)).setCell ⟨bq, 1, none⟩ (.int .i64 y1)).drew).cell? ⟨wr.heap.size, 0, none⟩ = some (.int .i64 x0) := (by with_reducible exact hS16.1); clear hck hS16; have cp3 := (other2 (set2 cp (.int .i64 x0) (.int .i64 (y0 - 1))) hpq (.int .i64 x0) (.int .i64 y1)).drew; have cq3 := (set2 (other2 cq (Ne.symm hpq) (.int .i64 x0) (.int .i64 (y0 - 1))) (.int .i64 x0) (.int .i64 y1)).drew; have xA3 := (GB.other2 (GB.other2 xA xAp (.int .i64 x0) (.int .i64 (y0 - 1))) xAq (.int .i64 x0) (.int .i64 y1)).drew; have yA3 := (GB.other2 (GB.other2 yA yAp (.int .i64 x0) (.int .i64 (y0 - 1))) yAq (.int .i64 x0) (.int .i64 y1)).drew; have zA3 := (GB.other2 (GB.other2 zA zAp (.int .i64 x0) (.int .i64 (y0 - 1))) zAq (.int .i64 x0) (.int .i64 y1)).drew; have lA3 := (other2 (other2 lA lAp (.int .i64 x0) (.int .i64 (y0 - 1))) lAq (.int .i64 x0) (.int .i64 y1)).drew; have bA3 := (other2 (other2 bA hrp (.int .i64 x0) (.int .i64 (y0 - 1))) hrq (.int .i64 x0) (.int .i64 y1)).drew; have rA3 := (RL.other2 (RL.other2 rA rAp (.int .i64 x0) (.int .i64 (y0 - 1))) rAq (.int .i64 x0) (.int .i64 y1)).on ((Below.refl _ _).drew); have sA3 := (Src.other2 (Src.other2 sA sAp (.int .i64 x0) (.int .i64 (y0 - 1))) sAq (.int .i64 x0) (.int .i64 y1)).on ((Below.refl _ _).drew); have tB3 := (below2 (below2 tB hp5 (.int .i64 x0) (.int .i64 (y0 - 1))) hq5 (.int .i64 x0) (.int .i64 y1)).drew; have hsz3 := Nat.le_trans hszB (size2 wz bp (.int .i64 x0) (.int .i64 (y0 - 1)) bq (.int .i64 x0) (.int .i64 y1)); revert cp3 cq3 xA3 yA3 zA3 lA3 bA3 rA3 sA3 tB3 hsz3; clear cp cq rA sA xA yA zA lA bA tB hszB; generalize World.drew _ = wy; intro cp cq xA yA zA lA bA rA sA tB hszB)
                    | (have hck : (((((wz.setCell ⟨bq, 0, none⟩ (.int .i64 x0)).setCell ⟨bq, 1, none⟩ (.int .i64 y1)).setCell ⟨bp, 0, none⟩ (.int .i64 x0)).setCell ⟨bp, 1, none⟩ (.int .i64 (y0 - 1))).drew).cell? ⟨wr.heap.size, 0, none⟩ = some (.int .i64 x0) := (by with_reducible exact hS16.1); clear hck hS16; have cp3 := (set2 (other2 cp hpq (.int .i64 x0) (.int .i64 y1)) (.int .i64 x0) (.int .i64 (y0 - 1))).drew; have cq3 := (other2 (set2 cq (.int .i64 x0) (.int .i64 y1)) (Ne.symm hpq) (.int .i64 x0) (.int .i64 (y0 - 1))).drew; have xA3 := (GB.other2 (GB.other2 xA xAq (.int .i64 x0) (.int .i64 y1)) xAp (.int .i64 x0) (.int .i64 (y0 - 1))).drew; have yA3 := (GB.other2 (GB.other2 yA yAq (.int .i64 x0) (.int .i64 y1)) yAp (.int .i64 x0) (.int .i64 (y0 - 1))).drew; have zA3 := (GB.other2 (GB.other2 zA zAq (.int .i64 x0) (.int .i64 y1)) zAp (.int .i64 x0) (.int .i64 (y0 - 1))).drew; have lA3 := (other2 (other2 lA lAq (.int .i64 x0) (.int .i64 y1)) lAp (.int .i64 x0) (.int .i64 (y0 - 1))).drew; have bA3 := (other2 (other2 bA hrq (.int .i64 x0) (.int .i64 y1)) hrp (.int .i64 x0) (.int .i64 (y0 - 1))).drew; have rA3 := (RL.other2 (RL.other2 rA rAq (.int .i64 x0) (.int .i64 y1)) rAp (.int .i64 x0) (.int .i64 (y0 - 1))).on ((Below.refl _ _).drew); have sA3 := (Src.other2 (Src.other2 sA sAq (.int .i64 x0) (.int .i64 y1)) sAp (.int .i64 x0) (.int .i64 (y0 - 1))).on ((Below.refl _ _).drew); have tB3 := (below2 (below2 tB hq5 (.int .i64 x0) (.int .i64 y1)) hp5 (.int .i64 x0) (.int .i64 (y0 - 1))).drew; have hsz3 := Nat.le_trans hszB (size2 wz bq (.int .i64 x0) (.int .i64 y1) bp (.int .i64 x0) (.int .i64 (y0 - 1))); revert cp3 cq3 xA3 yA3 zA3 lA3 bA3 rA3 sA3 tB3 hsz3; clear cp cq rA sA xA yA zA lA bA tB hszB; generalize World.drew _ = wy; intro cp cq xA yA zA lA bA rA sA tB hszB)
                    by_cases hc : endsG (cellsG rs) (cellsG qs) true ⟨x0, y0, x1, y1⟩ = true
                    · have Hn := Lib.hid (filter_yes Hr.out hc)
                      rw [ends_v] at hc
                      have hc2 : (hasG (cellsG rs) (x0) (y0 - 1) = true ∧ hasG (cellsG qs) (x0) (y1) = true) ∨ ((hasG (cellsG rs) (x0) (y0 - 1) = true ∧ hasG (cellsG qs) (x0) (y1) = false) ∧ (hasG (cellsG qs) (x0) (y0 - 1) = true ∧ hasG (cellsG rs) (x0) (y1) = true)) ∨ (hasG (cellsG rs) (x0) (y0 - 1) = false ∧ (hasG (cellsG qs) (x0) (y0 - 1) = true ∧ hasG (cellsG rs) (x0) (y1) = true)) := by
                        revert hc
                        cases hasG (cellsG rs) (x0) (y0 - 1) <;> cases hasG (cellsG qs) (x0) (y1) <;> cases hasG (cellsG qs) (x0) (y0 - 1) <;> cases hasG (cellsG rs) (x0) (y1) <;> simp
                      clear hc
                      rcases hc2 with ⟨ha, hb1⟩ | ⟨⟨ha, hb1⟩, hb0, ha0⟩ | ⟨ha, hb0, ha0⟩
                      · obtain ⟨m0, m1⟩ := box2 cp
                        obtain ⟨n0, n1⟩ := box2 cq
                        go_wp2_with fail
                        refine (has_any gx _ _ _ _ xA).mono ?_
                        rintro e wc ⟨rfl, hbc⟩
                        replace rA := rA.on hbc
                        replace sA := sA.on hbc
                        replace xA := xA.on hbc
                        replace yA := yA.on hbc
                        replace zA := zA.on hbc
                        replace lA := lA.on hbc
                        replace bA := bA.on hbc
                        replace cp := cp.on hbc
                        replace cq := cq.on hbc
                        replace tB := tB.trans (hbc.mono tB.size)
                        replace hszB := Nat.le_trans hszB hbc.size
                        clear hbc m0 m1 n0 n1
                        obtain ⟨m0, m1⟩ := box2 cp
                        obtain ⟨n0, n1⟩ := box2 cq
                        go_wp2_with fail
                        refine (has_any gy _ _ _ _ yA).mono ?_
                        rintro e wc ⟨rfl, hbc⟩
                        replace rA := rA.on hbc
                        replace sA := sA.on hbc
                        replace xA := xA.on hbc
                        replace yA := yA.on hbc
                        replace zA := zA.on hbc
                        replace lA := lA.on hbc
                        replace bA := bA.on hbc
                        replace cp := cp.on hbc
                        replace cq := cq.on hbc
                        replace tB := tB.trans (hbc.mono tB.size)
                        replace hszB := Nat.le_trans hszB hbc.size
                        clear hbc m0 m1 n0 n1
                        obtain ⟨d0, d1, d2, d3⟩ := box4 bA
                        go_wp2_with (at_builtin; refine wpList_append_R_at rfl (.tmp 101) (.tmp 103) rfl w.heap.size _ ps2 rfl rA _ _ _ _ rfl hl3 tB.size ?_)
                        intro v1 w6 ho1 hg1 hb6 hat
                        go_wp2
                        have hsz6 := hg1.size
                        exact ⟨⟨k + 1, _, by omega, by go_num, ho1, Lib.hid (by rw [hps2.out, Hn.out, List.append_assoc]), ho.next hszB hat, sA.kept ho hg1, xA.keptR rA (by decide) hg1, yA.keptR rA (by decide) hg1, zA.keptR rA (by decide) hg1, lA.grown hg1 (lA.apart' rA (by decide)), by omega, tB.trans hb6⟩, by simp [intOf]; omega⟩
                      · obtain ⟨m0, m1⟩ := box2 cp
                        obtain ⟨n0, n1⟩ := box2 cq
                        go_wp2_with fail
                        refine (has_any gx _ _ _ _ xA).mono ?_
                        rintro e wc ⟨rfl, hbc⟩
                        replace rA := rA.on hbc
                        replace sA := sA.on hbc
                        replace xA := xA.on hbc
                        replace yA := yA.on hbc
                        replace zA := zA.on hbc
                        replace lA := lA.on hbc
                        replace bA := bA.on hbc
                        replace cp := cp.on hbc
                        replace cq := cq.on hbc
                        replace tB := tB.trans (hbc.mono tB.size)
                        replace hszB := Nat.le_trans hszB hbc.size
                        clear hbc m0 m1 n0 n1
                        obtain ⟨m0, m1⟩ := box2 cp
                        obtain ⟨n0, n1⟩ := box2 cq
                        go_wp2_with fail
                        refine (has_any gy _ _ _ _ yA).mono ?_
                        rintro e wc ⟨rfl, hbc⟩
                        replace rA := rA.on hbc
                        replace sA := sA.on hbc
                        replace xA := xA.on hbc
                        replace yA := yA.on hbc
                        replace zA := zA.on hbc
                        replace lA := lA.on hbc
                        replace bA := bA.on hbc
                        replace cp := cp.on hbc
                        replace cq := cq.on hbc
                        replace tB := tB.trans (hbc.mono tB.size)
                        replace hszB := Nat.le_trans hszB hbc.size
                        clear hbc m0 m1 n0 n1
                        obtain ⟨m0, m1⟩ := box2 cp
                        obtain ⟨n0, n1⟩ := box2 cq
                        go_wp2_with fail
                        refine (has_any gy _ _ _ _ yA).mono ?_
                        rintro e wc ⟨rfl, hbc⟩
                        replace rA := rA.on hbc
                        replace sA := sA.on hbc
                        replace xA := xA.on hbc
                        replace yA := yA.on hbc
                        replace zA := zA.on hbc
                        replace lA := lA.on hbc
                        replace bA := bA.on hbc
                        replace cp := cp.on hbc
                        replace cq := cq.on hbc
                        replace tB := tB.trans (hbc.mono tB.size)
                        replace hszB := Nat.le_trans hszB hbc.size
                        clear hbc m0 m1 n0 n1
                        obtain ⟨m0, m1⟩ := box2 cp
                        obtain ⟨n0, n1⟩ := box2 cq
                        go_wp2_with fail
                        refine (has_any gx _ _ _ _ xA).mono ?_
                        rintro e wc ⟨rfl, hbc⟩
                        replace rA := rA.on hbc
                        replace sA := sA.on hbc
                        replace xA := xA.on hbc
                        replace yA := yA.on hbc
                        replace zA := zA.on hbc
                        replace lA := lA.on hbc
                        replace bA := bA.on hbc
                        replace cp := cp.on hbc
                        replace cq := cq.on hbc
                        replace tB := tB.trans (hbc.mono tB.size)
                        replace hszB := Nat.le_trans hszB hbc.size
                        clear hbc m0 m1 n0 n1
                        obtain ⟨d0, d1, d2, d3⟩ := box4 bA
                        go_wp2_with (at_builtin; refine wpList_append_R_at rfl (.tmp 101) (.tmp 103) rfl w.heap.size _ ps2 rfl rA _ _ _ _ rfl hl3 tB.size ?_)
                        intro v1 w6 ho1 hg1 hb6 hat
                        go_wp2
                        have hsz6 := hg1.size
                        exact ⟨⟨k + 1, _, by omega, by go_num, ho1, Lib.hid (by rw [hps2.out, Hn.out, List.append_assoc]), ho.next hszB hat, sA.kept ho hg1, xA.keptR rA (by decide) hg1, yA.keptR rA (by decide) hg1, zA.keptR rA (by decide) hg1, lA.grown hg1 (lA.apart' rA (by decide)), by omega, tB.trans hb6⟩, by simp [intOf]; omega⟩
                      · obtain ⟨m0, m1⟩ := box2 cp
                        obtain ⟨n0, n1⟩ := box2 cq
                        go_wp2_with fail
                        refine (has_any gx _ _ _ _ xA).mono ?_
                        rintro e wc ⟨rfl, hbc⟩
                        replace rA := rA.on hbc
                        replace sA := sA.on hbc
                        replace xA := xA.on hbc
                        replace yA := yA.on hbc
                        replace zA := zA.on hbc
                        replace lA := lA.on hbc
                        replace bA := bA.on hbc
                        replace cp := cp.on hbc
                        replace cq := cq.on hbc
                        replace tB := tB.trans (hbc.mono tB.size)
                        replace hszB := Nat.le_trans hszB hbc.size
                        clear hbc m0 m1 n0 n1
                        obtain ⟨m0, m1⟩ := box2 cp
                        obtain ⟨n0, n1⟩ := box2 cq
                        go_wp2_with fail
                        refine (has_any gy _ _ _ _ yA).mono ?_
                        rintro e wc ⟨rfl, hbc⟩
                        replace rA := rA.on hbc
                        replace sA := sA.on hbc
                        replace xA := xA.on hbc
                        replace yA := yA.on hbc
                        replace zA := zA.on hbc
                        replace lA := lA.on hbc
                        replace bA := bA.on hbc
                        replace cp := cp.on hbc
                        replace cq := cq.on hbc
                        replace tB := tB.trans (hbc.mono tB.size)
                        replace hszB := Nat.le_trans hszB hbc.size
                        clear hbc m0 m1 n0 n1
                        obtain ⟨m0, m1⟩ := box2 cp
                        obtain ⟨n0, n1⟩ := box2 cq
                        go_wp2_with fail
                        refine (has_any gx _ _ _ _ xA).mono ?_
                        rintro e wc ⟨rfl, hbc⟩
                        replace rA := rA.on hbc
                        replace sA := sA.on hbc
                        replace xA := xA.on hbc
                        replace yA := yA.on hbc
                        replace zA := zA.on hbc
                        replace lA := lA.on hbc
                        replace bA := bA.on hbc
                        replace cp := cp.on hbc
                        replace cq := cq.on hbc
                        replace tB := tB.trans (hbc.mono tB.size)
                        replace hszB := Nat.le_trans hszB hbc.size
                        clear hbc m0 m1 n0 n1
                        obtain ⟨d0, d1, d2, d3⟩ := box4 bA
                        go_wp2_with (at_builtin; refine wpList_append_R_at rfl (.tmp 101) (.tmp 103) rfl w.heap.size _ ps2 rfl rA _ _ _ _ rfl hl3 tB.size ?_)
                        intro v1 w6 ho1 hg1 hb6 hat
                        go_wp2
                        have hsz6 := hg1.size
                        exact ⟨⟨k + 1, _, by omega, by go_num, ho1, Lib.hid (by rw [hps2.out, Hn.out, List.append_assoc]), ho.next hszB hat, sA.kept ho hg1, xA.keptR rA (by decide) hg1, yA.keptR rA (by decide) hg1, zA.keptR rA (by decide) hg1, lA.grown hg1 (lA.apart' rA (by decide)), by omega, tB.trans hb6⟩, by simp [intOf]; omega⟩
                    · have hcn : endsG (cellsG rs) (cellsG qs) true ⟨x0, y0, x1, y1⟩ = false := by simpa using hc
                      have Hn := Lib.hid (filter_no Hr.out hcn)
                      clear hc
                      rw [ends_v] at hcn
                      have hc2 : ((hasG (cellsG rs) (x0) (y0 - 1) = true ∧ hasG (cellsG qs) (x0) (y1) = false) ∧ (hasG (cellsG qs) (x0) (y0 - 1) = true ∧ hasG (cellsG rs) (x0) (y1) = false)) ∨ ((hasG (cellsG rs) (x0) (y0 - 1) = true ∧ hasG (cellsG qs) (x0) (y1) = false) ∧ hasG (cellsG qs) (x0) (y0 - 1) = false) ∨ (hasG (cellsG rs) (x0) (y0 - 1) = false ∧ (hasG (cellsG qs) (x0) (y0 - 1) = true ∧ hasG (cellsG rs) (x0) (y1) = false)) ∨ (hasG (cellsG rs) (x0) (y0 - 1) = false ∧ hasG (cellsG qs) (x0) (y0 - 1) = false) := by
                        revert hcn
                        cases hasG (cellsG rs) (x0) (y0 - 1) <;> cases hasG (cellsG qs) (x0) (y1) <;> cases hasG (cellsG qs) (x0) (y0 - 1) <;> cases hasG (cellsG rs) (x0) (y1) <;> simp
                      clear hcn
                      rcases hc2 with ⟨⟨ha, hb1⟩, hb0, ha0⟩ | ⟨⟨ha, hb1⟩, hb0⟩ | ⟨ha, hb0, ha0⟩ | ⟨ha, hb0⟩
                      · obtain ⟨m0, m1⟩ := box2 cp
                        obtain ⟨n0, n1⟩ := box2 cq
                        go_wp2_with fail
                        refine (has_any gx _ _ _ _ xA).mono ?_
                        rintro e wc ⟨rfl, hbc⟩
                        replace rA := rA.on hbc
                        replace sA := sA.on hbc
                        replace xA := xA.on hbc
                        replace yA := yA.on hbc
                        replace zA := zA.on hbc
                        replace lA := lA.on hbc
                        replace bA := bA.on hbc
                        replace cp := cp.on hbc
                        replace cq := cq.on hbc
                        replace tB := tB.trans (hbc.mono tB.size)
                        replace hszB := Nat.le_trans hszB hbc.size
                        clear hbc m0 m1 n0 n1
                        obtain ⟨m0, m1⟩ := box2 cp
                        obtain ⟨n0, n1⟩ := box2 cq
                        go_wp2_with fail
                        refine (has_any gy _ _ _ _ yA).mono ?_
                        rintro e wc ⟨rfl, hbc⟩
                        replace rA := rA.on hbc
                        replace sA := sA.on hbc
                        replace xA := xA.on hbc
                        replace yA := yA.on hbc
                        replace zA := zA.on hbc
                        replace lA := lA.on hbc
                        replace bA := bA.on hbc
                        replace cp := cp.on hbc
                        replace cq := cq.on hbc
                        replace tB := tB.trans (hbc.mono tB.size)
                        replace hszB := Nat.le_trans hszB hbc.size
                        clear hbc m0 m1 n0 n1
                        obtain ⟨m0, m1⟩ := box2 cp
                        obtain ⟨n0, n1⟩ := box2 cq
                        go_wp2_with fail
                        refine (has_any gy _ _ _ _ yA).mono ?_
                        rintro e wc ⟨rfl, hbc⟩
                        replace rA := rA.on hbc
                        replace sA := sA.on hbc
                        replace xA := xA.on hbc
                        replace yA := yA.on hbc
                        replace zA := zA.on hbc
                        replace lA := lA.on hbc
                        replace bA := bA.on hbc
                        replace cp := cp.on hbc
                        replace cq := cq.on hbc
                        replace tB := tB.trans (hbc.mono tB.size)
                        replace hszB := Nat.le_trans hszB hbc.size
                        clear hbc m0 m1 n0 n1
                        obtain ⟨m0, m1⟩ := box2 cp
                        obtain ⟨n0, n1⟩ := box2 cq
                        go_wp2_with fail
                        refine (has_any gx _ _ _ _ xA).mono ?_
                        rintro e wc ⟨rfl, hbc⟩
                        replace rA := rA.on hbc
                        replace sA := sA.on hbc
                        replace xA := xA.on hbc
                        replace yA := yA.on hbc
                        replace zA := zA.on hbc
                        replace lA := lA.on hbc
                        replace bA := bA.on hbc
                        replace cp := cp.on hbc
                        replace cq := cq.on hbc
                        replace tB := tB.trans (hbc.mono tB.size)
                        replace hszB := Nat.le_trans hszB hbc.size
                        clear hbc m0 m1 n0 n1
                        go_wp2
                        exact ⟨⟨k + 1, _, by omega, by go_num, rA, Lib.hid (by rw [hps2.out, Hn.out]), ho, sA, xA, yA, zA, lA, hszB, tB⟩, by simp [intOf]; omega⟩
                      · obtain ⟨m0, m1⟩ := box2 cp
                        obtain ⟨n0, n1⟩ := box2 cq
                        go_wp2_with fail
                        refine (has_any gx _ _ _ _ xA).mono ?_
                        rintro e wc ⟨rfl, hbc⟩
                        replace rA := rA.on hbc
                        replace sA := sA.on hbc
                        replace xA := xA.on hbc
                        replace yA := yA.on hbc
                        replace zA := zA.on hbc
                        replace lA := lA.on hbc
                        replace bA := bA.on hbc
                        replace cp := cp.on hbc
                        replace cq := cq.on hbc
                        replace tB := tB.trans (hbc.mono tB.size)
                        replace hszB := Nat.le_trans hszB hbc.size
                        clear hbc m0 m1 n0 n1
                        obtain ⟨m0, m1⟩ := box2 cp
                        obtain ⟨n0, n1⟩ := box2 cq
                        go_wp2_with fail
                        refine (has_any gy _ _ _ _ yA).mono ?_
                        rintro e wc ⟨rfl, hbc⟩
                        replace rA := rA.on hbc
                        replace sA := sA.on hbc
                        replace xA := xA.on hbc
                        replace yA := yA.on hbc
                        replace zA := zA.on hbc
                        replace lA := lA.on hbc
                        replace bA := bA.on hbc
                        replace cp := cp.on hbc
                        replace cq := cq.on hbc
                        replace tB := tB.trans (hbc.mono tB.size)
                        replace hszB := Nat.le_trans hszB hbc.size
                        clear hbc m0 m1 n0 n1
                        obtain ⟨m0, m1⟩ := box2 cp
                        obtain ⟨n0, n1⟩ := box2 cq
                        go_wp2_with fail
                        refine (has_any gy _ _ _ _ yA).mono ?_
                        rintro e wc ⟨rfl, hbc⟩
                        replace rA := rA.on hbc
                        replace sA := sA.on hbc
                        replace xA := xA.on hbc
                        replace yA := yA.on hbc
                        replace zA := zA.on hbc
                        replace lA := lA.on hbc
                        replace bA := bA.on hbc
                        replace cp := cp.on hbc
                        replace cq := cq.on hbc
                        replace tB := tB.trans (hbc.mono tB.size)
                        replace hszB := Nat.le_trans hszB hbc.size
                        clear hbc m0 m1 n0 n1
                        go_wp2
                        exact ⟨⟨k + 1, _, by omega, by go_num, rA, Lib.hid (by rw [hps2.out, Hn.out]), ho, sA, xA, yA, zA, lA, hszB, tB⟩, by simp [intOf]; omega⟩
                      · obtain ⟨m0, m1⟩ := box2 cp
                        obtain ⟨n0, n1⟩ := box2 cq
                        go_wp2_with fail
                        refine (has_any gx _ _ _ _ xA).mono ?_
                        rintro e wc ⟨rfl, hbc⟩
                        replace rA := rA.on hbc
                        replace sA := sA.on hbc
                        replace xA := xA.on hbc
                        replace yA := yA.on hbc
                        replace zA := zA.on hbc
                        replace lA := lA.on hbc
                        replace bA := bA.on hbc
                        replace cp := cp.on hbc
                        replace cq := cq.on hbc
                        replace tB := tB.trans (hbc.mono tB.size)
                        replace hszB := Nat.le_trans hszB hbc.size
                        clear hbc m0 m1 n0 n1
                        obtain ⟨m0, m1⟩ := box2 cp
                        obtain ⟨n0, n1⟩ := box2 cq
                        go_wp2_with fail
                        refine (has_any gy _ _ _ _ yA).mono ?_
                        rintro e wc ⟨rfl, hbc⟩
                        replace rA := rA.on hbc
                        replace sA := sA.on hbc
                        replace xA := xA.on hbc
                        replace yA := yA.on hbc
                        replace zA := zA.on hbc
                        replace lA := lA.on hbc
                        replace bA := bA.on hbc
                        replace cp := cp.on hbc
                        replace cq := cq.on hbc
                        replace tB := tB.trans (hbc.mono tB.size)
                        replace hszB := Nat.le_trans hszB hbc.size
                        clear hbc m0 m1 n0 n1
                        obtain ⟨m0, m1⟩ := box2 cp
                        obtain ⟨n0, n1⟩ := box2 cq
                        go_wp2_with fail
                        refine (has_any gx _ _ _ _ xA).mono ?_
                        rintro e wc ⟨rfl, hbc⟩
                        replace rA := rA.on hbc
                        replace sA := sA.on hbc
                        replace xA := xA.on hbc
                        replace yA := yA.on hbc
                        replace zA := zA.on hbc
                        replace lA := lA.on hbc
                        replace bA := bA.on hbc
                        replace cp := cp.on hbc
                        replace cq := cq.on hbc
                        replace tB := tB.trans (hbc.mono tB.size)
                        replace hszB := Nat.le_trans hszB hbc.size
                        clear hbc m0 m1 n0 n1
                        go_wp2
                        exact ⟨⟨k + 1, _, by omega, by go_num, rA, Lib.hid (by rw [hps2.out, Hn.out]), ho, sA, xA, yA, zA, lA, hszB, tB⟩, by simp [intOf]; omega⟩
                      · obtain ⟨m0, m1⟩ := box2 cp
                        obtain ⟨n0, n1⟩ := box2 cq
                        go_wp2_with fail
                        refine (has_any gx _ _ _ _ xA).mono ?_
                        rintro e wc ⟨rfl, hbc⟩
                        replace rA := rA.on hbc
                        replace sA := sA.on hbc
                        replace xA := xA.on hbc
                        replace yA := yA.on hbc
                        replace zA := zA.on hbc
                        replace lA := lA.on hbc
                        replace bA := bA.on hbc
                        replace cp := cp.on hbc
                        replace cq := cq.on hbc
                        replace tB := tB.trans (hbc.mono tB.size)
                        replace hszB := Nat.le_trans hszB hbc.size
                        clear hbc m0 m1 n0 n1
                        obtain ⟨m0, m1⟩ := box2 cp
                        obtain ⟨n0, n1⟩ := box2 cq
                        go_wp2_with fail
                        refine (has_any gy _ _ _ _ yA).mono ?_
                        rintro e wc ⟨rfl, hbc⟩
                        replace rA := rA.on hbc
                        replace sA := sA.on hbc
                        replace xA := xA.on hbc
                        replace yA := yA.on hbc
                        replace zA := zA.on hbc
                        replace lA := lA.on hbc
                        replace bA := bA.on hbc
                        replace cp := cp.on hbc
                        replace cq := cq.on hbc
                        replace tB := tB.trans (hbc.mono tB.size)
                        replace hszB := Nat.le_trans hszB hbc.size
                        clear hbc m0 m1 n0 n1
                        go_wp2
                        exact ⟨⟨k + 1, _, by omega, by go_num, rA, Lib.hid (by rw [hps2.out, Hn.out]), ho, sA, xA, yA, zA, lA, hszB, tB⟩, by simp [intOf]; omega⟩
              · have Hd := Lib.hid (hps2.out.trans (by rw [filter_all (by omega), btw_gaps]))
                go_wp2
                exact ⟨⟨2, ps2, by omega, by go_num, hR2, Lib.hid (by rw [Hd.out]; rfl), hX2, hY2, hZ2, hBL2, hb2⟩, by simp [intOf]⟩
          · have hn2 : n = 2 := by omega
            subst hn2
            have Hd := Lib.hid (hps.out.trans (show partB (cellsG rs) (cellsG qs) 2 = allBtw (cellsG rs) (cellsG qs) from rfl))
            go_wp2
            go_ret
            rw [Hd.out] at hR
            exact ⟨_, rfl, hR, hb⟩

end Go.Proofs.YtjiljodchebniaaGreat
