/- Contract: the reference's l19Near. Condition: 0 ≤ k ≤ 8. Contracts: the program's grown and grow. Conditions: rectangles of the chip, 0 ≤ k ≤ 1000. Contracts: MarkEnclosure and EnclosureMargin of the program and of the reference. No conditions. Contracts: EnclosureMargin of the program and of the reference. No conditions. -/
import Derived.Test.YtbljapihmkmolaaGreatMathA
import Derived.Test.YtbljapihmkmolaaGreatMemA
import Derived.Test.YtbljapihmkmolaaGreatAllRuns
import Derived.Test.YtbljapihmkmolaaGreatCanonA
import Derived.Test.YtbljapihmkmolaaGreatCombA
import Derived.Test.YtbljapihmkmolaaGreatWidthA
namespace Go.Proofs.YtbljapihmkmolaaGreat
open Go.RowKit

theorem flat_xy {a b : Nat} (hb : b < 80) : (a * 80 + b) % 80 = b ∧ (a * 80 + b) / 80 = a := by omega
theorem ix_flat {a b : Nat} : (ix ((b : Int) - 40) ((a : Int) - 40)).toNat = a * 80 + b := by unfold ix; omega
/-- The segment of a cell, begun. -/
theorem hseg_start (G : Gr) (k x y : Int) : orR G ⟨x - k, y, x + -k, y + 1⟩ = G := orR_empty _ _ (.inl (by dsimp only; omega))
theorem vseg_start (G : Gr) (k x y : Int) : orR G ⟨x, y - k, x + 1, y + -k⟩ = G := orR_empty _ _ (.inr (by dsimp only; omega))
theorem hseg_end {a b : Nat} (hb : b < 80) (k : Int) : hseg k (a * 80 + b) = ⟨(b : Int) - 40 - k, (a : Int) - 40, (b : Int) - 40 + (k + 1), (a : Int) - 40 + 1⟩ := by
  obtain ⟨e1, e2⟩ := flat_xy (a := a) hb
  unfold hseg
  rw [e1, e2]
theorem vseg_end {a b : Nat} (hb : b < 80) (k : Int) : vseg k (a * 80 + b) = ⟨(b : Int) - 40, (a : Int) - 40 - k, (b : Int) - 40 + 1, (a : Int) - 40 + (k + 1)⟩ := by
  obtain ⟨e1, e2⟩ := flat_xy (a := a) hb
  unfold vseg
  rw [e1, e2]

set_option maxHeartbeats 1600000 in
set_option maxRecDepth 100000 in
/-- l19Near. -/
theorem l19Near_any (v : Value) (G : Gr) (k : Int) (w : World) (hG : GS w 0 v G) (hk : 0 ≤ k ∧ k ≤ 8) : Calls Tryz.prog 108 #[v, .int .i64 k] w fun e w' => ∃ u, e = .returned u ∧ GS w' w.heap.size u (nearG G k) ∧ Below w.heap.size w w' := by
  obtain ⟨g, c, rfl, -, hg⟩ := hG
  have hgl := hg.lt
  have hmk := run_make_6400
  have g0 := (GB.made w 4).alloc (.cells noCells 4)
  have g1 : GB ((w.alloc (.cells noCells 4)).alloc (.cells noCells 4)) (w.heap.size + 1) 4 emptyG := by simpa using GB.made (w.alloc (.cells noCells 4)) 4
  have b0 : Below w.heap.size w ((w.alloc (.cells noCells 4)).alloc (.cells noCells 4)) := ((Below.refl _ _).alloc (Nat.le_refl _) _).alloc (by simp) _
  go_enter Tryz.func108, Tryz.ntmps108
  go_wp2
  clear hmk
  go_loopw [7] (fun yv wr => ∃ a : Nat, a ≤ 80 ∧ yv = .int .i64 ((a : Int) - 40) ∧ GB wr w.heap.size 4 (spreadG G (hseg k) (a * 80)) ∧ GB wr (w.heap.size + 1) 4 emptyG ∧ Below w.heap.size w wr) (fun yv _ => (40 - intOf yv).toNat)
  case atStart => exact ⟨0, by omega, rfl, g0, g1, b0⟩
  case round =>
    obtain ⟨a, ha, rfl, hW, hO, hb⟩ := hrel
    by_cases hlt : a < 80
    · go_wp2
      have hd : decide ((a : Int) - 40 < 40) = true := decide_eq_true (by omega)
      try rw [hd]
      go_loopw [8] (fun xv wi => ∃ b : Nat, b ≤ 80 ∧ xv = .int .i64 ((b : Int) - 40) ∧ GB wi w.heap.size 4 (spreadG G (hseg k) (a * 80 + b)) ∧ GB wi (w.heap.size + 1) 4 emptyG ∧ Below w.heap.size w wi) (fun xv _ => (40 - intOf xv).toNat)
      case atStart => exact ⟨0, by omega, rfl, hW, hO, hb⟩
      case round =>
        obtain ⟨b, hb80, rfl, hW1, hO1, hb1⟩ := hrel
        by_cases hx : b < 80
        · obtain ⟨em, ed⟩ := flat_xy (a := a) hx
          have Hstart := Lib.hid (hseg_start (spreadG G (hseg k) (a * 80 + b)) k ((b : Int) - 40) ((a : Int) - 40))
          go_wp2
          have hd2 : decide ((b : Int) - 40 < 40) = true := decide_eq_true (by omega)
          try rw [hd2]
          go_loopw [9] (fun dv wj => ∃ d : Int, -k ≤ d ∧ d ≤ k + 1 ∧ dv = .int .i64 d ∧ Hid (d = -k ∨ G (a * 80 + b) = true) ∧ GB wj w.heap.size 4 (orR (spreadG G (hseg k) (a * 80 + b)) ⟨((b : Int) - 40) - k, ((a : Int) - 40), ((b : Int) - 40) + d, ((a : Int) - 40) + 1⟩) ∧ GB wj (w.heap.size + 1) 4 emptyG ∧ Below w.heap.size w wj) (fun dv _ => (k + 1 - intOf dv).toNat)
          case atStart => exact ⟨-k, by omega, by omega, rfl, Lib.hid (.inl rfl), by rw [Hstart.out]; exact hW1, hO1, hb1⟩
          case round =>
            obtain ⟨d, hd0, hd1, rfl, hdk, hW2, hO1, hb2⟩ := hrel
            clear hW1
            have hsrc := hg.below hb2 hgl
            have hc := hsrc.ix_ (x := ((b : Int) - 40)) (y := ((a : Int) - 40)) ((onC_iff _ _).2 (by omega))
            rw [ix_flat] at hc
            have hix : (ix ((b : Int) - 40) ((a : Int) - 40)).toNat = a * 80 + b := ix_flat
            have hi : 0 ≤ ix ((b : Int) - 40) ((a : Int) - 40) ∧ ix ((b : Int) - 40) ((a : Int) - 40) < 6400 := by unfold ix; omega
            by_cases hG : G (a * 80 + b) = true
            · by_cases hdle : d ≤ k
              · by_cases hon : onC (((b : Int) - 40) + d) ((a : Int) - 40) = true
                · have Hn := Lib.hid (orR_cellH (spreadG G (hseg k) (a * 80 + b)) (((b : Int) - 40) - k) (((b : Int) - 40) + d) ((a : Int) - 40) (by omega) hon)
                  have hz := hW2.frozen (ix (((b : Int) - 40) + d) ((a : Int) - 40)).toNat
                  have hc2 := hW2.ix_ hon
                  have hi2 : 0 ≤ ix (((b : Int) - 40) + d) ((a : Int) - 40) ∧ ix (((b : Int) - 40) + d) ((a : Int) - 40) < 6400 := by have := (onC_iff _ _).1 hon; unfold ix; omega
                  go_wp2_with (first | (go_at_call 158; refine (l17At_any _ _ (by omega) _).mono ?_; rintro e w1 ⟨rfl, rfl⟩) | (go_at_call 159; refine (l17Inside_any _ _ _).mono ?_; rintro e w1 ⟨rfl, rfl⟩))
                  refine ⟨⟨d + 1, by omega, by omega, rfl, Lib.hid (.inr hG), ?_, hO1.other (by simp) _, hb2.setCell (Nat.le_refl _) _⟩, by simp [intOf]; omega⟩
                  rw [← Int.add_assoc, ← Hn.out]
                  exact hW2.store (by omega) true
                · have hon2 : onC (((b : Int) - 40) + d) ((a : Int) - 40) = false := by simpa using hon
                  clear hon
                  have Hn := Lib.hid (orR_offH (spreadG G (hseg k) (a * 80 + b)) (((b : Int) - 40) - k) (((b : Int) - 40) + d) ((a : Int) - 40) (by omega) hon2)
                  go_wp2_with (first | (go_at_call 158; refine (l17At_any _ _ (by omega) _).mono ?_; rintro e w1 ⟨rfl, rfl⟩) | (go_at_call 159; refine (l17Inside_any _ _ _).mono ?_; rintro e w1 ⟨rfl, rfl⟩))
                  refine ⟨⟨d + 1, by omega, by omega, rfl, Lib.hid (.inr hG), ?_, hO1, hb2⟩, by simp [intOf]; omega⟩
                  rw [← Int.add_assoc]
                  exact hW2.same Hn.out
              · have hde : d = k + 1 := by omega
                have Hn := Lib.hid (spread_yes (seg := hseg k) hG)
                have Hs := Lib.hid (hseg_end (a := a) hx k)
                go_wp2
                refine ⟨⟨b + 1, by omega, by go_num, ?_, hO1, hb2⟩, by simp [intOf]; omega⟩
                rw [hde] at hW2
                rw [← Nat.add_assoc, Hn.out, Hs.out]
                exact hW2
            · have hG2 : G (a * 80 + b) = false := by simpa using hG
              have hde : d = -k := by rcases hdk.out with h | h; exact h; exact absurd h hG
              clear hG
              have hdle : d ≤ k := by omega
              have Hn := Lib.hid (spread_no (seg := hseg k) hG2)
              go_wp2_with (go_at_call 158; refine (l17At_any _ _ (by omega) _).mono ?_; rintro e w1 ⟨rfl, rfl⟩)
              refine ⟨⟨b + 1, by omega, by go_num, ?_, hO1, hb2⟩, by simp [intOf]; omega⟩
              rw [hde, Hstart.out] at hW2
              rw [← Nat.add_assoc, Hn.out]
              exact hW2
        · have hbe : b = 80 := by omega
          go_wp2
          refine ⟨⟨a + 1, by omega, by go_num, ?_, hO1, hb1⟩, by simp [intOf]; omega⟩
          rw [hbe] at hW1
          rw [Nat.succ_mul]
          exact hW1
    · have hae : a = 80 := by omega
      have hWide : GB wr w.heap.size 4 (wideG G k) := by
        rw [hae] at hW
        exact hW
      clear hW g0 g1 b0 hae
      have hdz : decide ((a : Int) - 40 < 40) = false := decide_eq_false (by omega)
      go_wp2
      try rw [hdz]
      clear hdz hlt ha
      go_loopw [10] (fun yv wr => ∃ a : Nat, a ≤ 80 ∧ yv = .int .i64 ((a : Int) - 40) ∧ GB wr (w.heap.size + 1) 4 (spreadG (wideG G k) (vseg k) (a * 80)) ∧ GB wr w.heap.size 4 (wideG G k) ∧ Below w.heap.size w wr) (fun yv _ => (40 - intOf yv).toNat)
      case atStart => exact ⟨0, by omega, rfl, hO, hWide, hb⟩
      case round =>
        obtain ⟨a, ha, rfl, hW, hO, hb⟩ := hrel
        by_cases hlt : a < 80
        · go_wp2
          have hd : decide ((a : Int) - 40 < 40) = true := decide_eq_true (by omega)
          try rw [hd]
          go_loopw [11] (fun xv wi => ∃ b : Nat, b ≤ 80 ∧ xv = .int .i64 ((b : Int) - 40) ∧ GB wi (w.heap.size + 1) 4 (spreadG (wideG G k) (vseg k) (a * 80 + b)) ∧ GB wi w.heap.size 4 (wideG G k) ∧ Below w.heap.size w wi) (fun xv _ => (40 - intOf xv).toNat)
          case atStart => exact ⟨0, by omega, rfl, hW, hO, hb⟩
          case round =>
            obtain ⟨b, hb80, rfl, hW1, hO1, hb1⟩ := hrel
            by_cases hx : b < 80
            · obtain ⟨em, ed⟩ := flat_xy (a := a) hx
              have Hstart := Lib.hid (vseg_start (spreadG (wideG G k) (vseg k) (a * 80 + b)) k ((b : Int) - 40) ((a : Int) - 40))
              go_wp2
              have hd2 : decide ((b : Int) - 40 < 40) = true := decide_eq_true (by omega)
              try rw [hd2]
              go_loopw [12] (fun dv wj => ∃ d : Int, -k ≤ d ∧ d ≤ k + 1 ∧ dv = .int .i64 d ∧ Hid (d = -k ∨ (wideG G k) (a * 80 + b) = true) ∧ GB wj (w.heap.size + 1) 4 (orR (spreadG (wideG G k) (vseg k) (a * 80 + b)) ⟨((b : Int) - 40), ((a : Int) - 40) - k, ((b : Int) - 40) + 1, ((a : Int) - 40) + d⟩) ∧ GB wj w.heap.size 4 (wideG G k) ∧ Below w.heap.size w wj) (fun dv _ => (k + 1 - intOf dv).toNat)
              case atStart => exact ⟨-k, by omega, by omega, rfl, Lib.hid (.inl rfl), by rw [Hstart.out]; exact hW1, hO1, hb1⟩
              case round =>
                obtain ⟨d, hd0, hd1, rfl, hdk, hW2, hO1, hb2⟩ := hrel
                clear hW1
                have hsrc := hO1
                have hc := hsrc.ix_ (x := ((b : Int) - 40)) (y := ((a : Int) - 40)) ((onC_iff _ _).2 (by omega))
                rw [ix_flat] at hc
                have hix : (ix ((b : Int) - 40) ((a : Int) - 40)).toNat = a * 80 + b := ix_flat
                have hi : 0 ≤ ix ((b : Int) - 40) ((a : Int) - 40) ∧ ix ((b : Int) - 40) ((a : Int) - 40) < 6400 := by unfold ix; omega
                by_cases hG : (wideG G k) (a * 80 + b) = true
                · by_cases hdle : d ≤ k
                  · by_cases hon : onC ((b : Int) - 40) (((a : Int) - 40) + d) = true
                    · have Hn := Lib.hid (orR_cellV (spreadG (wideG G k) (vseg k) (a * 80 + b)) ((b : Int) - 40) (((a : Int) - 40) - k) (((a : Int) - 40) + d) (by omega) hon)
                      have hz := hW2.frozen (ix ((b : Int) - 40) (((a : Int) - 40) + d)).toNat
                      have hc2 := hW2.ix_ hon
                      have hi2 : 0 ≤ ix ((b : Int) - 40) (((a : Int) - 40) + d) ∧ ix ((b : Int) - 40) (((a : Int) - 40) + d) < 6400 := by have := (onC_iff _ _).1 hon; unfold ix; omega
                      go_wp2_with (first | (go_at_call 158; refine (l17At_any _ _ (by omega) _).mono ?_; rintro e w1 ⟨rfl, rfl⟩) | (go_at_call 159; refine (l17Inside_any _ _ _).mono ?_; rintro e w1 ⟨rfl, rfl⟩))
                      refine ⟨⟨d + 1, by omega, by omega, rfl, Lib.hid (.inr hG), ?_, hO1.other (by simp) _, hb2.setCell (by show w.heap.size ≤ w.heap.size + 1; exact Nat.le_succ _) _⟩, by simp [intOf]; omega⟩
                      rw [← Int.add_assoc, ← Hn.out]
                      exact hW2.store (by omega) true
                    · have hon2 : onC ((b : Int) - 40) (((a : Int) - 40) + d) = false := by simpa using hon
                      clear hon
                      have Hn := Lib.hid (orR_offV (spreadG (wideG G k) (vseg k) (a * 80 + b)) ((b : Int) - 40) (((a : Int) - 40) - k) (((a : Int) - 40) + d) (by omega) hon2)
                      go_wp2_with (first | (go_at_call 158; refine (l17At_any _ _ (by omega) _).mono ?_; rintro e w1 ⟨rfl, rfl⟩) | (go_at_call 159; refine (l17Inside_any _ _ _).mono ?_; rintro e w1 ⟨rfl, rfl⟩))
                      refine ⟨⟨d + 1, by omega, by omega, rfl, Lib.hid (.inr hG), ?_, hO1, hb2⟩, by simp [intOf]; omega⟩
                      rw [← Int.add_assoc]
                      exact hW2.same Hn.out
                  · have hde : d = k + 1 := by omega
                    have Hn := Lib.hid (spread_yes (seg := vseg k) hG)
                    have Hs := Lib.hid (vseg_end (a := a) hx k)
                    go_wp2
                    refine ⟨⟨b + 1, by omega, by go_num, ?_, hO1, hb2⟩, by simp [intOf]; omega⟩
                    rw [hde] at hW2
                    rw [← Nat.add_assoc, Hn.out, Hs.out]
                    exact hW2
                · have hG2 : (wideG G k) (a * 80 + b) = false := by simpa using hG
                  have hde : d = -k := by rcases hdk.out with h | h; exact h; exact absurd h hG
                  clear hG
                  have hdle : d ≤ k := by omega
                  have Hn := Lib.hid (spread_no (seg := vseg k) hG2)
                  go_wp2_with (go_at_call 158; refine (l17At_any _ _ (by omega) _).mono ?_; rintro e w1 ⟨rfl, rfl⟩)
                  refine ⟨⟨b + 1, by omega, by go_num, ?_, hO1, hb2⟩, by simp [intOf]; omega⟩
                  rw [hde, Hstart.out] at hW2
                  rw [← Nat.add_assoc, Hn.out]
                  exact hW2
            · have hbe : b = 80 := by omega
              go_wp2
              refine ⟨⟨a + 1, by omega, by go_num, ?_, hO1, hb1⟩, by simp [intOf]; omega⟩
              rw [hbe] at hW1
              rw [Nat.succ_mul]
              exact hW1
        · have hae2 : a = 80 := by omega
          rw [hae2] at hW
          go_wp2
          go_ret
          exact ⟨_, rfl, ⟨_, _, rfl, Nat.le_succ _, hW⟩, hb⟩

end Go.Proofs.YtbljapihmkmolaaGreat

namespace Go.Proofs.YtbljapihmkmolaaGreat
open Go.RowKit

theorem cellsG_map_succ {rs : List Rc} {f : Rc → Rc} {k : Nat} {r : Rc} (h : rs[k]? = some r) : cellsG ((rs.take (k + 1)).map f) = orR (cellsG ((rs.take k).map f)) (f r) := by
  rw [List.take_add_one, h, Option.toList, List.map_append, List.map_cons, List.map_nil, cellsG_snoc]

set_option maxHeartbeats 400000 in
set_option maxRecDepth 100000 in
/-- grown. -/
theorem grown_any (v : Value) (rs : List Rc) (k : Int) (w : World) (hv : RL w 0 v rs) (hok : okAll rs = true) (hk : 0 ≤ k ∧ k ≤ 1000) : Calls Tryz.prog 208 #[v, .int .i64 k] w fun e w' => ∃ g, e = .returned (.pointer (some ⟨g, 0, none⟩)) ∧ w.heap.size ≤ g ∧ GB w' g 126 (grownG rs k) ∧ Below w.heap.size w w' := by
  obtain ⟨A, c, rfl, hc, hm, -⟩ := hv.form
  have hm' : rs.length ≤ 9223372036854775807 := by unfold maxLen at hm; omega
  have Hok := Lib.hid hok
  clear hok
  have g0 := GB.zero w 126
  have b0 : Below w.heap.size w (w.alloc (.cells Tryz.zeroCells126 126)) := (Below.refl _ _).alloc (Nat.le_refl _) _
  go_enter Tryz.func208, Tryz.ntmps208
  go_wp2
  go_loopw [12] (fun i wr => ∃ j : Nat, j ≤ rs.length ∧ i = .int .i64 j ∧ GB wr w.heap.size 126 (cellsG ((rs.take j).map (growR k))) ∧ Below w.heap.size w wr) (fun i _ => rs.length - (intOf i).toNat)
  case atStart => exact ⟨0, Nat.zero_le _, rfl, g0, b0⟩
  case round =>
    obtain ⟨j, hj, rfl, hG, hb⟩ := hrel
    clear g0 b0
    by_cases hlt : j < rs.length
    · obtain ⟨g, x0, y0, x1, y1, rfl, hr, hg, f0, f1, f2, f3⟩ := (hv.on hb).elem hlt
      have hrok := (okRc_iff _).1 (okAll_get Hok.out hr)
      dsimp only at hrok
      have Hr := Lib.hid (cellsG_map_succ (f := growR k) hr)
      clear hr
      go_wp2_with (go_at_call 93; refine (put_any _ _ ⟨x0 - k, y0 - k, x1 + k, y1 + k⟩ _ (hG.alloc _)).mono ?_; rintro e w1 ⟨rfl, hG1, hO1⟩)
      refine ⟨⟨j + 1, by omega, by go_num, hG1.cong Hr.out.symm, only_far (hb.alloc hb.size _) hO1 (by simp; have := hb.size; omega) (Nat.le_refl _)⟩, by simp [intOf]; omega⟩
    · go_wp2
      go_ret
      have : j = rs.length := by omega
      subst this
      rw [List.take_length] at hG
      exact ⟨_, rfl, Nat.le_refl _, hG, hb⟩

/-- grow. -/
theorem grow_any (v : Value) (rs : List Rc) (k : Int) (w : World) (hv : RL w 0 v rs) (hok : okAll rs = true) (hk : 0 ≤ k ∧ k ≤ 1000) : Calls Tryz.prog 192 #[v, .int .i64 k] w fun e w' => ∃ u, e = .returned u ∧ RL w' w.heap.size u (canon (grownG rs k)) ∧ Below w.heap.size w w' := by
  go_enter Tryz.func192, Tryz.ntmps192
  go_wp2_with (first | (go_at_call 208; refine (grown_any v rs k _ hv hok hk).mono ?_; rintro e w1 ⟨g, rfl, hg, hG, hb1⟩)
                     | (go_at_call 95; refine (region_any g _ _ hG).mono ?_; rintro e w2 ⟨u, rfl, hR, hb2⟩))
  go_ret
  exact ⟨_, rfl, hR.less hb1.size, hb1.trans (hb2.mono hb1.size)⟩

end Go.Proofs.YtbljapihmkmolaaGreat

namespace Go.Proofs.YtbljapihmkmolaaGreat
open Go.RowKit

set_option maxHeartbeats 400000 in
/-- markEnclosure. -/
theorem markEnc_any (v u : Value) (rs qs : List Rc) (k : Int) (w : World) (hv : RL w 0 v rs) (hu : RL w 0 u qs) (h1 : isReg rs = true) (h2 : isReg qs = true) (hk : 0 ≤ k ∧ k ≤ 1000) : Calls Tryz.prog 168 #[v, u, .int .i64 k] w fun e w' => ∃ z, e = .returned z ∧ RL w' w.heap.size z (encL rs qs k) ∧ Below w.heap.size w w' := by
  have hok := okAll_reg h1
  go_enter Tryz.func168, Tryz.ntmps168
  go_wp2_with fail
  refine (grow_any v rs k _ hv hok hk).mono ?_
  rintro e w1 ⟨z1, rfl, hR1, hb1⟩
  go_wp2_with fail
  refine (diff_any z1 u _ qs _ (hR1.less (Nat.zero_le _)) (hu.on hb1) (isReg_canon _) h2).mono ?_
  rintro e w2 ⟨z2, rfl, hR2, hb2⟩
  rw [enc_grown] at hR2
  go_wp2
  go_ret
  exact ⟨_, rfl, hR2.less hb1.size, hb1.trans (hb2.mono hb1.size)⟩

/-- The cells around a region that another one leaves. -/
def encV (rs qs : List Rc) (k : Int) : List Rc := if (isReg rs = true ∧ isReg qs = true) ∧ inB 0 k 8 = true then encL rs qs k else []
theorem encV_yes {rs qs : List Rc} {k : Int} (h1 : isReg rs = true) (h2 : isReg qs = true) (hk : inB 0 k 8 = true) : encV rs qs k = encL rs qs k := if_pos ⟨⟨h1, h2⟩, hk⟩
theorem encV_no1 {rs qs : List Rc} {k : Int} (h : isReg rs = false) : encV rs qs k = [] := if_neg (by rw [h]; simp)
theorem encV_no2 {rs qs : List Rc} {k : Int} (h : isReg qs = false) : encV rs qs k = [] := if_neg (by rw [h]; simp)
theorem encV_no3 {rs qs : List Rc} {k : Int} (h : inB 0 k 8 = false) : encV rs qs k = [] := if_neg (by rw [h]; simp)
theorem encV_length (rs qs : List Rc) (k : Int) : (encV rs qs k).length ≤ 1000000 := by
  unfold encV
  split
  · exact Nat.le_trans (canon_few _) (by omega)
  · simp

set_option maxHeartbeats 400000 in
theorem enc_impl (v : Value) (rs : List Rc) (u : Value) (qs : List Rc) (k : Int) (w : World) (hv : RL w 0 v rs) (hu : RL w 0 u qs) : Calls Tryz.prog 124 #[v, u, .int .i64 k] w fun e w' => ∃ z, e = .returned z ∧ RL w' w.heap.size z (encV rs qs k) ∧ Below w.heap.size w w' := by
  by_cases h1 : isReg rs = true
  · by_cases h2 : isReg qs = true
    · by_cases hk : inB 0 k 8 = true
      · have hk' := (inB_iff _ _ _).1 hk
        rw [encV_yes h1 h2 hk]
        go_enter Tryz.func124, Tryz.ntmps124
        go_wp2_with fail
        refine (isRegion_any v rs _ hv).mono ?_
        rintro e w1 ⟨rfl, hb1⟩
        go_wp2_with fail
        refine (isRegion_any u qs _ (hu.on hb1)).mono ?_
        rintro e w2 ⟨rfl, hb2⟩
        go_wp2_with fail
        refine (within_any _ _ _ _).mono ?_
        rintro e w3 ⟨rfl, rfl⟩
        go_wp2_with fail
        have t2 := hb1.trans (hb2.mono hb1.size)
        refine (markEnc_any v u rs qs k _ (hv.on t2) (hu.on t2) h1 h2 (by omega)).mono ?_
        rintro e w4 ⟨z, rfl, hR, hb4⟩
        go_wp2
        go_ret
        exact ⟨_, rfl, hR.less t2.size, t2.trans (hb4.mono t2.size)⟩
      · have hk' : inB 0 k 8 = false := by simpa using hk
        clear hk
        rw [encV_no3 hk']
        go_enter Tryz.func124, Tryz.ntmps124
        go_wp2_with fail
        refine (isRegion_any v rs _ hv).mono ?_
        rintro e w1 ⟨rfl, hb1⟩
        go_wp2_with fail
        refine (isRegion_any u qs _ (hu.on hb1)).mono ?_
        rintro e w2 ⟨rfl, hb2⟩
        go_wp2_with fail
        refine (within_any _ _ _ _).mono ?_
        rintro e w3 ⟨rfl, rfl⟩
        go_wp2
        go_ret
        exact ⟨_, rfl, RL.nil _ _, hb1.trans (hb2.mono hb1.size)⟩
    · have h2' : isReg qs = false := by simpa using h2
      clear h2
      rw [encV_no2 h2']
      go_enter Tryz.func124, Tryz.ntmps124
      go_wp2_with fail
      refine (isRegion_any v rs _ hv).mono ?_
      rintro e w1 ⟨rfl, hb1⟩
      go_wp2_with fail
      refine (isRegion_any u qs _ (hu.on hb1)).mono ?_
      rintro e w2 ⟨rfl, hb2⟩
      go_wp2
      go_ret
      exact ⟨_, rfl, RL.nil _ _, hb1.trans (hb2.mono hb1.size)⟩
  · have h1' : isReg rs = false := by simpa using h1
    clear h1
    rw [encV_no1 h1']
    go_enter Tryz.func124, Tryz.ntmps124
    go_wp2_with fail
    refine (isRegion_any v rs _ hv).mono ?_
    rintro e w1 ⟨rfl, hb1⟩
    go_wp2
    go_ret
    exact ⟨_, rfl, RL.nil _ _, hb1⟩

set_option maxHeartbeats 800000 in
set_option maxRecDepth 100000 in
theorem enc_spec (v : Value) (rs : List Rc) (u : Value) (qs : List Rc) (k : Int) (w : World) (hv : RL w 0 v rs) (hu : RL w 0 u qs) : Calls Tryz.prog 55 #[v, u, .int .i64 k] w fun e w' => ∃ z, e = .returned z ∧ RL w' w.heap.size z (encV rs qs k) ∧ Below w.heap.size w w' := by
  by_cases h1 : isReg rs = true
  · by_cases h2 : isReg qs = true
    · by_cases hk : inB 0 k 8 = true
      · have hk' := (inB_iff _ _ _).1 hk
        rw [encV_yes h1 h2 hk, ← enc_near (okAll_reg h1) hk'.1]
        have ok1 := okAll_reg h1
        have ok2 := okAll_reg h2
        clear hk
        go_enter Tryz.func55, Tryz.ntmps55
        go_wp2_with fail
        refine (l03Ok_any v rs _ hv).mono ?_
        rintro e w1 ⟨rfl, hb1⟩
        go_wp2_with fail
        refine (l03Ok_any u qs _ (hu.on hb1)).mono ?_
        rintro e w2 ⟨rfl, hb2⟩
        have t2 := hb1.trans (hb2.mono hb1.size)
        go_wp2_with fail
        refine (l03Bits_any v rs _ (hv.on t2) ok1).mono ?_
        rintro e w3 ⟨z3, rfl, hG3, hb3⟩
        have t3 := t2.trans (hb3.mono t2.size)
        go_wp2_with fail
        refine (l19Near_any z3 _ k _ (hG3.less (Nat.zero_le _)) hk').mono ?_
        rintro e w4 ⟨z4, rfl, hG4, hb4⟩
        have t4 := t3.trans (hb4.mono t3.size)
        go_wp2_with fail
        refine (l03Bits_any u qs _ (hu.on t4) ok2).mono ?_
        rintro e w5 ⟨z5, rfl, hG5, hb5⟩
        have t5 := t4.trans (hb5.mono t4.size)
        obtain ⟨g4, c4, rfl, hg4, hN⟩ := hG4.on hb5
        obtain ⟨g5, c5, rfl, hg5, hO⟩ := hG5
        have hgl := hG4
        have hg45 : g4 < w4.heap.size := by
          obtain ⟨g4', c4', e4, -, hN4⟩ := hG4
          simp only [Value.slice.injEq, Option.some.injEq, Addr.mk.injEq] at e4
          rw [e4.1.1]
          exact hN4.lt
        clear hgl hG4 hG3
        have s3 := t3.size
        have s4 := t4.size
        go_wp2
        go_loopw [9] (fun iv wr => ∃ i : Nat, i ≤ 6400 ∧ iv = .int .i64 i ∧ GB wr g4 4 (headG (diffG (nearG (cellsG rs) k) (cellsG qs)) (nearG (cellsG rs) k) i) ∧ GB wr g5 4 (cellsG qs) ∧ Below w.heap.size w wr) (fun iv _ => 6400 - (intOf iv).toNat)
        case atStart => exact ⟨0, by omega, rfl, by rw [headG_zero]; exact hN, hO, t5⟩
        case round =>
          obtain ⟨i, hi, rfl, hN1, hO1, hb⟩ := hrel
          clear hN hO t5
          by_cases hlt : i < 6400
          · have cn := hN1.cell hlt
            rw [headG_at] at cn
            have cq := hO1.cell hlt
            have hz := hN1.frozen i
            have hi0 : (0 : Int) ≤ (i : Int) ∧ (i : Int) < 6400 := by omega
            have hst := hN1.store hlt (diffG (nearG (cellsG rs) k) (cellsG qs) i)
            rw [headG_step] at hst
            have Hst := Lib.hid hst
            clear hst
            by_cases hb0 : nearG (cellsG rs) k i = true
            · have hd : diffG (nearG (cellsG rs) k) (cellsG qs) i = !cellsG qs i := by unfold diffG; rw [hb0]; rfl
              rw [hd] at Hst
              rw [hb0] at cn
              clear hd hb0
              go_wp2
              exact ⟨⟨i + 1, by omega, by go_num, Hst.out, hO1.other (show g5 ≠ g4 by omega) _, hb.setCell (by show w.heap.size ≤ g4; omega) _⟩, by simp [intOf]; omega⟩
            · have hb1 : nearG (cellsG rs) k i = false := by simpa using hb0
              have hd : diffG (nearG (cellsG rs) k) (cellsG qs) i = false := by unfold diffG; rw [hb1]; rfl
              rw [hd] at Hst
              rw [hb1] at cn
              clear hd hb0 hb1
              go_wp2
              exact ⟨⟨i + 1, by omega, by go_num, Hst.out, hO1.other (show g5 ≠ g4 by omega) _, hb.setCell (by show w.heap.size ≤ g4; omega) _⟩, by simp [intOf]; omega⟩
          · have hie : i = 6400 := by omega
            rw [hie] at hN1
            go_wp2_with fail
            refine (l03Canon_any _ _ _ ⟨g4, c4, rfl, Nat.zero_le _, hN1.same (headG_all _ _)⟩).mono ?_
            rintro e w9 ⟨z9, rfl, hR9, hb9⟩
            go_wp2
            go_ret
            exact ⟨_, rfl, hR9.less hb.size, hb.trans (hb9.mono hb.size)⟩
      · have hk' := (inB_no _ _ _).1 (by simpa using hk)
        rw [encV_no3 (by simpa using hk)]
        clear hk
        go_enter Tryz.func55, Tryz.ntmps55
        go_wp2_with fail
        refine (l03Ok_any v rs _ hv).mono ?_
        rintro e w1 ⟨rfl, hb1⟩
        go_wp2_with fail
        refine (l03Ok_any u qs _ (hu.on hb1)).mono ?_
        rintro e w2 ⟨rfl, hb2⟩
        have t2 := hb1.trans (hb2.mono hb1.size)
        by_cases hk0 : k < 0
        · go_wp2
          go_ret
          exact ⟨_, rfl, row_empty _ _ _ rfl t2.size, t2.alloc t2.size _⟩
        · have hk8 : 8 < k := by omega
          go_wp2
          go_ret
          exact ⟨_, rfl, row_empty _ _ _ rfl t2.size, t2.alloc t2.size _⟩
    · have h2' : isReg qs = false := by simpa using h2
      clear h2
      rw [encV_no2 h2']
      go_enter Tryz.func55, Tryz.ntmps55
      go_wp2_with fail
      refine (l03Ok_any v rs _ hv).mono ?_
      rintro e w1 ⟨rfl, hb1⟩
      go_wp2_with fail
      refine (l03Ok_any u qs _ (hu.on hb1)).mono ?_
      rintro e w2 ⟨rfl, hb2⟩
      have t2 := hb1.trans (hb2.mono hb1.size)
      go_wp2
      go_ret
      exact ⟨_, rfl, row_empty _ _ _ rfl t2.size, t2.alloc t2.size _⟩
  · have h1' : isReg rs = false := by simpa using h1
    clear h1
    rw [encV_no1 h1']
    go_enter Tryz.func55, Tryz.ntmps55
    go_wp2_with fail
    refine (l03Ok_any v rs _ hv).mono ?_
    rintro e w1 ⟨rfl, hb1⟩
    go_wp2
    go_ret
    exact ⟨_, rfl, row_empty _ _ _ rfl hb1.size, hb1.alloc hb1.size _⟩

end Go.Proofs.YtbljapihmkmolaaGreat

namespace Go.Proofs.YtbljapihmkmolaaGreat
open Go.RowKit

/-- The greatest margin below n within which nothing is left, or -1. -/
def bestD (rs qs : List Rc) : Nat → Int
  | 0 => -1
  | n + 1 => if encL rs qs n = [] then n else bestD rs qs n
theorem bestD_yes {rs qs : List Rc} {n : Nat} (h : encL rs qs n = []) : bestD rs qs (n + 1) = n := if_pos h
theorem bestD_no {rs qs : List Rc} {n : Nat} (h : ¬ encL rs qs n = []) : bestD rs qs (n + 1) = bestD rs qs n := if_neg h
theorem bestD_up {rs qs : List Rc} {k : Nat} (h : ¬ encL rs qs k = []) : ∀ d, bestD rs qs (k + d) = bestD rs qs k
  | 0 => rfl
  | d + 1 => by
    rw [← Nat.add_assoc, bestD_no, bestD_up h d]
    intro hc
    apply h
    have e : ((k + d : Nat) : Int) = (k : Int) + (d : Int) := by omega
    rw [e] at hc
    exact enc_below d hc
/-- The margin. -/
def marginV (rs qs : List Rc) : Int := if isReg rs = true ∧ isReg qs = true then bestD rs qs 9 else -1
theorem marginV_yes {rs qs : List Rc} (h1 : isReg rs = true) (h2 : isReg qs = true) : marginV rs qs = bestD rs qs 9 := if_pos ⟨h1, h2⟩
theorem marginV_no1 {rs qs : List Rc} (h : isReg rs = false) : marginV rs qs = -1 := if_neg (by rw [h]; simp)
theorem marginV_no2 {rs qs : List Rc} (h : isReg qs = false) : marginV rs qs = -1 := if_neg (by rw [h]; simp)
theorem ret_intE {a b : Int} (h : a = b) : Ending.returned (.int .i64 a) = .returned (.int .i64 b) := by rw [h]
/-- Where the reference stops. -/
theorem bestD_stop {rs qs : List Rc} {k : Nat} (hk : k ≤ 9) (hall : ∀ j : Nat, j < k → encL rs qs j = []) (hend : k = 9 ∨ ¬ encL rs qs k = []) : bestD rs qs 9 = (k : Int) - 1 := by
  have e : bestD rs qs 9 = bestD rs qs k := by
    rcases hend with h | h
    · rw [h]
    · have := bestD_up h (9 - k)
      rw [show k + (9 - k) = 9 by omega] at this
      exact this
  rw [e]
  cases k with
  | zero => rfl
  | succ k => rw [bestD_yes (hall k (Nat.lt_succ_self k))]; omega

end Go.Proofs.YtbljapihmkmolaaGreat
