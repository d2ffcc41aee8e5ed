/- Contract: the reference's l19Near. Condition: 0 ≤ k ≤ 8. -/
import Derived.Test.YtcdfbfnnlfgkfaaNearMath
import Derived.Test.YtcdfbfnnlfgkfaaPut
import Derived.Test.YtcdfbfnnlfgkfaaRun17
namespace Go.Proofs.Ytcdfbfnnlfgkfaa
open Go.RowKit

theorem flat_xy {a b : Nat} (hb : b < 80) : (a * 80 + b) % 80 = b ∧ (a * 80 + b) / 80 = a := by omega
theorem ix_flat {a b : Nat} : (ix ((b : Int) - 40) ((a : Int) - 40)).toNat = a * 80 + b := by unfold ix; omega
/-- The segment of a cell, begun. -/
theorem hseg_start (G : Gr) (k x y : Int) : orR G ⟨x - k, y, x + -k, y + 1⟩ = G := orR_empty _ _ (.inl (by dsimp only; omega))
theorem vseg_start (G : Gr) (k x y : Int) : orR G ⟨x, y - k, x + 1, y + -k⟩ = G := orR_empty _ _ (.inr (by dsimp only; omega))
theorem hseg_end {a b : Nat} (hb : b < 80) (k : Int) : hseg k (a * 80 + b) = ⟨(b : Int) - 40 - k, (a : Int) - 40, (b : Int) - 40 + (k + 1), (a : Int) - 40 + 1⟩ := by
  obtain ⟨e1, e2⟩ := flat_xy (a := a) hb
  unfold hseg
  rw [e1, e2]
theorem vseg_end {a b : Nat} (hb : b < 80) (k : Int) : vseg k (a * 80 + b) = ⟨(b : Int) - 40, (a : Int) - 40 - k, (b : Int) - 40 + 1, (a : Int) - 40 + (k + 1)⟩ := by
  obtain ⟨e1, e2⟩ := flat_xy (a := a) hb
  unfold vseg
  rw [e1, e2]

set_option maxHeartbeats 1600000 in
set_option maxRecDepth 100000 in
/-- l19Near. -/
theorem l19Near_any (v : Value) (G : Gr) (k : Int) (w : World) (hG : GS w 0 v G) (hk : 0 ≤ k ∧ k ≤ 8) : Calls Try.prog 65 #[v, .int .i64 k] w fun e w' => ∃ u, e = .returned u ∧ GS w' w.heap.size u (nearG G k) ∧ Below w.heap.size w w' := by
  obtain ⟨g, c, rfl, -, hg⟩ := hG
  have hgl := hg.lt
  have hmk := run_make_6400
  have g0 := (GB.made w 4).alloc (.cells noCells 4)
  have g1 : GB ((w.alloc (.cells noCells 4)).alloc (.cells noCells 4)) (w.heap.size + 1) 4 emptyG := by simpa using GB.made (w.alloc (.cells noCells 4)) 4
  have b0 : Below w.heap.size w ((w.alloc (.cells noCells 4)).alloc (.cells noCells 4)) := ((Below.refl _ _).alloc (Nat.le_refl _) _).alloc (by simp) _
  go_enter Try.func65, Try.ntmps65
  go_wp2
  clear hmk
  go_loopw [7] (fun yv wr => ∃ a : Nat, a ≤ 80 ∧ yv = .int .i64 ((a : Int) - 40) ∧ GB wr w.heap.size 4 (spreadG G (hseg k) (a * 80)) ∧ GB wr (w.heap.size + 1) 4 emptyG ∧ Below w.heap.size w wr) (fun yv _ => (40 - intOf yv).toNat)
  case atStart => exact ⟨0, by omega, rfl, g0, g1, b0⟩
  case round =>
    obtain ⟨a, ha, rfl, hW, hO, hb⟩ := hrel
    by_cases hlt : a < 80
    · go_wp2
      have hd : decide ((a : Int) - 40 < 40) = true := decide_eq_true (by omega)
      try rw [hd]
      go_loopw [8] (fun xv wi => ∃ b : Nat, b ≤ 80 ∧ xv = .int .i64 ((b : Int) - 40) ∧ GB wi w.heap.size 4 (spreadG G (hseg k) (a * 80 + b)) ∧ GB wi (w.heap.size + 1) 4 emptyG ∧ Below w.heap.size w wi) (fun xv _ => (40 - intOf xv).toNat)
      case atStart => exact ⟨0, by omega, rfl, hW, hO, hb⟩
      case round =>
        obtain ⟨b, hb80, rfl, hW1, hO1, hb1⟩ := hrel
        by_cases hx : b < 80
        · obtain ⟨em, ed⟩ := flat_xy (a := a) hx
          have Hstart := Lib.hid (hseg_start (spreadG G (hseg k) (a * 80 + b)) k ((b : Int) - 40) ((a : Int) - 40))
          go_wp2
          have hd2 : decide ((b : Int) - 40 < 40) = true := decide_eq_true (by omega)
          try rw [hd2]
          go_loopw [9] (fun dv wj => ∃ d : Int, -k ≤ d ∧ d ≤ k + 1 ∧ dv = .int .i64 d ∧ Hid (d = -k ∨ G (a * 80 + b) = true) ∧ GB wj w.heap.size 4 (orR (spreadG G (hseg k) (a * 80 + b)) ⟨((b : Int) - 40) - k, ((a : Int) - 40), ((b : Int) - 40) + d, ((a : Int) - 40) + 1⟩) ∧ GB wj (w.heap.size + 1) 4 emptyG ∧ Below w.heap.size w wj) (fun dv _ => (k + 1 - intOf dv).toNat)
          case atStart => exact ⟨-k, by omega, by omega, rfl, Lib.hid (.inl rfl), by rw [Hstart.out]; exact hW1, hO1, hb1⟩
          case round =>
            obtain ⟨d, hd0, hd1, rfl, hdk, hW2, hO1, hb2⟩ := hrel
            clear hW1
            have hsrc := hg.below hb2 hgl
            have hc := hsrc.ix_ (x := ((b : Int) - 40)) (y := ((a : Int) - 40)) ((onC_iff _ _).2 (by omega))
            rw [ix_flat] at hc
            have hix : (ix ((b : Int) - 40) ((a : Int) - 40)).toNat = a * 80 + b := ix_flat
            have hi : 0 ≤ ix ((b : Int) - 40) ((a : Int) - 40) ∧ ix ((b : Int) - 40) ((a : Int) - 40) < 6400 := by unfold ix; omega
            by_cases hG : G (a * 80 + b) = true
            · by_cases hdle : d ≤ k
              · by_cases hon : onC (((b : Int) - 40) + d) ((a : Int) - 40) = true
                · have Hn := Lib.hid (orR_cellH (spreadG G (hseg k) (a * 80 + b)) (((b : Int) - 40) - k) (((b : Int) - 40) + d) ((a : Int) - 40) (by omega) hon)
                  have hz := hW2.frozen (ix (((b : Int) - 40) + d) ((a : Int) - 40)).toNat
                  have hc2 := hW2.ix_ hon
                  have hi2 : 0 ≤ ix (((b : Int) - 40) + d) ((a : Int) - 40) ∧ ix (((b : Int) - 40) + d) ((a : Int) - 40) < 6400 := by have := (onC_iff _ _).1 hon; unfold ix; omega
                  go_wp2_with (first | (go_at_call 82; refine (l17At_any _ _ (by omega) _).mono ?_; rintro e w1 ⟨rfl, rfl⟩) | (go_at_call 89; refine (l17Inside_any _ _ _).mono ?_; rintro e w1 ⟨rfl, rfl⟩))
                  refine ⟨⟨d + 1, by omega, by omega, rfl, Lib.hid (.inr hG), ?_, hO1.other (by simp) _, hb2.setCell (Nat.le_refl _) _⟩, by simp [intOf]; omega⟩
                  rw [← Int.add_assoc, ← Hn.out]
                  exact hW2.store (by omega) true
                · have hon2 : onC (((b : Int) - 40) + d) ((a : Int) - 40) = false := by simpa using hon
                  clear hon
                  have Hn := Lib.hid (orR_offH (spreadG G (hseg k) (a * 80 + b)) (((b : Int) - 40) - k) (((b : Int) - 40) + d) ((a : Int) - 40) (by omega) hon2)
                  go_wp2_with (first | (go_at_call 82; refine (l17At_any _ _ (by omega) _).mono ?_; rintro e w1 ⟨rfl, rfl⟩) | (go_at_call 89; refine (l17Inside_any _ _ _).mono ?_; rintro e w1 ⟨rfl, rfl⟩))
                  refine ⟨⟨d + 1, by omega, by omega, rfl, Lib.hid (.inr hG), ?_, hO1, hb2⟩, by simp [intOf]; omega⟩
                  rw [← Int.add_assoc]
                  exact hW2.same Hn.out
              · have hde : d = k + 1 := by omega
                have Hn := Lib.hid (spread_yes (seg := hseg k) hG)
                have Hs := Lib.hid (hseg_end (a := a) hx k)
                go_wp2
                refine ⟨⟨b + 1, by omega, by go_num, ?_, hO1, hb2⟩, by simp [intOf]; omega⟩
                rw [hde] at hW2
                rw [← Nat.add_assoc, Hn.out, Hs.out]
                exact hW2
            · have hG2 : G (a * 80 + b) = false := by simpa using hG
              have hde : d = -k := by rcases hdk.out with h | h; exact h; exact absurd h hG
              clear hG
              have hdle : d ≤ k := by omega
              have Hn := Lib.hid (spread_no (seg := hseg k) hG2)
              go_wp2_with (go_at_call 82; refine (l17At_any _ _ (by omega) _).mono ?_; rintro e w1 ⟨rfl, rfl⟩)
              refine ⟨⟨b + 1, by omega, by go_num, ?_, hO1, hb2⟩, by simp [intOf]; omega⟩
              rw [hde, Hstart.out] at hW2
              rw [← Nat.add_assoc, Hn.out]
              exact hW2
        · have hbe : b = 80 := by omega
          go_wp2
          refine ⟨⟨a + 1, by omega, by go_num, ?_, hO1, hb1⟩, by simp [intOf]; omega⟩
          rw [hbe] at hW1
          rw [Nat.succ_mul]
          exact hW1
    · have hae : a = 80 := by omega
      have hWide : GB wr w.heap.size 4 (wideG G k) := by
        rw [hae] at hW
        exact hW
      clear hW g0 g1 b0 hae
      have hdz : decide ((a : Int) - 40 < 40) = false := decide_eq_false (by omega)
      go_wp2
      try rw [hdz]
      clear hdz hlt ha
      go_loopw [10] (fun yv wr => ∃ a : Nat, a ≤ 80 ∧ yv = .int .i64 ((a : Int) - 40) ∧ GB wr (w.heap.size + 1) 4 (spreadG (wideG G k) (vseg k) (a * 80)) ∧ GB wr w.heap.size 4 (wideG G k) ∧ Below w.heap.size w wr) (fun yv _ => (40 - intOf yv).toNat)
      case atStart => exact ⟨0, by omega, rfl, hO, hWide, hb⟩
      case round =>
        obtain ⟨a, ha, rfl, hW, hO, hb⟩ := hrel
        by_cases hlt : a < 80
        · go_wp2
          have hd : decide ((a : Int) - 40 < 40) = true := decide_eq_true (by omega)
          try rw [hd]
          go_loopw [11] (fun xv wi => ∃ b : Nat, b ≤ 80 ∧ xv = .int .i64 ((b : Int) - 40) ∧ GB wi (w.heap.size + 1) 4 (spreadG (wideG G k) (vseg k) (a * 80 + b)) ∧ GB wi w.heap.size 4 (wideG G k) ∧ Below w.heap.size w wi) (fun xv _ => (40 - intOf xv).toNat)
          case atStart => exact ⟨0, by omega, rfl, hW, hO, hb⟩
          case round =>
            obtain ⟨b, hb80, rfl, hW1, hO1, hb1⟩ := hrel
            by_cases hx : b < 80
            · obtain ⟨em, ed⟩ := flat_xy (a := a) hx
              have Hstart := Lib.hid (vseg_start (spreadG (wideG G k) (vseg k) (a * 80 + b)) k ((b : Int) - 40) ((a : Int) - 40))
              go_wp2
              have hd2 : decide ((b : Int) - 40 < 40) = true := decide_eq_true (by omega)
              try rw [hd2]
              go_loopw [12] (fun dv wj => ∃ d : Int, -k ≤ d ∧ d ≤ k + 1 ∧ dv = .int .i64 d ∧ Hid (d = -k ∨ (wideG G k) (a * 80 + b) = true) ∧ GB wj (w.heap.size + 1) 4 (orR (spreadG (wideG G k) (vseg k) (a * 80 + b)) ⟨((b : Int) - 40), ((a : Int) - 40) - k, ((b : Int) - 40) + 1, ((a : Int) - 40) + d⟩) ∧ GB wj w.heap.size 4 (wideG G k) ∧ Below w.heap.size w wj) (fun dv _ => (k + 1 - intOf dv).toNat)
              case atStart => exact ⟨-k, by omega, by omega, rfl, Lib.hid (.inl rfl), by rw [Hstart.out]; exact hW1, hO1, hb1⟩
              case round =>
                obtain ⟨d, hd0, hd1, rfl, hdk, hW2, hO1, hb2⟩ := hrel
                clear hW1
                have hsrc := hO1
                have hc := hsrc.ix_ (x := ((b : Int) - 40)) (y := ((a : Int) - 40)) ((onC_iff _ _).2 (by omega))
                rw [ix_flat] at hc
                have hix : (ix ((b : Int) - 40) ((a : Int) - 40)).toNat = a * 80 + b := ix_flat
                have hi : 0 ≤ ix ((b : Int) - 40) ((a : Int) - 40) ∧ ix ((b : Int) - 40) ((a : Int) - 40) < 6400 := by unfold ix; omega
                by_cases hG : (wideG G k) (a * 80 + b) = true
                · by_cases hdle : d ≤ k
                  · by_cases hon : onC ((b : Int) - 40) (((a : Int) - 40) + d) = true
                    · have Hn := Lib.hid (orR_cellV (spreadG (wideG G k) (vseg k) (a * 80 + b)) ((b : Int) - 40) (((a : Int) - 40) - k) (((a : Int) - 40) + d) (by omega) hon)
                      have hz := hW2.frozen (ix ((b : Int) - 40) (((a : Int) - 40) + d)).toNat
                      have hc2 := hW2.ix_ hon
                      have hi2 : 0 ≤ ix ((b : Int) - 40) (((a : Int) - 40) + d) ∧ ix ((b : Int) - 40) (((a : Int) - 40) + d) < 6400 := by have := (onC_iff _ _).1 hon; unfold ix; omega
                      go_wp2_with (first | (go_at_call 82; refine (l17At_any _ _ (by omega) _).mono ?_; rintro e w1 ⟨rfl, rfl⟩) | (go_at_call 89; refine (l17Inside_any _ _ _).mono ?_; rintro e w1 ⟨rfl, rfl⟩))
                      refine ⟨⟨d + 1, by omega, by omega, rfl, Lib.hid (.inr hG), ?_, hO1.other (by simp) _, hb2.setCell (by show w.heap.size ≤ w.heap.size + 1; exact Nat.le_succ _) _⟩, by simp [intOf]; omega⟩
                      rw [← Int.add_assoc, ← Hn.out]
                      exact hW2.store (by omega) true
                    · have hon2 : onC ((b : Int) - 40) (((a : Int) - 40) + d) = false := by simpa using hon
                      clear hon
                      have Hn := Lib.hid (orR_offV (spreadG (wideG G k) (vseg k) (a * 80 + b)) ((b : Int) - 40) (((a : Int) - 40) - k) (((a : Int) - 40) + d) (by omega) hon2)
                      go_wp2_with (first | (go_at_call 82; refine (l17At_any _ _ (by omega) _).mono ?_; rintro e w1 ⟨rfl, rfl⟩) | (go_at_call 89; refine (l17Inside_any _ _ _).mono ?_; rintro e w1 ⟨rfl, rfl⟩))
                      refine ⟨⟨d + 1, by omega, by omega, rfl, Lib.hid (.inr hG), ?_, hO1, hb2⟩, by simp [intOf]; omega⟩
                      rw [← Int.add_assoc]
                      exact hW2.same Hn.out
                  · have hde : d = k + 1 := by omega
                    have Hn := Lib.hid (spread_yes (seg := vseg k) hG)
                    have Hs := Lib.hid (vseg_end (a := a) hx k)
                    go_wp2
                    refine ⟨⟨b + 1, by omega, by go_num, ?_, hO1, hb2⟩, by simp [intOf]; omega⟩
                    rw [hde] at hW2
                    rw [← Nat.add_assoc, Hn.out, Hs.out]
                    exact hW2
                · have hG2 : (wideG G k) (a * 80 + b) = false := by simpa using hG
                  have hde : d = -k := by rcases hdk.out with h | h; exact h; exact absurd h hG
                  clear hG
                  have hdle : d ≤ k := by omega
                  have Hn := Lib.hid (spread_no (seg := vseg k) hG2)
                  go_wp2_with (go_at_call 82; refine (l17At_any _ _ (by omega) _).mono ?_; rintro e w1 ⟨rfl, rfl⟩)
                  refine ⟨⟨b + 1, by omega, by go_num, ?_, hO1, hb2⟩, by simp [intOf]; omega⟩
                  rw [hde, Hstart.out] at hW2
                  rw [← Nat.add_assoc, Hn.out]
                  exact hW2
            · have hbe : b = 80 := by omega
              go_wp2
              refine ⟨⟨a + 1, by omega, by go_num, ?_, hO1, hb1⟩, by simp [intOf]; omega⟩
              rw [hbe] at hW1
              rw [Nat.succ_mul]
              exact hW1
        · have hae2 : a = 80 := by omega
          rw [hae2] at hW
          go_wp2
          go_ret
          exact ⟨_, rfl, ⟨_, _, rfl, Nat.le_succ _, hW⟩, hb⟩

end Go.Proofs.Ytcdfbfnnlfgkfaa
