/- Contracts: what the laws FnEnclosure and FnArea draw. Condition: a code of at most 4096 bytes. -/
import Derived.Test.YtekglombgkndhaaDrawK
import Derived.Test.YtekglombgkndhaaEncA
namespace Go.Proofs.Ytekglombgkndhaa
open Go.RowKit

set_option maxHeartbeats 1600000 in
set_option maxRecDepth 100000 in
/-- l19DrawSmall. -/
theorem drawSmall_any (g : Nat) (w : World) (hD : Dice w g) : Calls Try.prog 15 #[.pointer (some ⟨g, 0, none⟩)] w fun e w' => ∃ v rs, e = .returned v ∧ RL w' w.heap.size v rs ∧ rs.length ≤ 7000 ∧ Dice w' g ∧ w.grownBy w' (some g) := by
  have hg := hD.lt
  have hmk := run_make_6400 w
  have g0 := GB.made w 4
  have hD2 := hD.alloc (.cells noCells 4)
  have hA2 := only_alloc (only_refl w (some g)) (.cells noCells 4)
  go_enter Try.func15, Try.ntmps15
  go_wp2_with fail
  refine (next_any g 8 _ hD2 (by omega)).mono ?_
  rintro e w3 ⟨k3, rfl, hk3, hD3, hG3⟩
  have hA3 := only_trans hA2 hG3
  have g3 := g0.grown hG3 (show some w.heap.size ≠ some g by simp; omega)
  clear hmk g0 hD2 hA2 hG3 hD
  go_wp2
  go_loopw [3, 4] (fun lv nv wr => ∃ (k : Int) (G : Gr), 0 ≤ k ∧ k ≤ 7 ∧ nv = .int .i64 k ∧ lv = .slice (some ⟨w.heap.size, 0, none⟩) 6400 6400 ∧ GB wr w.heap.size 4 G ∧ Dice wr g ∧ w.grownBy wr (some g)) (fun _ nv _ => (intOf nv).toNat)
  case atStart => exact ⟨k3, _, by omega, by omega, rfl, rfl, g3, hD3, hA3⟩
  case round =>
    obtain ⟨k, G, h0, h7, rfl, rfl, hB, hDr, hGr⟩ := hrel
    clear g3 hD3 hA3
    by_cases hk : k > 0
    · have ek := Go.IntWalk.i64_in (k - 1) (by omega)
      go_wp2_with fail
      refine (next_any g 20 _ hDr (by omega)).mono ?_
      rintro e w4 ⟨x, rfl, hx, hD4, hG4⟩
      have ex := Go.IntWalk.i64_in (x - 10) (by omega)
      go_wp2_with fail
      refine (next_any g 20 _ hD4 (by omega)).mono ?_
      rintro e w5 ⟨y, rfl, hy, hD5, hG5⟩
      have ey := Go.IntWalk.i64_in (y - 10) (by omega)
      have hA5 := only_trans hGr (only_trans hG4 hG5)
      have hB5 := (hB.grown hG4 (show some w.heap.size ≠ some g by simp; omega)).grown hG5 (show some w.heap.size ≠ some g by simp; omega)
      have z6 := Bk.new w5 44 #[.int .i64 (x - 10), .int .i64 (y - 10), .int .i64 0, .int .i64 0]
      have hD6 := hD5.alloc (.cells #[.int .i64 (x - 10), .int .i64 (y - 10), .int .i64 0, .int .i64 0] 44)
      have hA6 := only_alloc hA5 (.cells #[.int .i64 (x - 10), .int .i64 (y - 10), .int .i64 0, .int .i64 0] 44)
      have hB6 := hB5.alloc (.cells #[.int .i64 (x - 10), .int .i64 (y - 10), .int .i64 0, .int .i64 0] 44)
      have hg5 := hD5.lt
      have hb5 := hB5.lt
      have hs5 := hA5.size
      obtain ⟨c0, c1, c2, c3⟩ := box4 z6
      replace hD6 := hD6.drew
      replace z6 := z6.drew
      replace hA6 := only_drew hA6
      replace hB6 := hB6.drew
      obtain ⟨b0, b1, b2, b3⟩ := box4 z6
      have ex1 := Go.IntWalk.i64_in (x - 10 + 1) (by omega)
      have ey1 := Go.IntWalk.i64_in (y - 10 + 1) (by omega)
      clear hB hDr hGr hD4 hG4 hD5 hG5 hA5 hB5
      go_wp2
      go_region_held3 (fun w' => w'.cell? ⟨w5.heap.size, 0, none⟩ = some (.int .i64 (x - 10))) (first | exact c0 | exact b0 | exact d0 | exact (z7.store 2 _).cell 0)
        (first | (go_at_call 14; refine (next_any g 4 _ hD6 (by omega)).mono ?_; rintro e w7 ⟨p, rfl, hp, hD7, hG7⟩; have z7 := z6.grown hG7 (show some w5.heap.size ≠ some g by simp; omega); obtain ⟨d0, d1, d2, d3⟩ := box4 z7; have f72 := z7.frozen 2; have ep := Go.IntWalk.i64_in (x - 10 + 1 + p) (by omega)))
      have hne1 : some w.heap.size ≠ some g := by simp; omega
      have z8 : Bk (w7.setCell ⟨w5.heap.size, 2, none⟩ (.int .i64 (x - 10 + 1 + p))) w5.heap.size 44 #[.int .i64 (x - 10), .int .i64 (y - 10), .int .i64 (x - 10 + 1 + p), .int .i64 0] := z7.store 2 _
      have hD8 := hD7.other (p := ⟨w5.heap.size, 2, none⟩) hg5 (.int .i64 (x - 10 + 1 + p))
      have hB8 := (hB6.grown hG7 hne1).other (p := ⟨w5.heap.size, 2, none⟩) (show w.heap.size ≠ w5.heap.size by omega) (.int .i64 (x - 10 + 1 + p))
      have hA8 := only_above (only_trans hA6 hG7) ((Below.refl w.heap.size w7).setCell (p := ⟨w5.heap.size, 2, none⟩) hs5 (.int .i64 (x - 10 + 1 + p)))
      revert z8 hD8 hB8 hA8
      generalize w7.setCell ⟨w5.heap.size, 2, none⟩ (.int .i64 (x - 10 + 1 + p)) = w8
      intro z8 hD8 hB8 hA8
      clear z7 d0 d1 d2 d3 f72 hD7 hG7 z6 hD6 hA6 hB6 b0 b1 b2 b3 c0 c1 c2 c3
      replace hD8 := hD8.drew
      replace z8 := z8.drew
      replace hA8 := only_drew hA8
      replace hB8 := hB8.drew
      obtain ⟨b0, b1, b2, b3⟩ := box4 z8
      obtain ⟨c0, c1, c2, c3⟩ := box4 (show Bk w8 w5.heap.size 44 #[.int .i64 (x - 10), .int .i64 (y - 10), .int .i64 (x - 10 + 1 + p), .int .i64 0] from z8)
      go_wp2
      go_region_held3 (fun w' => w'.cell? ⟨w5.heap.size, 1, none⟩ = some (.int .i64 (y - 10))) (first | exact c1 | exact b1 | exact d1 | exact (z9.store 3 _).cell 1)
        (first | (go_at_call 14; refine (next_any g 4 _ hD8 (by omega)).mono ?_; rintro e w9 ⟨q, rfl, hq, hD9, hG9⟩; have z9 := z8.grown hG9 (show some w5.heap.size ≠ some g by simp; omega); obtain ⟨d0, d1, d2, d3⟩ := box4 z9; have f93 := z9.frozen 3; have eq := Go.IntWalk.i64_in (y - 10 + 1 + q) (by omega)))
      have zA : Bk (w9.setCell ⟨w5.heap.size, 3, none⟩ (.int .i64 (y - 10 + 1 + q))) w5.heap.size 44 #[.int .i64 (x - 10), .int .i64 (y - 10), .int .i64 (x - 10 + 1 + p), .int .i64 (y - 10 + 1 + q)] := z9.store 3 _
      have hDA := hD9.other (p := ⟨w5.heap.size, 3, none⟩) hg5 (.int .i64 (y - 10 + 1 + q))
      have hBA := (hB8.grown hG9 hne1).other (p := ⟨w5.heap.size, 3, none⟩) (show w.heap.size ≠ w5.heap.size by omega) (.int .i64 (y - 10 + 1 + q))
      have hAA := only_above (only_trans hA8 hG9) ((Below.refl w.heap.size w9).setCell (p := ⟨w5.heap.size, 3, none⟩) hs5 (.int .i64 (y - 10 + 1 + q)))
      revert zA hDA hBA hAA
      generalize w9.setCell ⟨w5.heap.size, 3, none⟩ (.int .i64 (y - 10 + 1 + q)) = wA
      intro zA hDA hBA hAA
      clear z9 d0 d1 d2 d3 f93 hD9 hG9 z8 hD8 hA8 hB8 b0 b1 b2 b3 c0 c1 c2 c3
      obtain ⟨c0, c1, c2, c3⟩ := box4 zA
      go_wp2_with fail
      refine (fill_any w.heap.size 6400 _ ⟨x - 10, y - 10, x - 10 + 1 + p, y - 10 + 1 + q⟩ _ hBA (by rw [okRc_iff]; dsimp only; omega)).mono ?_
      rintro e wB ⟨rfl, hGB, hOB⟩
      go_wp2
      exact ⟨⟨k - 1, _, by omega, by omega, rfl, rfl, hGB, hDA.grown hOB (fun q hq => by simp at hq; omega), only_above hAA (grown_below hOB (fun q hq => by simp at hq; omega) hAA.size)⟩, by simp [intOf]; omega⟩
    · go_wp2_with fail
      refine (l03Canon_any _ _ _ ⟨_, _, rfl, Nat.zero_le _, hB⟩).mono ?_
      rintro e w4 ⟨u4, rfl, hR4, hb4⟩
      go_wp2
      go_ret
      exact ⟨_, _, rfl, hR4.less hGr.size, Nat.le_trans (canon_few _) (by omega), hDr.on hb4, only_below hGr hb4⟩

abbrev areasA : Array Value := #[.int .i64 0, .int .i64 1, .int .i64 2, .int .i64 3, .int .i64 4, .int .i64 6, .int .i64 9, .int .i64 12, .int .i64 20, .int .i64 6400, .int .i64 6401]
theorem areas_get (k : Nat) (h : k < 11) : ∃ x : Int, areasA[k]? = some (.int .i64 x) ∧ 0 ≤ x ∧ x ≤ 6401 := by
  have hk : k = 0 ∨ k = 1 ∨ k = 2 ∨ k = 3 ∨ k = 4 ∨ k = 5 ∨ k = 6 ∨ k = 7 ∨ k = 8 ∨ k = 9 ∨ k = 10 := by omega
  rcases hk with rfl | rfl | rfl | rfl | rfl | rfl | rfl | rfl | rfl | rfl | rfl <;> exact ⟨_, rfl, by omega, by omega⟩

set_option maxHeartbeats 1600000 in
set_option maxRecDepth 100000 in
theorem drawArea_any (A : Option Addr) (n c : Nat) (w : World) (hA : ArgB w A n) (hn : n ≤ 4096) : Calls Try.prog 5 #[.slice A n c] w fun e w' => ∃ (v : Value) (rs : List Rc) (d : Int), e = .returned (.tuple #[v, .int .i64 d]) ∧ RL w' w.heap.size v rs ∧ rs.length ≤ 8000 ∧ (0 ≤ d ∧ d ≤ 6401) ∧ Below w.heap.size w w' := by
  go_enter Try.func5, Try.ntmps5
  go_wp2_with fail
  refine (from_any A n c _ hA hn).mono ?_
  rintro e w1 ⟨g, rfl, hg, hD, hb1⟩
  go_wp2_with fail
  refine (drawAny_any g _ hD).mono ?_
  rintro e w2 ⟨v, rs, rfl, hR, hl, hD2, hG2⟩
  have hb2 := hb1.trans (grown_below hG2 (fun q hq => by simp at hq; omega) hb1.size)
  have hs1 := hb1.size
  have hgl := hD.lt
  go_wp2_with fail
  refine (next_any g 2 _ hD2 (by omega)).mono ?_
  rintro e w3 ⟨k3, rfl, hk3, hD3, hG3⟩
  have hR3 := hR.keptG hG3 hgl
  have hb3 := hb2.trans (grown_below hG3 (fun q hq => by simp at hq; omega) hb2.size)
  clear hD hb1 hG2 hb2 hR hD2 hG3
  by_cases hk30 : k3 = 0
  · subst hk30
    go_wp2_with fail
    refine (drawSmall_any g _ hD3).mono ?_
    rintro e w4 ⟨u, qs, rfl, hQ, hl2, hD4, hG4⟩
    have hb4 := hb3.trans (grown_below hG4 (fun q hq => by simp at hq; omega) hb3.size)
    have hg3 := hD3.lt
    have hs3 := hb3.size
    have hDa := (hD4.alloc (.cells areasA 2)).drew
    have zA := (Bk.new w4 2 areasA).drew
    have hDb := hD4.drew
    have hg4 := hD4.lt
    have hRa : RL (w4.alloc (.cells areasA 2)).drew w3.heap.size u qs := RL.alloc hQ _
    have hRb : RL w4.drew w3.heap.size u qs := hQ
    have hba := (hb4.alloc hb4.size (.cells areasA 2)).drew
    have hbb := hb4.drew
    clear hD3 hR3 hb3 hD4 hQ hb4 hG4
    go_wp2
    go_region_with
      (first
        | (go_at_call 14; (refine (next_any g 11 _ hDa (by omega)).mono ?_; rintro e w5 ⟨k5, rfl, hk5, hD5, hG5⟩; obtain ⟨q, rfl⟩ : ∃ q : Nat, k5 = q := ⟨k5.toNat, by omega⟩; obtain ⟨x, hx, hx1, hx2⟩ := areas_get q (by omega); have c5 := ((zA.grown hG5 (fun h => by injection h with h; omega)).cell q).trans hx; have hq0 : (0 : Int) ≤ (q : Int) ∧ (q : Int) < 11 := (by omega); have hR5 := (hRa.keptG hG5 hg3).less hs3; have hb5 := hba.trans (grown_below hG5 (fun i hi => by injection hi with hi; omega) hba.size)))
        | (go_at_call 14; refine (next_any g 11 _ hDb (by omega)).mono ?_; rintro e w5 ⟨k5, rfl, hk5, hD5, hG5⟩; obtain ⟨q, rfl⟩ : ∃ q : Nat, k5 = q := ⟨k5.toNat, by omega⟩; obtain ⟨x, hx, hx1, hx2⟩ := areas_get q (by omega); have c5 := ((Bk.new w5 2 areasA).cell q).trans hx; have hq0 : (0 : Int) ≤ (q : Int) ∧ (q : Int) < 11 := (by omega); have hR5 := ((hRb.keptG hG5 hg3).less hs3).alloc (.cells areasA 2); have hbq := hbb.trans (grown_below hG5 (fun i hi => by injection hi with hi; omega) hbb.size); have hb5 := hbq.alloc hbq.size (.cells areasA 2)))
    all_goals
      go_wp2
      refine bodyPost_ret (results_tmp2 rfl _ _ _) rfl ?_
      exact ⟨_, _, _, rfl, hR5, by omega, ⟨hx1, hx2⟩, hb5⟩
  · have hDa := (hD3.alloc (.cells areasA 2)).drew
    have zA := (Bk.new w3 2 areasA).drew
    have hDb := hD3.drew
    have hg4 := hD3.lt
    have hRa : RL (w3.alloc (.cells areasA 2)).drew w1.heap.size v rs := RL.alloc hR3 _
    have hRb : RL w3.drew w1.heap.size v rs := hR3
    have hba := (hb3.alloc hb3.size (.cells areasA 2)).drew
    have hbb := hb3.drew
    clear hD3 hR3 hb3
    go_wp2
    go_region_with
      (first
        | (go_at_call 14; (refine (next_any g 11 _ hDa (by omega)).mono ?_; rintro e w5 ⟨k5, rfl, hk5, hD5, hG5⟩; obtain ⟨q, rfl⟩ : ∃ q : Nat, k5 = q := ⟨k5.toNat, by omega⟩; obtain ⟨x, hx, hx1, hx2⟩ := areas_get q (by omega); have c5 := ((zA.grown hG5 (fun h => by injection h with h; omega)).cell q).trans hx; have hq0 : (0 : Int) ≤ (q : Int) ∧ (q : Int) < 11 := (by omega); have hR5 := (hRa.keptG hG5 hgl).less hs1; have hb5 := hba.trans (grown_below hG5 (fun i hi => by injection hi with hi; omega) hba.size)))
        | (go_at_call 14; refine (next_any g 11 _ hDb (by omega)).mono ?_; rintro e w5 ⟨k5, rfl, hk5, hD5, hG5⟩; obtain ⟨q, rfl⟩ : ∃ q : Nat, k5 = q := ⟨k5.toNat, by omega⟩; obtain ⟨x, hx, hx1, hx2⟩ := areas_get q (by omega); have c5 := ((Bk.new w5 2 areasA).cell q).trans hx; have hq0 : (0 : Int) ≤ (q : Int) ∧ (q : Int) < 11 := (by omega); have hR5 := ((hRb.keptG hG5 hgl).less hs1).alloc (.cells areasA 2); have hbq := hbb.trans (grown_below hG5 (fun i hi => by injection hi with hi; omega) hbb.size); have hb5 := hbq.alloc hbq.size (.cells areasA 2)))
    all_goals
      go_wp2
      refine bodyPost_ret (results_tmp2 rfl _ _ _) rfl ?_
      exact ⟨_, _, _, rfl, hR5, hl, ⟨hx1, hx2⟩, hb5⟩

end Go.Proofs.Ytekglombgkndhaa
