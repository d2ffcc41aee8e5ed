/- Contract: the laws' w9Cell: a unit cell of the chip. Condition: a region. -/
import Derived.Test.YtooglkdloaaomaaDice
import Derived.Test.YtooglkdloaaomaaDrawK
import Derived.Deep.RegionHeld3
namespace Go.Proofs.Ytooglkdloaaomaa
open Go.RowKit

theorem DiceL.other {w : World} {g : Nat} (h : DiceL w g) {p : Addr} (hp : g < p.block) (x : Value) : DiceL (w.setCell p x) g := h.below (B := g + 1) ((Below.refl _ _).setCell (p := p) hp x) (by omega)
/-- Two stores into a block of one's own, behind the dice. -/
theorem diceL_two {w wb : World} {g b : Nat} (hD : DiceL wb g) (hg : g < b) (hwb : w.heap.size ≤ b) (hG : w.grownBy wb (some g)) (x0 x1 : Value) :
    DiceL ((wb.setCell ⟨b, 0, none⟩ x0).setCell ⟨b, 1, none⟩ x1) g ∧ w.grownBy ((wb.setCell ⟨b, 0, none⟩ x0).setCell ⟨b, 1, none⟩ x1) (some g) :=
  ⟨(hD.other (p := ⟨b, 0, none⟩) hg x0).other (p := ⟨b, 1, none⟩) hg x1, only_above hG (((Below.refl w.heap.size wb).setCell (p := ⟨b, 0, none⟩) hwb x0).setCell (p := ⟨b, 1, none⟩) hwb x1)⟩

set_option maxHeartbeats 3200000 in
set_option maxRecDepth 100000 in
/-- w9Cell. -/
theorem w9Cell_any (g : Nat) (v : Value) (rs : List Rc) (w : World) (hD : DiceL w g) (hv : RL w (g + 1) v rs) (hok : okAll rs = true) (hl : rs.length ≤ 3200) : Calls Try.prog 43 #[.pointer (some ⟨g, 0, none⟩), v] w fun e w' => ∃ x y : Int, e = .returned (.agg #[.int .i64 x, .int .i64 y]) ∧ onC x y = true ∧ DiceL w' g ∧ w.grownBy w' (some g) := by
  obtain ⟨A, c, rfl, hc, hm, -⟩ := hv.form
  have hg := hD.lt
  have z0 := Bk.new w 53 #[.int .i64 0, .int .i64 0]
  have hD0 := hD.alloc (.cells #[.int .i64 0, .int .i64 0] 53)
  have hA0 := only_alloc (only_refl w (some g)) (.cells #[.int .i64 0, .int .i64 0] 53)
  have hv0 := RL.alloc hv (.cells #[.int .i64 0, .int .i64 0] 53)
  have Hok := Lib.hid hok
  clear hD hv hok
  have hw0 : ∀ wx : World, w.grownBy wx (some g) → w.heap.size ≤ wx.heap.size := fun wx h => h.size
  by_cases hl0 : rs.length = 0
  · have hz : ((rs.length : Nat) : Int) = 0 := by omega
    go_enter Try.func43, Try.ntmps43
    go_wp2_with fail
    refine (below_any g 80 _ hD0 (by omega)).mono ?_
    rintro e w1 ⟨k1, rfl, hk1, hD1, hG1⟩
    have e1 := Go.IntWalk.i64_in (k1 - 40) (by omega)
    go_wp2_with fail
    refine (below_any g 80 _ hD1 (by omega)).mono ?_
    rintro e w2 ⟨k2, rfl, hk2, hD2, hG2⟩
    have e2 := Go.IntWalk.i64_in (k2 - 40) (by omega)
    have z2 := (z0.grown hG1 (by simp; omega)).grown hG2 (by simp; omega)
    have hA2 := only_trans (only_trans hA0 hG1) hG2
    obtain ⟨c0, c1⟩ := box2 z2
    have f0 := z2.frozen 0
    have f1 := z2.frozen 1
    have hfin := diceL_two hD2 hg (Nat.le_refl _) hA2 (.int .i64 (k1 - 40)) (.int .i64 (k2 - 40))
    clear z0 z2 hD0 hA0 hv0 hD1 hG1 hD2 hG2 hA2
    go_wp2
    refine bodyPost_ret (v := .agg #[.int .i64 (k1 - 40), .int .i64 (k2 - 40)]) (by simp [results, Try.results43, go_sem, *]) rfl ?_
    exact ⟨_, _, rfl, (onC_iff _ _).2 (by omega), hfin.1, hfin.2⟩
  · have hz : ¬ ((rs.length : Nat) : Int) = 0 := by omega
    have hzb : (((rs.length : Nat) : Int) == 0) = false := by simpa using hl0
    go_enter Try.func43, Try.ntmps43
    go_wp2_with fail
    refine (below_any g 5 _ hD0 (by omega)).mono ?_
    rintro e w3 ⟨k3, rfl, hk3, hD3, hG3⟩
    have z3 := z0.grown hG3 (by simp; omega)
    have hA3 := only_trans hA0 hG3
    have hv3 := hv0.keptG hG3 (Nat.lt_succ_self g)
    clear z0 hD0 hA0 hv0 hG3
    by_cases hk30 : k3 = 0
    · subst hk30
      go_wp2_with fail
      refine (below_any g 80 _ hD3 (by omega)).mono ?_
      rintro e w1 ⟨k1, rfl, hk1, hD1, hG1⟩
      have e1 := Go.IntWalk.i64_in (k1 - 40) (by omega)
      go_wp2_with fail
      refine (below_any g 80 _ hD1 (by omega)).mono ?_
      rintro e w2 ⟨k2, rfl, hk2, hD2, hG2⟩
      have e2 := Go.IntWalk.i64_in (k2 - 40) (by omega)
      have z2 := (z3.grown hG1 (by simp; omega)).grown hG2 (by simp; omega)
      have hA2 := only_trans (only_trans hA3 hG1) hG2
      obtain ⟨c0, c1⟩ := box2 z2
      have f0 := z2.frozen 0
      have f1 := z2.frozen 1
      have hfin := diceL_two hD2 hg (Nat.le_refl _) hA2 (.int .i64 (k1 - 40)) (.int .i64 (k2 - 40))
      clear z2 z3 hD1 hG1 hD2 hG2 hA2 hA3 hv3
      go_wp2
      refine bodyPost_ret (v := .agg #[.int .i64 (k1 - 40), .int .i64 (k2 - 40)]) (by simp [results, Try.results43, go_sem, *]) rfl ?_
      exact ⟨_, _, rfl, (onC_iff _ _).2 (by omega), hfin.1, hfin.2⟩
    · have hk3b : (k3 == 0) = false := by simpa using hk30
      go_wp2_with fail
      refine (below_any g _ _ hD3 (by omega)).mono ?_
      rintro e w4 ⟨k4, rfl, hk4, hD4, hG4⟩
      obtain ⟨m, rfl⟩ : ∃ m : Nat, k4 = m := ⟨k4.toNat, by omega⟩
      have hm0 : (0 : Int) ≤ (m : Int) ∧ (m : Int) < rs.length := by omega
      have z4 := z3.grown hG4 (by simp; omega)
      have hA4 := only_trans hA3 hG4
      have hv4 := hv3.keptG hG4 (Nat.lt_succ_self g)
      obtain ⟨gr, x0, y0, x1, y1, rfl, hr, hgr, f0, f1, f2, f3⟩ := hv4.elem (k := m) (by omega)
      have hrok := (okRc_iff _).1 (okAll_get Hok.out hr)
      dsimp only at hrok
      have z5 := Bk.new w4 32 #[.int .i64 x0, .int .i64 y0, .int .i64 x1, .int .i64 y1]
      have hD5 := hD4.alloc (.cells #[.int .i64 x0, .int .i64 y0, .int .i64 x1, .int .i64 y1] 32)
      have hA5 := only_alloc hA4 (.cells #[.int .i64 x0, .int .i64 y0, .int .i64 x1, .int .i64 y1] 32)
      have zr5 := z4.alloc (.cells #[.int .i64 x0, .int .i64 y0, .int .i64 x1, .int .i64 y1] 32)
      have hgb : g < w4.heap.size := hD4.lt
      have hs4 := hA4.size
      have hwb : w.heap.size < w4.heap.size := z4.lt
      clear z3 z4 hD3 hD4 hG4 hA3 hA4 hv3 hv4 hr hgr
      go_wp2
      clear f0 f1 f2 f3
      revert z5 hD5 hA5 zr5 hgb hwb
      generalize w4.alloc (.cells #[.int .i64 x0, .int .i64 y0, .int .i64 x1, .int .i64 y1] 32) = w5
      generalize w4.heap.size = b
      intro z5 hD5 hA5 zr5 hgb hwb
      have e1 := Go.IntWalk.i64_in (x1 - x0) (by omega)
      have e2 := Go.IntWalk.i64_in (x1 - x0 + 4) (by omega)
      have e3 := Go.IntWalk.i64_in (y1 - y0) (by omega)
      have e4 := Go.IntWalk.i64_in (y1 - y0 + 4) (by omega)
      have hne : some b ≠ some g := by simp; omega
      have hnw : some w.heap.size ≠ some g := by simp; omega
      have hD := hD5.drew
      have z := z5.drew
      have zr := zr5.drew
      have hA := only_drew hA5
      have t1 := fun (wz : World) (h : Bk wz b 32 #[.int .i64 x0, .int .i64 y0, .int .i64 x1, .int .i64 y1]) => box4 h
      clear hD5 z5 zr5 hA5
      have P := True.intro
      go_region_held3 (fun w' => w'.cell? ⟨b, 0, none⟩ = some (.int .i64 x0) ∧ w'.cell? ⟨b, 1, none⟩ = some (.int .i64 y0) ∧ w'.cell? ⟨b, 2, none⟩ = some (.int .i64 x1) ∧ w'.cell? ⟨b, 3, none⟩ = some (.int .i64 y1)) (first | exact t1 _ z | exact t1 _ ((z.other (p := ⟨w.heap.size, 0, none⟩) (Nat.ne_of_gt hwb) _).other (p := ⟨w.heap.size, 1, none⟩) (Nat.ne_of_gt hwb) _))
        (first
          | (go_at_call 35; clear P; refine (below_any g _ _ hD (by omega)).mono ?_; rintro e w6 ⟨p, rfl, hp, hD, hG⟩; have z := z.grown hG hne; have zr := zr.grown hG hnw; have hA := only_trans hA hG; have e5 := Go.IntWalk.i64_in (x0 + p) (by omega); have e6 := Go.IntWalk.i64_in (x0 + p - 2) (by omega); have cz := (box2 zr); have fz0 := zr.frozen 0; have fz1 := zr.frozen 1)
          | (go_at_call 35; refine (below_any g _ _ hD (by omega)).mono ?_; rintro e w7 ⟨q, rfl, hq, hD, hG⟩; have z := z.grown hG hne; have zr := zr.grown hG hnw; have hA := only_trans hA hG; have e7 := Go.IntWalk.i64_in (y0 + q) (by omega); have e8 := Go.IntWalk.i64_in (y0 + q - 2) (by omega); have cz := (box2 zr); have fz0 := zr.frozen 0; have fz1 := zr.frozen 1))
      all_goals
        have hfin := diceL_two hD hg (Nat.le_refl _) hA (.int .i64 (max (-40) (min 39 (x0 + p - 2)))) (.int .i64 (max (-40) (min 39 (y0 + q - 2))))
        obtain ⟨c0, c1⟩ := cz
        clear hD hA z zr t1
        go_wp2
        refine bodyPost_ret (v := .agg #[.int .i64 (max (-40) (min 39 (x0 + p - 2))), .int .i64 (max (-40) (min 39 (y0 + q - 2)))]) (by simp [results, Try.results43, go_sem, *]) rfl ?_
        exact ⟨_, _, rfl, (onC_iff _ _).2 (by omega), hfin.1, hfin.2⟩

end Go.Proofs.Ytooglkdloaaomaa
