/- Contracts: the regions that the laws draw: l17Fill, l03DrawRegion. Condition: a well-formed source. -/
import Derived.Test.YtooglkdloaaomaaDrawA
import Derived.Test.YtooglkdloaaomaaGapMath
namespace Go.Proofs.Ytooglkdloaaomaa
open Go.RowKit

theorem RL.keptG {w w' : World} {g B : Nat} {v : Value} {rs : List Rc} (h : RL w B v rs) (hg : w.grownBy w' (some g)) (hB : g < B) : RL w' B v rs := by
  refine World.ownsRow.kept h hg ?_
  cases hv : v.ownBlock with
  | none => exact .inl rfl
  | some q =>
    right
    intro he
    rw [Option.some.injEq] at he
    have := (own_lt h q hv).1
    omega

set_option maxHeartbeats 800000 in
set_option maxRecDepth 100000 in
/-- l17Fill. -/
theorem fill_any (gb c : Nat) (G : Gr) (r : Rc) (w : World) (hG : GB w gb 4 G) (hok : okRc r = true) : Calls Try.prog 157 #[.slice (some ⟨gb, 0, none⟩) 6400 c, r.val] w fun e w' => e = .returned (.slice (some ⟨gb, 0, none⟩) 6400 c) ∧ GB w' gb 4 (orR G r) ∧ w.grownBy w' (some gb) := by
  obtain ⟨x0, y0, x1, y1⟩ := r
  have hval := (okRc_iff _).1 hok
  dsimp only at hval
  clear hok
  have hgl := hG.lt
  have z0 := Bk.new w 32 #[.int .i64 x0, .int .i64 y0, .int .i64 x1, .int .i64 y1]
  have hG0 := hG.alloc (.cells #[.int .i64 x0, .int .i64 y0, .int .i64 x1, .int .i64 y1] 32)
  have t0 := only_alloc (only_refl w (some gb)) (.cells #[.int .i64 x0, .int .i64 y0, .int .i64 x1, .int .i64 y1] 32)
  obtain ⟨c0, c1, c2, c3⟩ := box4 z0
  unfold Rc.val
  go_enter Try.func157, Try.ntmps157
  go_wp2
  go_loopw [5] (fun yv wi => ∃ y : Int, y0 ≤ y ∧ y ≤ y1 ∧ yv = .int .i64 y ∧ GB wi gb 4 (orR G ⟨x0, y0, x1, y⟩) ∧ Bk wi w.heap.size 32 #[.int .i64 x0, .int .i64 y0, .int .i64 x1, .int .i64 y1] ∧ w.grownBy wi (some gb)) (fun yv _ => (40 - intOf yv).toNat)
  case atStart => exact ⟨y0, by omega, by omega, rfl, by rw [orR_empty _ _ (.inr (Int.le_refl _))]; exact hG0, z0, t0⟩
  case round =>
    obtain ⟨y, hy0, hy1, rfl, hG', hz', hb'⟩ := hrel
    clear hG0 z0 t0 c0 c1 c2 c3 hG
    obtain ⟨c0, c1, c2, c3⟩ := box4 hz'
    by_cases hy : y < y1
    · go_wp2
      go_loopw [6] (fun xv wj => ∃ x : Int, x0 ≤ x ∧ x ≤ x1 ∧ xv = .int .i64 x ∧ GB wj gb 4 (orR (orR G ⟨x0, y0, x1, y⟩) ⟨x0, y, x, y + 1⟩) ∧ Bk wj w.heap.size 32 #[.int .i64 x0, .int .i64 y0, .int .i64 x1, .int .i64 y1] ∧ w.grownBy wj (some gb)) (fun xv _ => (40 - intOf xv).toNat)
      case atStart => exact ⟨x0, by omega, by omega, rfl, by rw [orR_empty _ ⟨x0, y, x0, y + 1⟩ (.inl (Int.le_refl _))]; exact hG', hz', hb'⟩
      case round =>
        obtain ⟨x, hx0, hx1, rfl, hG2, hz2, hb2⟩ := hrel
        clear hG' hz' hb' c0 c1 c2 c3
        obtain ⟨c0, c1, c2, c3⟩ := box4 hz2
        by_cases hx : x < x1
        · have hon : onC x y = true := (onC_iff x y).2 (by omega)
          have hc := hG2.ix_ hon
          have hz := hG2.frozen (ix x y).toNat
          have hi : 0 ≤ ix x y ∧ ix x y < 6400 := by unfold ix; omega
          have Hon := Lib.hid hon
          clear hon
          go_wp2_with (go_at_call 141; refine (l17At_any x y (by omega) _).mono ?_; rintro e w1 ⟨rfl, rfl⟩)
          refine ⟨⟨x + 1, by omega, by omega, rfl, ?_, hz2.other (p := ⟨gb, _, none⟩) (show w.heap.size ≠ gb by omega) _, only_store hb2 _ _⟩, by simp [intOf]; omega⟩
          exact (hG2.store (by omega) true).cong (orR_step (by omega) hx0 Hon.out)
        · go_wp2
          have hxe : x = x1 := by omega
          refine ⟨⟨y + 1, by omega, by omega, rfl, ?_, hz2, hb2⟩, by simp [intOf]; omega⟩
          rw [hxe] at hG2
          exact hG2.cong (orR_row _ _ _ _ _ hy0)
    · go_wp2
      go_ret
      have hye : y = y1 := by omega
      rw [hye] at hG'
      exact ⟨rfl, hG', hb'⟩

set_option maxHeartbeats 1600000 in
set_option maxRecDepth 100000 in
/-- l03DrawRegion. -/
theorem drawRegion3_any (g : Nat) (w : World) (hD : Dice w g) : Calls Try.prog 113 #[.pointer (some ⟨g, 0, none⟩)] w fun e w' => ∃ v rs, e = .returned v ∧ RL w' w.heap.size v rs ∧ rs.length ≤ 7000 ∧ Dice w' g ∧ w.grownBy w' (some g) := by
  have hg := hD.lt
  have r0 : RL (w.alloc (.cells #[] 32)) w.heap.size (.slice (some ⟨w.heap.size, 0, none⟩) 0 0) [] := World.ownsRow_lit w #[] 0 (Nat.le_refl _) (by simp [maxLen]) rfl
  have hD0 := hD.alloc (.cells #[] 32)
  have hA := only_alloc (only_refl w (some g)) (.cells #[] 32)
  clear hD
  go_enter Try.func113, Try.ntmps113
  go_wp2_with fail
  refine (next_any g 6 _ hD0 (by omega)).mono ?_
  rintro e w1 ⟨k1, rfl, hk1, hD1, hG1⟩
  go_wp2_with fail
  refine (next_any g 3 _ hD1 (by omega)).mono ?_
  rintro e w2 ⟨k2, rfl, hk2, hD2, hG2⟩
  have e2 := Go.IntWalk.i64_in (k1 + k2) (by omega)
  have hA2 := only_trans hA (only_trans hG1 hG2)
  have r2 := (r0.keptG hG1 hg).keptG hG2 hg
  clear r0 hD0 hD1 hG1 hG2 hA
  go_wp2
  go_loopw [3, 4] (fun lv nv wr => ∃ (k : Int) (qs : List Rc), 0 ≤ k ∧ k ≤ 7 ∧ (qs.length : Int) + k ≤ 7 ∧ nv = .int .i64 k ∧ RL wr w.heap.size lv qs ∧ okAll qs = true ∧ Dice wr g ∧ w.grownBy wr (some g)) (fun _ nv _ => (intOf nv).toNat)
  case atStart => exact ⟨k1 + k2, [], by omega, by omega, by simp; omega, rfl, r2, rfl, hD2, hA2⟩
  case round =>
    obtain ⟨k, qs, h0, h7, hql, rfl, hR, hok, hDr, hGr⟩ := hrel
    have Hok := Lib.hid hok
    clear r2 hD2 hA2 hok
    by_cases hk : k > 0
    · have ek := Go.IntWalk.i64_in (k - 1) (by omega)
      go_wp2_with fail
      refine (drawRect_any g _ hDr).mono ?_
      rintro e w3 ⟨⟨x0, y0, x1, y1⟩, rfl, hrc, hD3, hG3⟩
      have hR3 := hR.keptG hG3 hg
      have hA3 := only_trans hGr hG3
      have hl3 : qs.length ≤ 1000000 := by omega
      have Hrc := Lib.hid hrc
      have hsz := hA3.size
      clear hR hDr hGr hG3 hrc
      unfold Rc.val
      go_wp2_with (at_builtin; refine wpList_append_R rfl (.tmp 15) (.tmp 18) rfl w.heap.size _ qs rfl hR3 _ _ _ _ rfl hl3 hsz ?_; intro v' w' p1 p2 p3)
      exact ⟨⟨k - 1, qs ++ [⟨x0, y0, x1, y1⟩], by omega, by omega, by rw [List.length_append, List.length_singleton]; omega, rfl, p1, okAll_append Hok.out (by simp [okAll, Hrc.out]), hD3.below p3 hg, only_above hA3 p3⟩, by simp [intOf]; omega⟩
    · go_wp2_with fail
      refine (l03Bits_any _ qs _ (hR.less (Nat.zero_le _)) Hok.out).mono ?_
      rintro e w3 ⟨u3, rfl, hG3, hb3⟩
      go_wp2_with fail
      refine (l03Canon_any u3 _ _ (hG3.less (Nat.zero_le _))).mono ?_
      rintro e w4 ⟨u4, rfl, hR4, hb4⟩
      go_wp2
      go_ret
      exact ⟨_, _, rfl, hR4.less (Nat.le_trans hGr.size hb3.size), Nat.le_trans (canon_few _) (by omega), (hDr.on hb3).on hb4, only_below (only_below hGr hb3) hb4⟩

end Go.Proofs.Ytooglkdloaaomaa
