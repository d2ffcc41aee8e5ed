/- Contracts: the layouts and decks that the laws draw, spoilt or not. Condition: a well-formed source. -/
import Derived.Test.YtbljapihmkmolaaGreatDeckA
import Derived.Test.YtbljapihmkmolaaGreatDrawM
import Derived.Test.YtbljapihmkmolaaGreatRm
import Derived.Deep.CutRange
import Derived.Deep.RegionHeld3
namespace Go.Proofs.YtbljapihmkmolaaGreat
open Go.RowKit

theorem QL.nil (w : World) (B : Nat) : QL w B (.slice none 0 0) [] := World.ownsRow_nil w B _ _
theorem flatQ_one (a b c d e : Int) : flatQ [⟨a, b, c, d, e⟩] = [.int .i64 a, .int .i64 b, .int .i64 c, .int .i64 d, .int .i64 e] := rfl
/-- 'rules = append(rules, r)' on a list of rules of the call's own. -/
theorem wpList_append_Q {w : World} {ops : Array Oper} {rest : List Oper} {o : Oper} {a : Act} {Q : Exit → Act → World → Prop} (hgd : o.guard = none) (s x : Operand)
    (ho : o.op = .call { callee := .builtin .append, args := #[s, x], argTypes := #[42, 42] })
    (B : Nat) (v : Value) (qs : List Ru) (hs : a.eval s = v) (hown : QL w B v qs) (x0 x1 x2 x3 x4 : Int) (hx : a.eval x = .slice (some ⟨w.heap.size, 0, none⟩) 1 1)
    (hlen : qs.length ≤ 1000000) (hB : B ≤ w.heap.size)
    (h : ∀ v' w', QL w' B v' (qs ++ [⟨x0, x1, x2, x3, x4⟩]) → w.grownBy w' v.ownBlock → Below B w w' → wpList Tryz.prog ops Q rest (a.put o.dst v') w') :
    wpList Tryz.prog ops Q (o :: rest) a (w.alloc (.cells #[.int .i64 x0, .int .i64 x1, .int .i64 x2, .int .i64 x3, .int .i64 x4] 30)) := by
  obtain ⟨i, hi, hz, hsz, hby⟩ := info_parts infoRule
  refine wpList_append_own _ hgd s x 42 ho B 30 i _ 5 40 Tryz.underlying42 hi hz hsz hby rfl (by decide) v qs.length (flatQ qs) hs (World.ownsRow.alloc hown _) ⟨w.heap.size, 0, none⟩ 1 1
    [.int .i64 x0, .int .i64 x1, .int .i64 x2, .int .i64 x3, .int .i64 x4] hx rfl ?_ ?_ (by simp only [maxLen]; omega) (by omega) (by simp; omega) ?_
  · intro j u hu
    rw [Addr.add_lit, World.cell?_alloc_new]
    simpa using hu
  · intro u hu
    simp at hu
    rcases hu with rfl | rfl | rfl | rfl | rfl <;> rfl
  · intro v' w' h1 h2 _
    have h3 := grown_of_alloc h2
    refine h v' w' ?_ h3 (below_own hown h3 hB)
    unfold QL
    rw [flatQ_append, flatQ_one, List.length_append]
    exact h1
theorem LW.keptG {w w' : World} {g B : Nat} {v : Value} {us : List Value} {rss : List (List Rc)} (h : LW w B v us rss) (hg : w.grownBy w' (some g)) (hB : g < B) : LW w' B v us rss := by
  refine ⟨h.len, World.ownsRow.kept h.own hg ?_, fun k u q hu hq => (h.each k u q hu hq).keptG hg hB⟩
  cases hv : v.ownBlock with
  | none => exact .inl rfl
  | some q =>
    right
    intro he
    rw [Option.some.injEq] at he
    have := (own_lt h.own q hv).1
    omega
/-- A layout, as it is made: eight lists without elements. -/
theorem LW.made {w : World} {B g : Nat} (ho : w.ownsRow B 26 1 (.slice (some ⟨g, 0, none⟩) 8 8) 8 (madeCells #[.slice none 0 0] (8 * 1)).toList) : LW w B (.slice (some ⟨g, 0, none⟩) 8 8) (List.replicate 8 (.slice none 0 0)) (List.replicate 8 []) := by
  refine ⟨by simp, ?_, fun k u q hu hq => ?_⟩
  · rw [List.length_replicate, ← slices_zeros]
    exact ho
  · rw [List.getElem?_replicate] at hu hq
    split at hu
    · rename_i hk
      rw [if_pos hk] at hq
      cases hu
      cases hq
      exact RL.nil _ _
    · cases hu

set_option maxHeartbeats 800000 in
set_option maxRecDepth 100000 in
/-- l03DrawRegion; the rectangles are valid. -/
theorem drawRegion3_ok (g : Nat) (w : World) (hD : Dice w g) : Calls Tryz.prog 134 #[.pointer (some ⟨g, 0, none⟩)] w fun e w' => ∃ v rs, e = .returned v ∧ RL w' w.heap.size v rs ∧ rs.length ≤ 7000 ∧ okAll rs = true ∧ Dice w' g ∧ w.grownBy w' (some g) := by
  have hg := hD.lt
  have r0 : RL (w.alloc (.cells #[] 80)) w.heap.size (.slice (some ⟨w.heap.size, 0, none⟩) 0 0) [] := World.ownsRow_lit w #[] 0 (Nat.le_refl _) (by simp [maxLen]) rfl
  have hD0 := hD.alloc (.cells #[] 80)
  have hA := only_alloc (only_refl w (some g)) (.cells #[] 80)
  clear hD
  go_enter Tryz.func134, Tryz.ntmps134
  go_wp2_with fail
  refine (next_any g 6 _ hD0 (by omega)).mono ?_
  rintro e w1 ⟨k1, rfl, hk1, hD1, hG1⟩
  go_wp2_with fail
  refine (next_any g 3 _ hD1 (by omega)).mono ?_
  rintro e w2 ⟨k2, rfl, hk2, hD2, hG2⟩
  have e2 := Go.IntWalk.i64_in (k1 + k2) (by omega)
  have hA2 := only_trans hA (only_trans hG1 hG2)
  have r2 := (r0.keptG hG1 hg).keptG hG2 hg
  clear r0 hD0 hD1 hG1 hG2 hA
  go_wp2
  go_loopw [3, 4] (fun lv nv wr => ∃ (k : Int) (qs : List Rc), 0 ≤ k ∧ k ≤ 7 ∧ (qs.length : Int) + k ≤ 7 ∧ nv = .int .i64 k ∧ RL wr w.heap.size lv qs ∧ okAll qs = true ∧ Dice wr g ∧ w.grownBy wr (some g)) (fun _ nv _ => (intOf nv).toNat)
  case atStart => exact ⟨k1 + k2, [], by omega, by omega, by simp; omega, rfl, r2, rfl, hD2, hA2⟩
  case round =>
    obtain ⟨k, qs, h0, h7, hql, rfl, hR, hok, hDr, hGr⟩ := hrel
    have Hok := Lib.hid hok
    clear r2 hD2 hA2 hok
    by_cases hk : k > 0
    · have ek := Go.IntWalk.i64_in (k - 1) (by omega)
      go_wp2_with fail
      refine (drawRect_any g _ hDr).mono ?_
      rintro e w3 ⟨⟨x0, y0, x1, y1⟩, rfl, hrc, hD3, hG3⟩
      have hR3 := hR.keptG hG3 hg
      have hA3 := only_trans hGr hG3
      have hl3 : qs.length ≤ 1000000 := by omega
      have Hrc := Lib.hid hrc
      have hsz := hA3.size
      clear hR hDr hGr hG3 hrc
      unfold Rc.val
      go_wp2_with (at_builtin; refine wpList_append_R rfl (.tmp 15) (.tmp 18) rfl w.heap.size _ qs rfl hR3 _ _ _ _ rfl hl3 hsz ?_; intro v' w' p1 p2 p3)
      exact ⟨⟨k - 1, qs ++ [⟨x0, y0, x1, y1⟩], by omega, by omega, by rw [List.length_append, List.length_singleton]; omega, rfl, p1, okAll_append Hok.out (by simp [okAll, Hrc.out]), hD3.below p3 hg, only_above hA3 p3⟩, by simp [intOf]; omega⟩
    · go_wp2_with fail
      refine (l03Bits_any _ qs _ (hR.less (Nat.zero_le _)) Hok.out).mono ?_
      rintro e w3 ⟨u3, rfl, hG3, hb3⟩
      go_wp2_with fail
      refine (l03Canon_any u3 _ _ (hG3.less (Nat.zero_le _))).mono ?_
      rintro e w4 ⟨u4, rfl, hR4, hb4⟩
      go_wp2
      go_ret
      exact ⟨_, _, rfl, hR4.less (Nat.le_trans hGr.size hb3.size), Nat.le_trans (canon_few _) (by omega), canon_ok _, (hDr.on hb3).on hb4, only_below (only_below hGr hb3) hb4⟩

set_option maxHeartbeats 800000 in
set_option maxRecDepth 100000 in
/-- l20DrawLayers. -/
theorem drawLayers_any (g : Nat) (w : World) (hD : Dice w g) : Calls Tryz.prog 75 #[.pointer (some ⟨g, 0, none⟩)] w fun e w' => ∃ (b : Nat) (us : List Value) (rss : List (List Rc)), e = .returned (.slice (some ⟨b, 0, none⟩) 8 8) ∧ LW w' w.heap.size (.slice (some ⟨b, 0, none⟩) 8 8) us rss ∧ rss.length = 8 ∧ (∀ rs ∈ rss, rs.length ≤ 7000 ∧ okAll rs = true) ∧ Dice w' g ∧ w.grownBy w' (some g) := by
  have hg := hD.lt
  obtain ⟨i0, hi0, hz0, hsz0, hby0⟩ := info_parts info_rects
  go_enter Tryz.func75, Tryz.ntmps75
  go_wp2_with (at_make; refine wpList_make_full _ rfl _ _ 28 rfl w.heap.size 26 i0 _ 1 Tryz.underlying28 hi0 hz0 hsz0 _ _ _ _ 8 rfl rfl rfl rfl (by rw [hby0]; omega) (by simp only [maxLen]; omega) (Nat.le_refl _) ?_)
  intro w1 ho1 hg1
  have hD1 := hD.grown hg1 (fun q hq => by cases hq)
  have hb1 : Below w.heap.size w w1 := (Below.refl _ _).grown hg1 (Nat.le_refl _) (fun k hk => by cases hk)
  have hA1 := only_above (only_refl w (some g)) hb1
  have hX1 := LW.made ho1
  clear ho1 hg1 hi0 hz0 hsz0 hby0 hD
  go_wp2_with fail
  refine (next_any g 3 _ hD1 (by omega)).mono ?_
  rintro e w2 ⟨k, rfl, hk, hD2, hG2⟩
  have e2 := Go.IntWalk.i64_in (k + 1) (by omega)
  have hA2 := only_trans hA1 hG2
  have hX2 := hX1.keptG hG2 hg
  clear hD1 hA1 hX1 hG2 hb1
  go_wp2
  go_loopw [4] (fun nv wr => ∃ (k : Int) (us : List Value) (rss : List (List Rc)), 0 ≤ k ∧ k ≤ 4 ∧ nv = .int .i64 k ∧ LW wr w.heap.size (.slice (some ⟨w.heap.size, 0, none⟩) 8 8) us rss ∧ rss.length = 8 ∧ Hid (∀ rs ∈ rss, rs.length ≤ 7000 ∧ okAll rs = true) ∧ Dice wr g ∧ w.grownBy wr (some g)) (fun nv _ => (intOf nv).toNat)
  case atStart => exact ⟨k + 1, _, _, by omega, by omega, rfl, hX2, by simp, Lib.hid (fun rs h => by rw [List.eq_of_mem_replicate h]; exact ⟨by simp, rfl⟩), hD2, hA2⟩
  case round =>
    obtain ⟨k, us, rss, h0, h4, rfl, hX, h8, Hsm, hDr, hGr⟩ := hrel
    clear hD2 hA2 hX2 hk e2
    by_cases hk : k > 0
    · have ek := Go.IntWalk.i64_in (k - 1) (by omega)
      go_wp2_with fail
      refine (next_any g 8 _ hDr (by omega)).mono ?_
      rintro e w3 ⟨j, rfl, hj, hD3, hG3⟩
      have hX3 := hX.keptG hG3 hg
      have hA3 := only_trans hGr hG3
      clear hX hDr hGr hG3
      obtain ⟨m, rfl⟩ : ∃ m : Nat, j = m := ⟨j.toNat, by omega⟩
      have hm8 : m < rss.length := by omega
      go_wp2_with fail
      refine (drawRegion3_ok g _ hD3).mono ?_
      rintro e w4 ⟨u, rs, rfl, hR, hl, hok, hD4, hG4⟩
      have Hok := Lib.hid hok
      clear hok
      have hX4 := hX3.keptG hG4 hg
      have hA4 := only_trans hA3 hG4
      have hR4 := hR.less hA3.size
      have hX5 := Lib.hid (hX4.set1 hm8 rs u hR4)
      have z0 := hX4.frozen m
      obtain ⟨g0, y, hA0, hy, -, d1, d0, -⟩ := LW.elem hX4 (List.getElem?_eq_getElem hm8)
      cases hA0
      obtain ⟨Au, cu, hu', -, -, -⟩ := hR4.form
      have Hsm2 : Hid (∀ x ∈ rss.set m rs, x.length ≤ 7000 ∧ okAll x = true) := Lib.hid (fun x hx => by
        rcases List.mem_or_eq_of_mem_set hx with h | h
        · exact Hsm.out x h
        · rw [h]; exact ⟨hl, Hok.out⟩)
      clear hX3 hX4 hD3 hA3 hG4 hR hR4 hy
      subst hu'
      have hi8 : (0 : Int) ≤ (m : Int) ∧ (m : Int) < 8 := by omega
      go_wp2
      exact ⟨⟨k - 1, _, _, by omega, by omega, rfl, hX5.out, by rw [List.length_set]; exact h8, Hsm2, hD4.other (p := ⟨w.heap.size, m, none⟩) hg _, only_above hA4 ((Below.refl w.heap.size w4).setCell (p := ⟨w.heap.size, m, none⟩) (Nat.le_refl _) _)⟩, by simp [intOf]; omega⟩
    · go_wp2
      go_ret
      exact ⟨_, rfl, _, _, hX, h8, Hsm.out, hDr, hGr⟩

end Go.Proofs.YtbljapihmkmolaaGreat
