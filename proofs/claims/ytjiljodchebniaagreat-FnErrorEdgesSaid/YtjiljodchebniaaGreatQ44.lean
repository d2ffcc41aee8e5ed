/- Contracts: the laws' copyRects and copyLayers. Condition: lists of bounded lengths. Contracts: the layouts and decks that the laws draw, spoilt or not. Condition: a well-formed source. -/
import Derived.Test.YtjiljodchebniaaGreatQ26
import Derived.Test.YtjiljodchebniaaGreatQ07
import Derived.Test.YtjiljodchebniaaGreatQ33
import Derived.Test.YtjiljodchebniaaGreatQ08
import Derived.Test.YtjiljodchebniaaGreatQ38
import Derived.Deep.CutRange
import Derived.Deep.RegionHeld3

namespace Go.Proofs.YtjiljodchebniaaGreat
open Go.RowKit

set_option maxHeartbeats 400000 in
/-- copyRects. -/
theorem copyR_any (v : Value) (rs : List Rc) (w : World) (hv : RL w 0 v rs) (hl : rs.length ≤ 1000000) : Calls Tryz.prog 7 #[v] w fun e w' => ∃ u, e = .returned u ∧ RL w' w.heap.size u rs ∧ Below w.heap.size w w' := by
  have r1 : RL (w.alloc (.cells #[] 75)) w.heap.size (.slice (some ⟨w.heap.size, 0, none⟩) 0 0) [] := row_empty w w.heap.size _ rfl (Nat.le_refl _)
  have hv2 := RL.alloc hv (.cells #[] 75)
  have hb1 := (Below.refl w.heap.size w).alloc (Nat.le_refl _) (.cells #[] 75)
  have hs1 := hb1.size
  have hlen : ([] : List Rc).length + rs.length ≤ 1000000 := by rw [List.length_nil]; omega
  obtain ⟨A, c, rfl, hc, hm, -⟩ := hv.form
  clear hv
  go_enter Tryz.func7, Tryz.ntmps7
  go_wp2_with (at_builtin; refine wpList_append_RR rfl (.tmp 3) (.tmp 4) rfl w.heap.size 0 _ _ _ _ rfl r1 rfl hv2 hlen hs1 ?_; intro v' w3 hR3 hb3)
  go_ret
  exact ⟨_, rfl, by rw [List.nil_append] at hR3; exact hR3, hb1.trans hb3⟩

set_option maxHeartbeats 800000 in
set_option maxRecDepth 100000 in
/-- copyLayers. -/
theorem copyLay_any (v : Value) (rss : List (List Rc)) (w : World) (hv : RLL w 0 v rss) (hn : rss.length ≤ 1000000) (hl : ∀ rs ∈ rss, rs.length ≤ 1000000) : Calls Tryz.prog 9 #[v] w fun e w' => ∃ u, e = .returned u ∧ RLL w' w.heap.size u rss ∧ Below w.heap.size w w' := by
  obtain ⟨A, c, rfl, hc, hm⟩ := hv.form
  have hL := Lib.hid hl
  have r1 := RLL.lit0 w (B := w.heap.size) (Nat.le_refl _)
  have Hv := Lib.hid hv
  have hb1 := (Below.refl w.heap.size w).alloc (Nat.le_refl _) (.cells #[] 24)
  clear hv hl
  go_enter Tryz.func9, Tryz.ntmps9
  go_wp2
  go_loopw [3, 4] (fun ov iv wr => ∃ k : Nat, k ≤ rss.length ∧ iv = .int .i64 k ∧ RLL wr w.heap.size ov (rss.take k) ∧ Below w.heap.size w wr) (fun _ iv _ => rss.length - (intOf iv).toNat)
  case atStart => exact ⟨0, Nat.zero_le _, rfl, r1, hb1⟩
  case round =>
    obtain ⟨k, hk, rfl, hO, hb⟩ := hrel
    have hV := Hv.out.on hb
    clear r1 hb1
    by_cases hlt : k < rss.length
    · obtain ⟨g, u, rs, rfl, hr, hg, f0, hR⟩ := hV.elem hlt
      have hrl := hL.out rs (List.mem_of_getElem? hr)
      have hst : rss.take k ++ [rs] = rss.take (k + 1) := by rw [List.take_add_one, hr]; rfl
      have Hst := Lib.hid hst
      obtain ⟨Au, cu, rfl, -, -, -⟩ := hR.form
      have hk9 : k < 9223372036854775807 := by omega
      have hlen : (rss.take k).length ≤ 1000000 := by rw [List.length_take]; omega
      have LEN := Lib.hid hlen
      clear hst hr hlen
      go_wp2_with fail
      refine (copyR_any _ rs _ hR hrl).mono ?_
      rintro e w2 ⟨z, rfl, hZ, hb2⟩
      have hO2 := hO.on hb2
      have hZ2 := hZ.less hb.size
      have hb3 := hb.trans (hb2.mono hb.size)
      have hsz := hb3.size
      obtain ⟨Az, cz, rfl, -, -, -⟩ := hZ2.form
      clear hO hV hZ hb hb2 hR f0
      go_wp2_with (at_builtin; refine wpList_append_RLL rfl (.tmp 12) (.tmp 18) rfl w.heap.size _ (rss.take k) rfl hO2 _ rs hZ2 rfl LEN.out hsz ?_; intro v' w' k1 k2 k3)
      rw [Hst.out] at k1
      exact ⟨⟨k + 1, by omega, by go_num, k1, hb3.trans k3⟩, by simp [intOf]; omega⟩
    · have hke : k = rss.length := by omega
      subst hke
      rw [List.take_length] at hO
      go_wp2
      go_ret
      exact ⟨_, rfl, hO, hb⟩

end Go.Proofs.YtjiljodchebniaaGreat

namespace Go.Proofs.YtjiljodchebniaaGreat
open Go.RowKit

theorem QL.nil (w : World) (B : Nat) : QL w B (.slice none 0 0) [] := World.ownsRow_nil w B _ _
theorem flatQ_one (a b c d e : Int) : flatQ [⟨a, b, c, d, e⟩] = [.int .i64 a, .int .i64 b, .int .i64 c, .int .i64 d, .int .i64 e] := rfl
/-- 'rules = append(rules, r)' on a list of rules of the call's own. -/
theorem wpList_append_Q {w : World} {ops : Array Oper} {rest : List Oper} {o : Oper} {a : Act} {Q : Exit → Act → World → Prop} (hgd : o.guard = none) (s x : Operand)
    (ho : o.op = .call { callee := .builtin .append, args := #[s, x], argTypes := #[32, 32] })
    (B : Nat) (v : Value) (qs : List Ru) (hs : a.eval s = v) (hown : QL w B v qs) (x0 x1 x2 x3 x4 : Int) (hx : a.eval x = .slice (some ⟨w.heap.size, 0, none⟩) 1 1)
    (hlen : qs.length ≤ 1000000) (hB : B ≤ w.heap.size)
    (h : ∀ v' w', QL w' B v' (qs ++ [⟨x0, x1, x2, x3, x4⟩]) → w.grownBy w' v.ownBlock → Below B w w' → wpList Tryz.prog ops Q rest (a.put o.dst v') w') :
    wpList Tryz.prog ops Q (o :: rest) a (w.alloc (.cells #[.int .i64 x0, .int .i64 x1, .int .i64 x2, .int .i64 x3, .int .i64 x4] 31)) := by
  obtain ⟨i, hi, hz, hsz, hby⟩ := info_parts infoRule
  refine wpList_append_own _ hgd s x 32 ho B 31 i _ 5 40 Tryz.underlying32 hi hz hsz hby rfl (by decide) v qs.length (flatQ qs) hs (World.ownsRow.alloc hown _) ⟨w.heap.size, 0, none⟩ 1 1
    [.int .i64 x0, .int .i64 x1, .int .i64 x2, .int .i64 x3, .int .i64 x4] hx rfl ?_ ?_ (by simp only [maxLen]; omega) (by omega) (by simp; omega) ?_
  · intro j u hu
    rw [Addr.add_lit, World.cell?_alloc_new]
    simpa using hu
  · intro u hu
    simp at hu
    rcases hu with rfl | rfl | rfl | rfl | rfl <;> rfl
  · intro v' w' h1 h2 _
    have h3 := grown_of_alloc h2
    refine h v' w' ?_ h3 (below_own hown h3 hB)
    unfold QL
    rw [flatQ_append, flatQ_one, List.length_append]
    exact h1
theorem LW.keptG {w w' : World} {g B : Nat} {v : Value} {us : List Value} {rss : List (List Rc)} (h : LW w B v us rss) (hg : w.grownBy w' (some g)) (hB : g < B) : LW w' B v us rss := by
  refine ⟨h.len, World.ownsRow.kept h.own hg ?_, fun k u q hu hq => (h.each k u q hu hq).keptG hg hB⟩
  cases hv : v.ownBlock with
  | none => exact .inl rfl
  | some q =>
    right
    intro he
    rw [Option.some.injEq] at he
    have := (own_lt h.own q hv).1
    omega
/-- A layout, as it is made: eight lists without elements. -/
theorem LW.made {w : World} {B g : Nat} (ho : w.ownsRow B 24 1 (.slice (some ⟨g, 0, none⟩) 8 8) 8 (madeCells #[.slice none 0 0] (8 * 1)).toList) : LW w B (.slice (some ⟨g, 0, none⟩) 8 8) (List.replicate 8 (.slice none 0 0)) (List.replicate 8 []) := by
  refine ⟨by simp, ?_, fun k u q hu hq => ?_⟩
  · rw [List.length_replicate, ← slices_zeros]
    exact ho
  · rw [List.getElem?_replicate] at hu hq
    split at hu
    · rename_i hk
      rw [if_pos hk] at hq
      cases hu
      cases hq
      exact RL.nil _ _
    · cases hu

set_option maxHeartbeats 800000 in
set_option maxRecDepth 100000 in
/-- l03DrawRegion; the rectangles are valid. -/
theorem drawRegion3_ok (g : Nat) (w : World) (hD : Dice w g) : Calls Tryz.prog 16 #[.pointer (some ⟨g, 0, none⟩)] w fun e w' => ∃ v rs, e = .returned v ∧ RL w' w.heap.size v rs ∧ rs.length ≤ 7000 ∧ okAll rs = true ∧ Dice w' g ∧ w.grownBy w' (some g) := by
  have hg := hD.lt
  have r0 : RL (w.alloc (.cells #[] 75)) w.heap.size (.slice (some ⟨w.heap.size, 0, none⟩) 0 0) [] := World.ownsRow_lit w #[] 0 (Nat.le_refl _) (by simp [maxLen]) rfl
  have hD0 := hD.alloc (.cells #[] 75)
  have hA := only_alloc (only_refl w (some g)) (.cells #[] 75)
  clear hD
  go_enter Tryz.func16, Tryz.ntmps16
  go_wp2_with fail
  refine (next_any g 6 _ hD0 (by omega)).mono ?_
  rintro e w1 ⟨k1, rfl, hk1, hD1, hG1⟩
  go_wp2_with fail
  refine (next_any g 3 _ hD1 (by omega)).mono ?_
  rintro e w2 ⟨k2, rfl, hk2, hD2, hG2⟩
  have e2 := Go.IntWalk.i64_in (k1 + k2) (by omega)
  have hA2 := only_trans hA (only_trans hG1 hG2)
  have r2 := (r0.keptG hG1 hg).keptG hG2 hg
  clear r0 hD0 hD1 hG1 hG2 hA
  go_wp2
  go_loopw [3, 4] (fun lv nv wr => ∃ (k : Int) (qs : List Rc), 0 ≤ k ∧ k ≤ 7 ∧ (qs.length : Int) + k ≤ 7 ∧ nv = .int .i64 k ∧ RL wr w.heap.size lv qs ∧ okAll qs = true ∧ Dice wr g ∧ w.grownBy wr (some g)) (fun _ nv _ => (intOf nv).toNat)
  case atStart => exact ⟨k1 + k2, [], by omega, by omega, by simp; omega, rfl, r2, rfl, hD2, hA2⟩
  case round =>
    obtain ⟨k, qs, h0, h7, hql, rfl, hR, hok, hDr, hGr⟩ := hrel
    have Hok := Lib.hid hok
    clear r2 hD2 hA2 hok
    by_cases hk : k > 0
    · have ek := Go.IntWalk.i64_in (k - 1) (by omega)
      go_wp2_with fail
      refine (drawRect_any g _ hDr).mono ?_
      rintro e w3 ⟨⟨x0, y0, x1, y1⟩, rfl, hrc, hD3, hG3⟩
      have hR3 := hR.keptG hG3 hg
      have hA3 := only_trans hGr hG3
      have hl3 : qs.length ≤ 1000000 := by omega
      have Hrc := Lib.hid hrc
      have hsz := hA3.size
      clear hR hDr hGr hG3 hrc
      unfold Rc.val
      go_wp2_with (at_builtin; refine wpList_append_R rfl (.tmp 15) (.tmp 18) rfl w.heap.size _ qs rfl hR3 _ _ _ _ rfl hl3 hsz ?_; intro v' w' p1 p2 p3)
      exact ⟨⟨k - 1, qs ++ [⟨x0, y0, x1, y1⟩], by omega, by omega, by rw [List.length_append, List.length_singleton]; omega, rfl, p1, okAll_append Hok.out (by simp [okAll, Hrc.out]), hD3.below p3 hg, only_above hA3 p3⟩, by simp [intOf]; omega⟩
    · go_wp2_with fail
      refine (l03Bits_any _ qs _ (hR.less (Nat.zero_le _)) Hok.out).mono ?_
      rintro e w3 ⟨u3, rfl, hG3, hb3⟩
      go_wp2_with fail
      refine (l03Canon_any u3 _ _ (hG3.less (Nat.zero_le _))).mono ?_
      rintro e w4 ⟨u4, rfl, hR4, hb4⟩
      go_wp2
      go_ret
      exact ⟨_, _, rfl, hR4.less (Nat.le_trans hGr.size hb3.size), Nat.le_trans (canon_few _) (by omega), canon_ok _, (hDr.on hb3).on hb4, only_below (only_below hGr hb3) hb4⟩

end Go.Proofs.YtjiljodchebniaaGreat
