/- Contracts: the reference's sides of a set (l06Is, l06Less, l06Sides, l06Whole). Conditions: a set of cells in memory. -/
import Derived.Test.YtemeegpmdhgocaaGreatEdI
import Derived.Deep.CutRange
import Derived.Deep.CutBlock
namespace Go.Proofs.YtemeegpmdhgocaaGreat
open Go.RowKit

set_option maxHeartbeats 800000 in
set_option maxRecDepth 100000 in
/-- l06Is. -/
theorem is_any (v : Value) (G : Gr) (x y dx dy : Int) (w : World) (hG : GS w 0 v G) (hx : -1000 ≤ x ∧ x ≤ 1000) (hy : -1000 ≤ y ∧ y ≤ 1000) :
    Calls Tryz.prog 87 #[v, .int .i64 x, .int .i64 y, .int .i64 dx, .int .i64 dy] w fun e w' => e = .returned (.bool (isSide G x y dx dy)) ∧ w = w' := by
  have e1 := Go.IntWalk.i64_in (x - 1) (by omega)
  have e2 := Go.IntWalk.i64_in (y - 1) (by omega)
  have HG := Lib.hid hG
  have HQ : Hid (∀ (a b : Int), Calls Tryz.prog 90 #[v, .int .i64 a, .int .i64 b] w fun e w' => e = .returned (.bool (hasG G a b)) ∧ w = w') := Lib.hid fun a b => l03Has_any v G a b w HG.out
  clear hG
  by_cases h1 : dx = 1
  · subst h1
    have hr : isSide G x y 1 dy = (hasG G x y && !hasG G x (y - 1)) := by simp [isSide]
    rw [hr]
    go_enter Tryz.func87, Tryz.ntmps87
    cases hc : hasG G x y
    all_goals
      go_wp2_with (go_at_call 90; (with_reducible refine (HQ.out _ _).mono ?_); rintro e w1 ⟨he, rfl⟩; (try rw [hc] at he); subst he)
      go_ret
      exact ⟨rfl, rfl⟩
  have b1 : (dx == 1) = false := by simpa using h1
  by_cases h2 : dx = -1
  · subst h2
    have hr : isSide G x y (-1) dy = (hasG G (x - 1) (y - 1) && !hasG G (x - 1) y) := by simp [isSide]
    rw [hr]
    go_enter Tryz.func87, Tryz.ntmps87
    cases hc : hasG G (x - 1) (y - 1)
    all_goals
      go_wp2_with (go_at_call 90; (with_reducible refine (HQ.out _ _).mono ?_); rintro e w1 ⟨he, rfl⟩; (try rw [hc] at he); subst he)
      go_ret
      exact ⟨rfl, rfl⟩
  have b2 : (dx == -1) = false := by simpa using h2
  by_cases h3 : dy = 1
  · subst h3
    have hr : isSide G x y dx 1 = (hasG G (x - 1) y && !hasG G x y) := by simp [isSide, h1, h2]
    rw [hr]
    go_enter Tryz.func87, Tryz.ntmps87
    cases hc : hasG G (x - 1) y
    all_goals
      go_wp2_with (go_at_call 90; (with_reducible refine (HQ.out _ _).mono ?_); rintro e w1 ⟨he, rfl⟩; (try rw [hc] at he); subst he)
      go_ret
      exact ⟨rfl, rfl⟩
  have b3 : (dy == 1) = false := by simpa using h3
  have hr : isSide G x y dx dy = (hasG G x (y - 1) && !hasG G (x - 1) (y - 1)) := by simp [isSide, h1, h2, h3]
  rw [hr]
  go_enter Tryz.func87, Tryz.ntmps87
  cases hc : hasG G x (y - 1)
  all_goals
    go_wp2_with (go_at_call 90; (with_reducible refine (HQ.out _ _).mono ?_); rintro e w1 ⟨he, rfl⟩; (try rw [hc] at he); subst he)
    go_ret
    exact ⟨rfl, rfl⟩

set_option maxHeartbeats 800000 in
set_option maxRecDepth 100000 in
/-- l06Less. -/
theorem less_any (a b : Ed) (w : World) : Calls Tryz.prog 91 #[a.val, b.val] w fun e w' => e = .returned (.bool (edLt a b)) ∧ Below w.heap.size w w' := by
  obtain ⟨x0, y0, x1, y1⟩ := a
  obtain ⟨u0, v0, u1, v1⟩ := b
  have bb : Below w.heap.size w ((w.alloc (.cells #[.int .i64 x0, .int .i64 y0, .int .i64 x1, .int .i64 y1] 70)).alloc (.cells #[.int .i64 u0, .int .i64 v0, .int .i64 u1, .int .i64 v1] 70)) := ((Below.refl _ _).alloc (Nat.le_refl _) _).alloc (by simp) _
  unfold Ed.val edLt
  dsimp only
  go_enter Tryz.func91, Tryz.ntmps91
  by_cases h1 : y0 = v0
  · subst h1
    by_cases h2 : x0 = u0
    · subst h2
      by_cases h3 : y1 = v1
      · subst h3
        go_wp2
        go_ret
        exact ⟨ret_bool (by simp), bb⟩
      · have b3 : (y1 == v1) = false := by simpa using h3
        go_wp2
        go_ret
        exact ⟨ret_bool (by simp), bb⟩
    · have b2 : (x0 == u0) = false := by simpa using h2
      go_wp2
      go_ret
      exact ⟨ret_bool (by simp), bb⟩
  · have b1 : (y0 == v0) = false := by simpa using h1
    go_wp2
    go_ret
    exact ⟨ret_bool (by simp), bb⟩

theorem sidesTo_row (G : Gr) (n m : Nat) (hm : m < 80) : sidesTo G (80 * n + m + 1) = sidesTo G (80 * n + m) ++ sidesAt G ((m : Int) - 40) ((n : Int) - 40) := by
  rw [sidesTo_succ, show (80 * n + m) % 80 = m by omega, show (80 * n + m) / 80 = n by omega]
set_option maxHeartbeats 6400000 in
set_option maxRecDepth 100000 in
/-- l06Sides. -/
theorem sides_any (v : Value) (G : Gr) (w : World) (hG : GS w 0 v G) :
    Calls Tryz.prog 86 #[v] w fun e w' => ∃ u, e = .returned u ∧ EL w' w.heap.size u (sidesTo G 6400) ∧ Below w.heap.size w w' := by
  have r0 : EL (w.alloc (.cells #[] 70)) w.heap.size (.slice (some ⟨w.heap.size, 0, none⟩) 0 0) [] := World.ownsRow_lit w #[] 0 (Nat.le_refl _) (by simp [maxLen]) (by simp)
  have b0 := (Below.refl w.heap.size w).alloc (Nat.le_refl _) (.cells #[] 70)
  have HG := Lib.hid hG
  have HV := Lib.hid (show ∀ W, Below w.heap.size w W → GS W 0 v G from fun W hW => hG.on hW)
  clear hG
  go_enter Tryz.func86, Tryz.ntmps86
  go_wp2
  go_loopw [3, 4] (fun ov yv wr => ∃ (n : Nat), n ≤ 80 ∧ yv = .int .i64 ((n : Int) - 40) ∧ EL wr w.heap.size ov (sidesTo G (80 * n)) ∧ Below w.heap.size w wr) (fun _ yv _ => (40 - intOf yv).toNat)
  case atStart => exact ⟨0, by omega, rfl, r0, b0⟩
  case round =>
    obtain ⟨n, hn, rfl, hR, hb⟩ := hrel
    clear r0 b0
    by_cases hn8 : n < 80
    · have h1 : (n : Int) - 40 < 40 := by omega
      have ey := Go.IntWalk.i64_in ((n : Int) - 40 + 1) (by omega)
      have ey2 := Go.IntWalk.i64_in ((n : Int) - 40 - 1) (by omega)
      go_wp2
      obtain ⟨wo, hwo⟩ : ∃ wo, wo = wr := ⟨_, rfl⟩
      subst hwo
      go_loopw [3, 5] (fun ov xv wx => ∃ (m : Nat), m ≤ 80 ∧ xv = .int .i64 ((m : Int) - 40) ∧ EL wx w.heap.size ov (sidesTo G (80 * n + m)) ∧ Below w.heap.size w wx) (fun _ xv _ => (40 - intOf xv).toNat)
      case atStart => exact ⟨0, by omega, rfl, hR, hb⟩
      case round =>
        obtain ⟨m, hm, rfl, hX, hbx⟩ := hrel
        clear hR hb
        by_cases hm8 : m < 80
        · have h2 : (m : Int) - 40 < 40 := by omega
          have ex := Go.IntWalk.i64_in ((m : Int) - 40 + 1) (by omega)
          have ex2 := Go.IntWalk.i64_in ((m : Int) - 40 - 1) (by omega)
          obtain ⟨x, hx⟩ : ∃ x, (m : Int) - 40 = x := ⟨_, rfl⟩
          obtain ⟨y, hy⟩ : ∃ y, (n : Int) - 40 = y := ⟨_, rfl⟩
          have hlen0 := sidesTo_len G (80 * n + m)
          have hrow := sidesTo_row G n m hm8
          simp only [hx, hy] at hrow h1 h2 ex ex2 ey ey2 ⊢
          have Hrow := Lib.hid hrow
          obtain ⟨L0, hL0⟩ : ∃ L, sidesTo G (80 * n + m) = L := ⟨_, rfl⟩
          rw [hL0] at hX hlen0
          have HL0 := Lib.hid hL0
          clear hrow hL0
          go_wp2_with fail
          refine (l03Has_any v G x y _ (HV.out _ hbx)).mono ?_
          rintro e w1 ⟨he, rfl⟩
          cases hc : hasG G x y with
          | false =>
            rw [hc] at he
            subst he
            have hfin : sidesTo G (80 * n + (m + 1)) = L0 := by rw [← Nat.add_assoc, Hrow.out, HL0.out]; unfold sidesAt; rw [hc]; simp
            go_wp2
            exact ⟨⟨m + 1, by omega, by rw [← hx]; go_num, by rw [hfin]; exact hX, hbx⟩, by simp [intOf]; omega⟩
          | true =>
            rw [hc] at he
            subst he
            have hfin : sidesTo G (80 * n + (m + 1)) = (((L0 ++ (if hasG G x (y - 1) = true then [] else [⟨x, y, x + 1, y⟩])) ++ (if hasG G (x + 1) y = true then [] else [⟨x + 1, y, x + 1, y + 1⟩])) ++ (if hasG G x (y + 1) = true then [] else [⟨x + 1, y + 1, x, y + 1⟩])) ++ (if hasG G (x - 1) y = true then [] else [⟨x, y + 1, x, y⟩]) := by rw [← Nat.add_assoc, Hrow.out, HL0.out]; unfold sidesAt; rw [if_pos hc]; simp only [List.append_assoc]
            have Hfin := Lib.hid hfin
            clear hfin hc
            go_wp2_with fail
            refine (l03Has_any v G x (y - 1) _ (HV.out _ hbx)).mono ?_
            rintro e v1 ⟨rfl, rfl⟩
            obtain ⟨L1, hL1⟩ : ∃ L : List Ed, L0 ++ (if hasG G x (y - 1) = true then [] else [⟨x, y, x + 1, y⟩]) = L := ⟨_, rfl⟩
            have hlen1 : L1.length ≤ 4 * (80 * n + m) + 1 := by rw [← hL1, List.length_append]; split <;> simp <;> omega
            have HL1 := Lib.hid hL1
            clear hL1
            go_upto_if 25 with fail
            go_cut [3] from 24 to 34 (fun ov wx => EL wx w.heap.size ov L1 ∧ Below w.heap.size w wx)
            case first =>
              cases hc : hasG G x (y - 1) with
              | true =>
                go_wp2_with fail
                go_meet
                exact ⟨by rw [← HL1.out, if_pos hc, List.append_nil]; exact hX, hbx⟩
              | false =>
                have Hc := Lib.hid hc
                have HXn := Lib.hid hX
                have hszn := hbx.size
                have hl9 : L0.length ≤ 1000000 := by omega
                clear hc hX
                go_wp2_with (at_builtin; refine wpList_append_E rfl (.tmp 26) (.tmp 33) rfl w.heap.size _ _ rfl HXn.out x y (x + 1) y rfl hl9 hszn ?_; intro v' w9 k1 k2 k3; have K1 := Lib.hid k1; clear k1 k2)
                go_meet
                exact ⟨by rw [← HL1.out, if_neg (by rw [Hc.out]; decide)]; exact K1.out, hbx.trans k3⟩
            obtain ⟨hX1, hb1⟩ := hcut
            obtain ⟨z1, hz1⟩ : ∃ W : World, W = wc := ⟨_, rfl⟩
            subst hz1
            clear hX hbx
            go_wp2_with fail
            refine (l03Has_any v G (x + 1) y _ (HV.out _ hb1)).mono ?_
            rintro e v2 ⟨rfl, rfl⟩
            obtain ⟨L2, hL2⟩ : ∃ L : List Ed, L1 ++ (if hasG G (x + 1) y = true then [] else [⟨x + 1, y, x + 1, y + 1⟩]) = L := ⟨_, rfl⟩
            have hlen2 : L2.length ≤ 4 * (80 * n + m) + 2 := by rw [← hL2, List.length_append]; split <;> simp <;> omega
            have HL2 := Lib.hid hL2
            clear hL2
            go_upto_if 40 with fail
            go_cut [3] from 39 to 51 (fun ov wx => EL wx w.heap.size ov L2 ∧ Below w.heap.size w wx)
            case first =>
              cases hc : hasG G (x + 1) y with
              | true =>
                go_wp2_with fail
                go_meet
                exact ⟨by rw [← HL2.out, if_pos hc, List.append_nil]; exact hX1, hb1⟩
              | false =>
                have Hc := Lib.hid hc
                have HXn := Lib.hid hX1
                have hszn := hb1.size
                have hl9 : L1.length ≤ 1000000 := by omega
                clear hc hX1
                go_wp2_with (at_builtin; refine wpList_append_E rfl (.tmp 41) (.tmp 50) rfl w.heap.size _ _ rfl HXn.out (x + 1) y (x + 1) (y + 1) rfl hl9 hszn ?_; intro v' w9 k1 k2 k3; have K1 := Lib.hid k1; clear k1 k2)
                go_meet
                exact ⟨by rw [← HL2.out, if_neg (by rw [Hc.out]; decide)]; exact K1.out, hb1.trans k3⟩
            obtain ⟨hX2, hb2⟩ := hcut
            obtain ⟨z2, hz2⟩ : ∃ W : World, W = wc := ⟨_, rfl⟩
            subst hz2
            clear hX1 hb1
            go_wp2_with fail
            refine (l03Has_any v G x (y + 1) _ (HV.out _ hb2)).mono ?_
            rintro e v3 ⟨rfl, rfl⟩
            obtain ⟨L3, hL3⟩ : ∃ L : List Ed, L2 ++ (if hasG G x (y + 1) = true then [] else [⟨x + 1, y + 1, x, y + 1⟩]) = L := ⟨_, rfl⟩
            have hlen3 : L3.length ≤ 4 * (80 * n + m) + 3 := by rw [← hL3, List.length_append]; split <;> simp <;> omega
            have HL3 := Lib.hid hL3
            clear hL3
            go_upto_if 57 with fail
            go_cut [3] from 56 to 68 (fun ov wx => EL wx w.heap.size ov L3 ∧ Below w.heap.size w wx)
            case first =>
              cases hc : hasG G x (y + 1) with
              | true =>
                go_wp2_with fail
                go_meet
                exact ⟨by rw [← HL3.out, if_pos hc, List.append_nil]; exact hX2, hb2⟩
              | false =>
                have Hc := Lib.hid hc
                have HXn := Lib.hid hX2
                have hszn := hb2.size
                have hl9 : L2.length ≤ 1000000 := by omega
                clear hc hX2
                go_wp2_with (at_builtin; refine wpList_append_E rfl (.tmp 58) (.tmp 67) rfl w.heap.size _ _ rfl HXn.out (x + 1) (y + 1) x (y + 1) rfl hl9 hszn ?_; intro v' w9 k1 k2 k3; have K1 := Lib.hid k1; clear k1 k2)
                go_meet
                exact ⟨by rw [← HL3.out, if_neg (by rw [Hc.out]; decide)]; exact K1.out, hb2.trans k3⟩
            obtain ⟨hX3, hb3⟩ := hcut
            obtain ⟨z3, hz3⟩ : ∃ W : World, W = wc := ⟨_, rfl⟩
            subst hz3
            clear hX2 hb2
            go_wp2_with fail
            refine (l03Has_any v G (x - 1) y _ (HV.out _ hb3)).mono ?_
            rintro e v4 ⟨rfl, rfl⟩
            obtain ⟨L4, hL4⟩ : ∃ L : List Ed, L3 ++ (if hasG G (x - 1) y = true then [] else [⟨x, y + 1, x, y⟩]) = L := ⟨_, rfl⟩
            have hlen4 : L4.length ≤ 4 * (80 * n + m) + 4 := by rw [← hL4, List.length_append]; split <;> simp <;> omega
            have HL4 := Lib.hid hL4
            clear hL4
            cases hc : hasG G (x - 1) y with
            | true =>
              have HX4 : Hid (L3 = L4) := Lib.hid (by rw [← HL4.out, if_pos hc, List.append_nil])
              clear hc
              go_wp2
              exact ⟨⟨m + 1, by omega, by rw [← hx]; go_num, by rw [Hfin.out, HL1.out, HL2.out, HL3.out, HL4.out, ← HX4.out]; exact hX3, hb3⟩, by simp [intOf]; omega⟩
            | false =>
              have Hc := Lib.hid hc
              have HXn := Lib.hid hX3
              have hszn := hb3.size
              have hl9 : L3.length ≤ 1000000 := by omega
              clear hc hX3
              go_wp2_with (at_builtin; refine wpList_append_E rfl (.tmp 75) (.tmp 82) rfl w.heap.size _ _ rfl HXn.out x (y + 1) x y rfl hl9 hszn ?_; intro v' w9 k1 k2 k3; have K1 := Lib.hid k1; clear k1 k2)
              exact ⟨⟨m + 1, by omega, by rw [← hx]; go_num, by rw [Hfin.out, HL1.out, HL2.out, HL3.out, if_neg (by rw [Hc.out]; decide)]; exact K1.out, hb3.trans k3⟩, by simp [intOf]; omega⟩
        · obtain rfl : m = 80 := by omega
          go_wp2
          exact ⟨⟨n + 1, by omega, by go_num, by rw [show 80 * (n + 1) = 80 * n + 80 by omega]; exact hX, hbx⟩, by simp [intOf]; omega⟩
    · obtain rfl : n = 80 := by omega
      go_wp2
      go_ret
      exact ⟨_, rfl, hR, hb⟩

end Go.Proofs.YtemeegpmdhgocaaGreat
