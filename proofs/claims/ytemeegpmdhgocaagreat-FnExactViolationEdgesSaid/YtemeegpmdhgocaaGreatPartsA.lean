/- Contracts: the reference's l04Combine and l07Flood (over sides). Condition: a cell of the chip. Contract: the reference's l07Flood (over sides). Condition: a cell of the chip. Contract: IsValidViolation of the program. Condition: a list of rectangles in memory. Contracts: the reference's l07Parts, l07Components, ComponentCount, IsConnected, IsValidViolation. No conditions. Contracts: boxOf of the program, l02Box of the reference, ViolationBox of both. Condition: a list of rectangles in memory that is not empty. -/
import Derived.Test.YtemeegpmdhgocaaGreatVisit
import Derived.Test.YtemeegpmdhgocaaGreatRepMath
import Derived.StillTailTactics
import Derived.Test.YtemeegpmdhgocaaGreatConn
import Derived.Test.YtemeegpmdhgocaaGreatCompsS
namespace Go.Proofs.YtemeegpmdhgocaaGreat
open Go.RowKit

/-- What a truth table tells of two sets. -/
def tabG (op : Int) (G H : Gr) : Gr := fun i => if op = 14 then G i || H i else G i && H i
theorem tab14 (G H : Gr) : tabG 14 G H = unionG G H := rfl
theorem tab8 (G H : Gr) : tabG 8 G H = interG G H := rfl

set_option maxHeartbeats 800000 in
set_option maxRecDepth 100000 in
theorem combine_any (v u : Value) (op : Int) (hop : op = 14 ∨ op = 8) (G H : Gr) (w : World) (hG : GS w 0 v G) (hH : GS w 0 u H) : Calls Tryz.prog 129 #[v, u, .int .i64 op] w fun e w' => ∃ z, e = .returned z ∧ GS w' w.heap.size z (tabG op G H) ∧ Below w.heap.size w w' := by
  obtain ⟨g, c, rfl, -, hg⟩ := hG
  obtain ⟨h, d, rfl, -, hh⟩ := hH
  have hgl := hg.lt
  have hhl := hh.lt
  have hmk := run_make_6400
  have g0 := GB.made w 4
  have hg0 := hg.alloc (.cells noCells 4)
  have hh0 := hh.alloc (.cells noCells 4)
  have b0 : Below w.heap.size w (w.alloc (.cells noCells 4)) := (Below.refl _ _).alloc (Nat.le_refl _) _
  rcases hop with rfl | rfl
  · go_enter Tryz.func129, Tryz.ntmps129
    go_wp2
    clear hmk
    go_loopw [8] (fun iv wr => ∃ i : Nat, i ≤ 6400 ∧ iv = .int .i64 i ∧ GB wr w.heap.size 4 (partG (tabG 14 G H) i) ∧ GB wr g 4 G ∧ GB wr h 4 H ∧ Below w.heap.size w wr) (fun iv _ => 6400 - (intOf iv).toNat)
    case atStart => exact ⟨0, by omega, rfl, by rw [partG_zero]; exact g0, hg0, hh0, b0⟩
    case round =>
      obtain ⟨i, hi, rfl, hO, hG1, hH1, hb⟩ := hrel
      clear g0 hg0 hh0 b0
      by_cases hlt : i < 6400
      · have hi0 : (0 : Int) ≤ (i : Int) ∧ (i : Int) < 6400 := by omega
        have cx := hG1.cell hlt
        have cy := hH1.cell hlt
        have co := hO.cell hlt
        have hz := hO.frozen i
        have hst := hO.store hlt (tabG 14 G H i)
        rw [partG_step] at hst
        have hd : tabG 14 G H i = (G i || H i) := rfl
        rw [hd] at hst
        clear hd
        have Hst := Lib.hid hst
        clear hst
        cases h1 : G i with
        | true =>
          cases h2 : H i with
          | true =>
            rw [h1, h2] at Hst
            rw [h1] at cx
            rw [h2] at cy
            clear h1 h2
            go_wp2
            exact ⟨⟨i + 1, by omega, by go_num, Hst.out, hG1.other (p := ⟨w.heap.size, _, none⟩) (show g ≠ w.heap.size by omega) _, hH1.other (p := ⟨w.heap.size, _, none⟩) (show h ≠ w.heap.size by omega) _, hb.setCell (p := ⟨w.heap.size, _, none⟩) (Nat.le_refl _) _⟩, by simp [intOf]; omega⟩
          | false =>
            rw [h1, h2] at Hst
            rw [h1] at cx
            rw [h2] at cy
            clear h1 h2
            go_wp2
            exact ⟨⟨i + 1, by omega, by go_num, Hst.out, hG1.other (p := ⟨w.heap.size, _, none⟩) (show g ≠ w.heap.size by omega) _, hH1.other (p := ⟨w.heap.size, _, none⟩) (show h ≠ w.heap.size by omega) _, hb.setCell (p := ⟨w.heap.size, _, none⟩) (Nat.le_refl _) _⟩, by simp [intOf]; omega⟩
        | false =>
          cases h2 : H i with
          | true =>
            rw [h1, h2] at Hst
            rw [h1] at cx
            rw [h2] at cy
            clear h1 h2
            go_wp2
            exact ⟨⟨i + 1, by omega, by go_num, Hst.out, hG1.other (p := ⟨w.heap.size, _, none⟩) (show g ≠ w.heap.size by omega) _, hH1.other (p := ⟨w.heap.size, _, none⟩) (show h ≠ w.heap.size by omega) _, hb.setCell (p := ⟨w.heap.size, _, none⟩) (Nat.le_refl _) _⟩, by simp [intOf]; omega⟩
          | false =>
            rw [h1, h2] at Hst
            rw [h1] at cx
            rw [h2] at cy
            clear h1 h2
            go_wp2
            exact ⟨⟨i + 1, by omega, by go_num, Hst.out, hG1.other (p := ⟨w.heap.size, _, none⟩) (show g ≠ w.heap.size by omega) _, hH1.other (p := ⟨w.heap.size, _, none⟩) (show h ≠ w.heap.size by omega) _, hb.setCell (p := ⟨w.heap.size, _, none⟩) (Nat.le_refl _) _⟩, by simp [intOf]; omega⟩
      · have hie : i = 6400 := by omega
        rw [hie] at hO
        go_wp2
        go_ret
        exact ⟨_, rfl, ⟨_, _, rfl, Nat.le_refl _, hO.same (partG_all _)⟩, hb⟩
  · go_enter Tryz.func129, Tryz.ntmps129
    go_wp2
    clear hmk
    go_loopw [8] (fun iv wr => ∃ i : Nat, i ≤ 6400 ∧ iv = .int .i64 i ∧ GB wr w.heap.size 4 (partG (tabG 8 G H) i) ∧ GB wr g 4 G ∧ GB wr h 4 H ∧ Below w.heap.size w wr) (fun iv _ => 6400 - (intOf iv).toNat)
    case atStart => exact ⟨0, by omega, rfl, by rw [partG_zero]; exact g0, hg0, hh0, b0⟩
    case round =>
      obtain ⟨i, hi, rfl, hO, hG1, hH1, hb⟩ := hrel
      clear g0 hg0 hh0 b0
      by_cases hlt : i < 6400
      · have hi0 : (0 : Int) ≤ (i : Int) ∧ (i : Int) < 6400 := by omega
        have cx := hG1.cell hlt
        have cy := hH1.cell hlt
        have co := hO.cell hlt
        have hz := hO.frozen i
        have hst := hO.store hlt (tabG 8 G H i)
        rw [partG_step] at hst
        have hd : tabG 8 G H i = (G i && H i) := rfl
        rw [hd] at hst
        clear hd
        have Hst := Lib.hid hst
        clear hst
        cases h1 : G i with
        | true =>
          cases h2 : H i with
          | true =>
            rw [h1, h2] at Hst
            rw [h1] at cx
            rw [h2] at cy
            clear h1 h2
            go_wp2
            exact ⟨⟨i + 1, by omega, by go_num, Hst.out, hG1.other (p := ⟨w.heap.size, _, none⟩) (show g ≠ w.heap.size by omega) _, hH1.other (p := ⟨w.heap.size, _, none⟩) (show h ≠ w.heap.size by omega) _, hb.setCell (p := ⟨w.heap.size, _, none⟩) (Nat.le_refl _) _⟩, by simp [intOf]; omega⟩
          | false =>
            rw [h1, h2] at Hst
            rw [h1] at cx
            rw [h2] at cy
            clear h1 h2
            go_wp2
            exact ⟨⟨i + 1, by omega, by go_num, Hst.out, hG1.other (p := ⟨w.heap.size, _, none⟩) (show g ≠ w.heap.size by omega) _, hH1.other (p := ⟨w.heap.size, _, none⟩) (show h ≠ w.heap.size by omega) _, hb.setCell (p := ⟨w.heap.size, _, none⟩) (Nat.le_refl _) _⟩, by simp [intOf]; omega⟩
        | false =>
          cases h2 : H i with
          | true =>
            rw [h1, h2] at Hst
            rw [h1] at cx
            rw [h2] at cy
            clear h1 h2
            go_wp2
            exact ⟨⟨i + 1, by omega, by go_num, Hst.out, hG1.other (p := ⟨w.heap.size, _, none⟩) (show g ≠ w.heap.size by omega) _, hH1.other (p := ⟨w.heap.size, _, none⟩) (show h ≠ w.heap.size by omega) _, hb.setCell (p := ⟨w.heap.size, _, none⟩) (Nat.le_refl _) _⟩, by simp [intOf]; omega⟩
          | false =>
            rw [h1, h2] at Hst
            rw [h1] at cx
            rw [h2] at cy
            clear h1 h2
            go_wp2
            exact ⟨⟨i + 1, by omega, by go_num, Hst.out, hG1.other (p := ⟨w.heap.size, _, none⟩) (show g ≠ w.heap.size by omega) _, hH1.other (p := ⟨w.heap.size, _, none⟩) (show h ≠ w.heap.size by omega) _, hb.setCell (p := ⟨w.heap.size, _, none⟩) (Nat.le_refl _) _⟩, by simp [intOf]; omega⟩
      · have hie : i = 6400 := by omega
        rw [hie] at hO
        go_wp2
        go_ret
        exact ⟨_, rfl, ⟨_, _, rfl, Nat.le_refl _, hO.same (partG_all _)⟩, hb⟩

end Go.Proofs.YtemeegpmdhgocaaGreat

namespace Go.Proofs.YtemeegpmdhgocaaGreat
open Go.RowKit

/-- The step leads to both sides, off the set, or to a cell of the list. -/
theorem vis_has {L : Gr} {qs : List Nat} {j : Nat} {a b X Y : Int} (h : Vis L qs j ((a + 1) * 3 + (b + 1))) (ha : -1 ≤ a ∧ a ≤ 1) (hb : -1 ≤ b ∧ b ≤ 1) (hX : X = ((j % 80 : Nat) : Int) - 40 + b) (hY : Y = ((j / 80 : Nat) : Int) - 40 + a)
    (ho : (b ≠ 0 ∧ a ≠ 0) ∨ hasG L X Y = false ∨ (ix X Y).toNat ∈ qs) : Vis L qs j ((a + 1) * 3 + (b + 1 + 1)) := by
  rw [← Int.add_assoc]
  refine vis_next h fun m hm hn hL hp => ?_
  obtain ⟨h1, h2, h3⟩ := vis_pos hn ha hb hp
  obtain ⟨h4, h5⟩ := ix_of (m := m) (x := X) (y := Y) hm (by omega) (by omega)
  rcases ho with ho | ho | ho
  · omega
  · rw [hasG_on h4, h5, hL] at ho
    cases ho
  · rw [h5] at ho
    exact ho
theorem grid_nbr {qs : List Nat} {j : Nat} {a b X Y : Int} (hj : j ∈ qs) (ha : -1 ≤ a ∧ a ≤ 1) (hb : -1 ≤ b ∧ b ≤ 1) (hz : b = 0 ∨ a = 0) (hX : X = ((j % 80 : Nat) : Int) - 40 + b) (hY : Y = ((j / 80 : Nat) : Int) - 40 + a)
    (hon : onC X Y = true) (hnew : setL qs (ix X Y).toNat = false) : nbr j (ix X Y).toNat ∧ (ix X Y).toNat < 6400 := by
  rw [onC_iff] at hon
  have e : ((ix X Y).toNat : Int) = (Y + 40) * 80 + (X + 40) := by unfold ix; omega
  exact ⟨on_nbr hj ha hb (by omega) (by omega) (by omega) hnew, by omega⟩

set_option maxHeartbeats 12800000 in
set_option maxRecDepth 100000 in
/-- l07Flood, over sides. -/
theorem flood7_any (gv cv : Nat) (L : Gr) (x y : Int) (w : World) (hG : GB w gv 4 L) (hon : onC x y = true) :
    Calls Tryz.prog 128 #[.slice (some ⟨gv, 0, none⟩) 6400 cv, .int .i64 x, .int .i64 y, .bool false] w fun e w' => ∃ z, e = .returned z ∧ GS w' w.heap.size z (compG L (ix x y).toNat) ∧ Below w.heap.size w w' := by
  have hxy := (onC_iff x y).1 hon
  have hs6 := (ix_nat hon).2
  rw [← (ix_nat hon).1] at hs6
  have hi : 0 ≤ ix x y ∧ ix x y < 6400 := by unfold ix; omega
  have hg := hG.lt
  have hmk := run_make_6400
  have g0 := GB.made w 4
  have hz0 := g0.frozen (ix x y).toNat
  have hc0 := g0.cell hs6
  have g1 := g0.store hs6 true
  have l1 := (hG.alloc (.cells noCells 4)).other (p := ⟨w.heap.size, (ix x y).toNat, none⟩) (show gv ≠ w.heap.size by omega) (.bool true)
  have b1 := ((Below.refl w.heap.size w).alloc (Nat.le_refl _) (.cells noCells 4)).setCell (p := ⟨w.heap.size, (ix x y).toNat, none⟩) (Nat.le_refl _) (.bool true)
  have E : (w.alloc (.cells noCells 4)).setCell ⟨w.heap.size, (ix x y).toNat, none⟩ (.bool true) = w.alloc (.cells (noCells.setIfInBounds (ix x y).toNat (.bool true)) 4) := by simp [go_sem]
  rw [E] at g1 l1 b1
  have c1 := PL.one (w.alloc (.cells (noCells.setIfInBounds (ix x y).toNat (.bool true)) 4)) 124 (B := w.heap.size) (by simp) x y
  rw [← pairI_ix hon] at c1
  have g2 := g1.alloc (.cells #[.int .i64 x, .int .i64 y] 124)
  have l2 := l1.alloc (.cells #[.int .i64 x, .int .i64 y] 124)
  have b2 := b1.alloc (by simp) (.cells #[.int .i64 x, .int .i64 y] 124)
  have ez : (w.alloc (.cells (noCells.setIfInBounds (ix x y).toNat (.bool true)) 4)).heap.size = w.heap.size + 1 := by simp
  rw [ez] at c1
  have es : setL [(ix x y).toNat] = updG emptyG (ix x y).toNat true := (setL_snoc [] (ix x y).toNat).trans (by congr)
  rw [← es] at g2
  obtain ⟨s, hs⟩ : ∃ s, s = (ix x y).toNat := ⟨_, rfl⟩
  have hss6 : s < 6400 := by omega
  clear g1 l1 b1 hG es hon
  have hzb := (g0.alloc (.cells #[.int .i64 x, .int .i64 y] 124)).frozen (ix x y).toNat
  have hcb := (g0.alloc (.cells #[.int .i64 x, .int .i64 y] 124)).cell hs6
  go_enter Tryz.func128, Tryz.ntmps128
  go_wp2_with (go_at_call 85; refine (l03At_any x y (by omega) _).mono ?_; rintro e w1 ⟨rfl, rfl⟩)
  clear hmk hz0 hc0 g0 E hzb hcb
  obtain ⟨W0, hW0⟩ : ∃ W0, W0 = (w.alloc (.cells (noCells.setIfInBounds (ix x y).toNat (.bool true)) 4)).alloc (.cells #[.int .i64 x, .int .i64 y] 124) := ⟨_, rfl⟩
  rw [← hW0] at c1 g2 l2 b2 ⊢
  clear hW0
  rw [← hs] at c1 g2
  have Hs := Lib.hid hs
  clear hs
  go_loopw [10, 11] (fun qv iv wr => ∃ (i : Nat) (qs : List Nat), i ≤ qs.length ∧ iv = .int .i64 i ∧ Srch L s qs ∧ Done L qs i ∧ PL wr 124 w.heap.size qv (qs.map pairI) ∧ GB wr w.heap.size 4 (setL qs) ∧ GB wr gv 4 L ∧ Below w.heap.size w wr) (fun _ iv _ => 6400 - (intOf iv).toNat)
  case atStart => exact ⟨0, [s], Nat.zero_le _, rfl, srch_start L hss6, done_zero L _, c1, g2, l2, b2⟩
  case round =>
    obtain ⟨i, qs0, hiq, rfl, hS, hD, hQ, hO, hL, hb⟩ := hrel
    clear c1 g2 l2 b2
    have hlen := srch_len hS
    obtain ⟨A, c, hva, hc, hm, -⟩ := hQ.form
    rw [List.length_map] at hva hc
    subst hva
    have hm' : qs0.length ≤ 9223372036854775807 := by omega
    by_cases hlt : i < qs0.length
    · obtain ⟨j, hj⟩ : ∃ j, qs0[i]? = some j := ⟨_, List.getElem?_eq_getElem hlt⟩
      have H0 := Lib.hid (show Srch L s qs0 ∧ Done L qs0 i ∧ qs0[i]? = some j ∧ Vis L qs0 j ((-1 + 1) * 3) from ⟨hS, hD, hj, vis_zero L qs0 j⟩)
      clear hS hD hj
      go_wp2
      go_loopw [10, 12] (fun qv av wr => ∃ (a : Int) (qs : List Nat), -1 ≤ a ∧ a ≤ 2 ∧ av = .int .i64 a ∧ Hid (Srch L s qs ∧ Done L qs i ∧ qs[i]? = some j ∧ Vis L qs j ((a + 1) * 3)) ∧ PL wr 124 w.heap.size qv (qs.map pairI) ∧ GB wr w.heap.size 4 (setL qs) ∧ GB wr gv 4 L ∧ Below w.heap.size w wr) (fun _ av _ => (2 - intOf av).toNat)
      case atStart => exact ⟨-1, qs0, by omega, by omega, rfl, H0, hQ, hO, hL, hb⟩
      case round =>
        obtain ⟨a, qs1, ha1, ha2, rfl, H1, hQ1, hO1, hL1, hb1⟩ := hrel
        clear H0 hQ hO hL hb
        by_cases hlta : a < 2
        · have hdA : decide (a ≤ 1) = true := decide_eq_true (by omega)
          go_wp2
          try rw [hdA]
          clear hdA
          go_loopw [10, 13] (fun qv bv wr => ∃ (b : Int) (qs : List Nat), -1 ≤ b ∧ b ≤ 2 ∧ bv = .int .i64 b ∧ Hid (Srch L s qs ∧ Done L qs i ∧ qs[i]? = some j ∧ Vis L qs j ((a + 1) * 3 + (b + 1))) ∧ PL wr 124 w.heap.size qv (qs.map pairI) ∧ GB wr w.heap.size 4 (setL qs) ∧ GB wr gv 4 L ∧ Below w.heap.size w wr) (fun _ bv _ => (2 - intOf bv).toNat)
          case atStart => exact ⟨-1, qs1, by omega, by omega, rfl, Lib.hid (by have h := H1.out; simpa using h), hQ1, hO1, hL1, hb1⟩
          case round =>
            obtain ⟨b, qs, hb1', hb2', rfl, H2, hQ2, hO2, hL2, hb2⟩ := hrel
            clear H1 hQ1 hO1 hL1 hb1
            by_cases hltb : b < 2
            · obtain ⟨A2, c2, hva2, hc2, hm2, -⟩ := hQ2.form
              rw [List.length_map] at hva2 hc2
              subst hva2
              have hj2 := H2.out.2.2.1
              have hi2 : i < qs.length := (List.getElem?_eq_some_iff.1 hj2).1
              have hjm : (qs.map pairI)[i]? = some (pairI j) := by rw [List.getElem?_map, hj2]; rfl
              obtain ⟨gq, rfl, hgq, f0, f1⟩ := hQ2.elem hjm
              have hj6 : j < 6400 := H2.out.1.on j (List.mem_of_getElem? hj2)
              unfold pairI at f0 f1
              dsimp only at f0 f1
              obtain ⟨xj, hxj⟩ : ∃ n : Int, n = ((j % 80 : Nat) : Int) - 40 := ⟨_, rfl⟩
              obtain ⟨yj, hyj⟩ : ∃ n : Int, n = ((j / 80 : Nat) : Int) - 40 := ⟨_, rfl⟩
              rw [← hxj] at f0
              rw [← hyj] at f1
              have hjr : -40 ≤ xj ∧ xj ≤ 39 ∧ -40 ≤ yj ∧ yj ≤ 39 := by omega
              have hlen2 := srch_len H2.out.1
              have hii : i < 9223372036854775807 := by omega
              have Hx := Lib.hid hxj
              have Hy := Lib.hid hyj
              clear hjm hj2 hxj hyj
              have hwx := Go.IntWalk.i64_in (xj + b) (by omega)
              have hwy := Go.IntWalk.i64_in (yj + a) (by omega)
              have hszr := hb2.size
              have hgs := hO2.lt
              go_upto_region 13 with fail
              go_cut [10, 11, 12, 13, 14] from 37 to 94 (fun sq si sa sb sp wx => sq = .slice (some ⟨gq, 0, none⟩) qs.length c2 ∧ si = .int .i64 i ∧ sa = .int .i64 a ∧ sb = .int .i64 b ∧ (∃ pb : Nat, sp = .pointer (some ⟨pb, 0, none⟩) ∧ w.heap.size < pb ∧ Bk wx pb 124 #[.int .i64 (xj + b), .int .i64 (yj + a)]) ∧ PL wx 124 w.heap.size (.slice (some ⟨gq, 0, none⟩) qs.length c2) (qs.map pairI) ∧ GB wx w.heap.size 4 (setL qs) ∧ GB wx gv 4 L ∧ Below w.heap.size w wx)
              case first =>
                have t1 := fun o => (Below.refl wr.heap.size wr).alloc (Nat.le_refl _) o
                have k1 := fun o => ((t1 o).cell (p := ⟨gq, i * 2, none⟩) hgq).trans f0
                have q1 := fun o => ((t1 o).cell (p := ⟨gq, i * 2 + 1, none⟩) hgq).trans f1
                have fQ : ∀ o, PL (wr.alloc o).drew 124 w.heap.size (.slice (some ⟨gq, 0, none⟩) qs.length c2) (qs.map pairI) := fun o => hQ2.alloc o
                have fO : ∀ o, GB (wr.alloc o).drew w.heap.size 4 (setL qs) := fun o => hO2.alloc o
                have fL : ∀ o, GB (wr.alloc o).drew gv 4 L := fun o => hL2.alloc o
                have fB : ∀ o, Below w.heap.size w (wr.alloc o).drew := fun o => (hb2.trans ((t1 o).mono hszr)).drew
                have p0 : Bk (wr.alloc (.cells #[.int .i64 (xj + b), .int .i64 (yj + a)] 124)).drew wr.heap.size 124 #[.int .i64 (xj + b), .int .i64 (yj + a)] := Bk.new wr 124 _
                have FQ := Lib.hid fQ
                have FO := Lib.hid fO
                have FL := Lib.hid fL
                have FB := Lib.hid fB
                have P0 := Lib.hid p0
                have hn0 : w.heap.size < wr.heap.size := hgs
                clear t1 fQ fO fL fB p0 hQ2 hO2 hL2 hb2 hgs
                go_region
                all_goals
                  go_wp2_with fail
                  go_meet
                  exact ⟨rfl, rfl, rfl, rfl, ⟨_, rfl, hn0, P0.out⟩, FQ.out _, FO.out _, FL.out _, FB.out _⟩
              case rest =>
                obtain ⟨rfl, rfl, rfl, rfl, ⟨pb, rfl, hpb, hP⟩, hQ3, hO3, hL3, hb3⟩ := hcut
                have hX0 : xj + b = ((j % 80 : Nat) : Int) - 40 + b := by rw [Hx.out]
                have hY0 : yj + a = ((j / 80 : Nat) : Int) - 40 + a := by rw [Hy.out]
                have hXb : -1000 ≤ xj + b ∧ xj + b ≤ 1000 ∧ -1000 ≤ yj + a ∧ yj + a ≤ 1000 := by omega
                generalize xj + b = X at *
                generalize yj + a = Y at *
                have HX := Lib.hid hX0
                have HY := Lib.hid hY0
                have hgs3 := hO3.lt
                obtain ⟨c0, c1⟩ := box2 hP
                clear hX0 hY0 hQ2 hO2 hL2 hb2 f0 f1 hwx hwy
                have HV := Lib.hid (fun ho => vis_has H2.out.2.2.2 ⟨ha1, by omega⟩ ⟨hb1', by omega⟩ HX.out HY.out ho)
                have hKeep := Lib.hid (show Srch L s qs ∧ Done L qs i ∧ qs[i]? = some j from ⟨H2.out.1, H2.out.2.1, H2.out.2.2.1⟩)
                by_cases hd : b ≠ 0 ∧ a ≠ 0
                · have H3 := Lib.hid (show Srch L s qs ∧ Done L qs i ∧ qs[i]? = some j ∧ Vis L qs j ((a + 1) * 3 + (b + 1 + 1)) from ⟨hKeep.out.1, hKeep.out.2.1, hKeep.out.2.2, HV.out (.inl hd)⟩)
                  obtain ⟨hd1, hd2⟩ := hd
                  clear H2 HV hKeep
                  go_wp2
                  exact ⟨⟨b + 1, qs, by omega, by omega, by go_num, H3, hQ3, hO3, hL3, hb3⟩, by simp [intOf]; omega⟩
                · have hz : b = 0 ∨ (b ≠ 0 ∧ a = 0) := by omega
                  have hz' : b = 0 ∨ a = 0 := by omega
                  have hl := Lib.hid (l03Has_any (.slice (some ⟨gv, 0, none⟩) 6400 cv) L X Y wc ⟨gv, cv, rfl, Nat.zero_le _, hL3⟩)
                  by_cases hin : hasG L X Y = true
                  · have hc4 := hasG_in hin
                    have hon4 : onC X Y = true := (onC_iff X Y).2 hc4
                    have hi4 : 0 ≤ ix X Y ∧ ix X Y < 6400 := by unfold ix; omega
                    have hLm : L (ix X Y).toNat = true := (hasG_on hon4).symm.trans hin
                    have cs := hO3.ix_ hon4
                    by_cases hse : setL qs (ix X Y).toNat = true
                    · rw [hse] at cs
                      have H4 := Lib.hid (show Srch L s qs ∧ Done L qs i ∧ qs[i]? = some j ∧ Vis L qs j ((a + 1) * 3 + (b + 1 + 1)) from ⟨hKeep.out.1, hKeep.out.2.1, hKeep.out.2.2, HV.out (.inr (.inr ((setL_iff qs _).1 hse)))⟩)
                      rw [hin] at hl
                      clear hin hon4 hLm hse H2 HV hKeep hz'
                      rcases hz with rfl | ⟨hz1, rfl⟩
                      all_goals
                        go_wp2_with fail
                        refine hl.out.mono ?_
                        rintro e w5 ⟨rfl, rfl⟩
                        go_wp2_with (go_at_call 85; refine (l03At_any X Y hXb _).mono ?_; rintro e w6 ⟨rfl, rfl⟩)
                        exact ⟨⟨_, qs, by omega, by omega, by go_num, H4, hQ3, hO3, hL3, hb3⟩, by simp [intOf]; try omega⟩
                    · have hse' : setL qs (ix X Y).toNat = false := by simpa using hse
                      rw [hse'] at cs
                      have hjq : j ∈ qs := List.mem_of_getElem? hKeep.out.2.2
                      obtain ⟨hn, hm6⟩ := grid_nbr hjq ⟨ha1, by omega⟩ ⟨hb1', by omega⟩ hz' HX.out HY.out hon4 hse'
                      have H4 := Lib.hid (show Srch L s (qs ++ [(ix X Y).toNat]) ∧ Done L (qs ++ [(ix X Y).toNat]) i ∧ (qs ++ [(ix X Y).toNat])[i]? = some j ∧ Vis L (qs ++ [(ix X Y).toNat]) j ((a + 1) * 3 + (b + 1 + 1)) from
                        ⟨srch_put hKeep.out.1 hjq hn hm6 hLm hse', done_put hKeep.out.2.1 (Nat.le_of_lt hi2) _, by rw [List.getElem?_append_left hi2]; exact hKeep.out.2.2,
                          vis_has (vis_put H2.out.2.2.2 _) ⟨ha1, by omega⟩ ⟨hb1', by omega⟩ HX.out HY.out (.inr (.inr (by simp)))⟩)
                      have hne : some w.heap.size ≠ (Value.slice (some ⟨gq, 0, none⟩) qs.length c2).ownBlock := by obtain ⟨cs, hk, _⟩ := hO3; exact hk.apart' hQ3 (by decide)
                      have hzO := hO3.frozen (ix X Y).toNat
                      have hst := hO3.store hm6 true
                      rw [← setL_snoc] at hst
                      have hQ4 := hQ3.other (p := ⟨w.heap.size, (ix X Y).toNat, none⟩) hne (.bool true)
                      have hL4 := hL3.other (p := ⟨w.heap.size, (ix X Y).toNat, none⟩) (show gv ≠ w.heap.size by omega) (.bool true)
                      have hb4 := hb3.setCell (p := ⟨w.heap.size, (ix X Y).toNat, none⟩) (Nat.le_refl _) (.bool true)
                      have hsz := hb4.size
                      have Hs3 := Lib.hid (show (wc.setCell ⟨w.heap.size, (ix X Y).toNat, none⟩ (.bool true)).heap.size = wc.heap.size by simp)
                      have Hm := Lib.hid (show (qs ++ [(ix X Y).toNat]).map pairI = qs.map pairI ++ [(X, Y)] by rw [List.map_append, List.map_cons, List.map_nil, pairI_ix hon4])
                      have hlq : (qs.map pairI).length ≤ 1000000 := by rw [List.length_map]; omega
                      obtain ⟨p0, p1⟩ := box2 (hP.other (p := ⟨w.heap.size, (ix X Y).toNat, none⟩) (show pb ≠ w.heap.size by omega) (.bool true))
                      rw [hin] at hl
                      clear hin hon4 hLm hse hse' H2 HV hKeep hn hjq hO3 hQ3 hL3 hb3 hP hz'
                      rcases hz with rfl | ⟨hz1, rfl⟩
                      all_goals
                        go_wp2_with fail
                        refine hl.out.mono ?_
                        rintro e w5 ⟨rfl, rfl⟩
                        go_wp2_with (first | (go_at_call 85; refine (l03At_any X Y hXb _).mono ?_; rintro e w6 ⟨rfl, rfl⟩)
                                           | (at_builtin; refine wpList_append_P rfl (.tmp 91) (.tmp 93) rfl w.heap.size _ (qs.map pairI) rfl hQ4 X Y (by rw [Hs3.out]; rfl) hlq hsz ?_; intro v' w' k1 k2 k3 k4))
                        rw [← Hm.out] at k1
                        exact ⟨⟨_, qs ++ [(ix X Y).toNat], by omega, by omega, by go_num, H4, k1, hst.grown k2 hne, hL4.keptQ hQ4 (by decide) k2, hb4.trans k3⟩, by simp [intOf]; try omega⟩
                  · have hin' : hasG L X Y = false := by simpa using hin
                    have H4 := Lib.hid (show Srch L s qs ∧ Done L qs i ∧ qs[i]? = some j ∧ Vis L qs j ((a + 1) * 3 + (b + 1 + 1)) from ⟨hKeep.out.1, hKeep.out.2.1, hKeep.out.2.2, HV.out (.inr (.inl hin'))⟩)
                    rw [hin'] at hl
                    clear hin hin' H2 HV hKeep hz'
                    rcases hz with rfl | ⟨hz1, rfl⟩
                    all_goals
                      go_wp2_with fail
                      refine hl.out.mono ?_
                      rintro e w5 ⟨rfl, rfl⟩
                      go_wp2
                      exact ⟨⟨_, qs, by omega, by omega, by go_num, H4, hQ3, hO3, hL3, hb3⟩, by simp [intOf]; try omega⟩
            · have e : (a + 1) * 3 + (b + 1) = (a + 1 + 1) * 3 := by omega
              rw [e] at H2
              go_wp2
              exact ⟨⟨a + 1, qs, by omega, by omega, rfl, H2, hQ2, hO2, hL2, hb2⟩, by simp [intOf]; omega⟩
        · have ha : a = 2 := by omega
          subst ha
          obtain ⟨h1, h2, h3, h4⟩ := H1.out
          have hd := Lib.hid (done_step h2 h3 (vis_nine h4))
          have hs1 := Lib.hid h1
          have hi1 : i + 1 ≤ qs1.length := (List.getElem?_eq_some_iff.1 h3).1
          have hl6 := srch_len h1
          clear h1 h2 h3 h4 H1
          go_wp2
          exact ⟨⟨i + 1, qs1, hi1, by go_num, hs1.out, hd.out, hQ1, hO1, hL1, hb1⟩, by simp [intOf]; omega⟩
    · have hie : i = qs0.length := by omega
      have hfin : setL qs0 = compG L s := srch_end hS (hie ▸ hD)
      rw [hfin, Hs.out] at hO
      clear hS hD
      go_wp2
      go_ret
      exact ⟨_, rfl, ⟨_, _, rfl, Nat.le_refl _, hO⟩, hb⟩

end Go.Proofs.YtemeegpmdhgocaaGreat

namespace Go.Proofs.YtemeegpmdhgocaaGreat
open Go.RowKit

/-- Is the pair a valid violation? -/
noncomputable def vioV (k : Int) (rs : List Rc) : Bool := inB 0 k 11 && connV rs

set_option maxHeartbeats 800000 in
theorem vio_impl (k : Int) (v : Value) (rs : List Rc) (w : World) (hv : RL w 0 v rs) : Calls Tryz.prog 32 #[.agg #[.int .i64 k, v]] w fun e w' => e = .returned (.bool (vioV k rs)) ∧ Below w.heap.size w w' := by
  have hv1 := RL.alloc hv (.cells #[.int .i64 k, v] 43)
  have hb0 := (Below.refl w.heap.size w).alloc (Nat.le_refl _) (.cells #[.int .i64 k, v] 43)
  obtain ⟨A, c, rfl, hc, hm, -⟩ := hv.form
  clear hv
  unfold vioV
  cases h : inB 0 k 11 with
  | true =>
    rw [Bool.true_and]
    go_enter Tryz.func32, Tryz.ntmps32
    go_wp2_with (go_at_call 61; refine (within_any _ _ _ _).mono ?_; rintro e w1 ⟨rfl, rfl⟩; rw [h])
    refine (conn_impl _ rs _ hv1).mono ?_
    rintro e w2 ⟨rfl, hb2⟩
    go_wp2
    go_ret
    exact ⟨rfl, hb0.trans (hb2.mono hb0.size)⟩
  | false =>
    rw [Bool.false_and]
    go_enter Tryz.func32, Tryz.ntmps32
    go_wp2_with (go_at_call 61; refine (within_any _ _ _ _).mono ?_; rintro e w1 ⟨rfl, rfl⟩; rw [h])
    go_ret
    exact ⟨rfl, hb0⟩

end Go.Proofs.YtemeegpmdhgocaaGreat

namespace Go.Proofs.YtemeegpmdhgocaaGreat
open Go.RowKit

theorem parts_start (G : Gr) : comps G = [] ++ compsF (minusG G emptyG) (ix (-40) (-40)).toNat := by
  have e : (ix (-40) (-40)).toNat = 0 := by unfold ix; omega
  rw [e, minus_empty, List.nil_append, comps]

set_option maxHeartbeats 12800000 in
set_option maxRecDepth 100000 in
/-- l07Parts, over sides. -/
theorem parts7_any (v : Value) (G : Gr) (w : World) (hGS : GS w 0 v G) :
    Calls Tryz.prog 122 #[v, .bool false] w fun e w' => ∃ u, e = .returned u ∧ GSL w' w.heap.size u (comps G) ∧ Below w.heap.size w w' := by
  obtain ⟨gv, cv, rfl, -, hG⟩ := hGS
  have hg := hG.lt
  have hmk := run_make_6400
  have e1 : (w.alloc (.cells #[] 83)).heap.size = w.heap.size + 1 := by simp
  have g0 := GB.made (w.alloc (.cells #[] 83)) 4
  rw [e1] at g0
  have o0 := GSM.alloc (GSM.lit0 w (B := w.heap.size) (N := w.heap.size) (M := w.heap.size) (Nat.le_refl _)) (.cells noCells 4)
  have G0 := (hG.alloc (.cells #[] 83)).alloc (.cells noCells 4)
  have b0 := ((Below.refl w.heap.size w).alloc (Nat.le_refl _) (.cells #[] 83)).alloc (by simp) (.cells noCells 4)
  have d0 : GS ((w.alloc (.cells #[] 83)).alloc (.cells noCells 4)) w.heap.size (.slice (some ⟨w.heap.size + 1, 0, none⟩) 6400 6400) emptyG := ⟨_, _, rfl, Nat.le_succ _, g0⟩
  have Hc0 := Lib.hid (show comps G = [] ++ compsF (minusG G emptyG) (ix (-40) (-40)).toNat ∧ Whole G emptyG from ⟨parts_start G, whole_empty G⟩)
  have hCl := comps_length G
  have hsz0 : w.heap.size ≤ ((w.alloc (.cells #[] 83)).alloc (.cells noCells 4)).heap.size := by simp; omega
  have o1 := o0.more hsz0
  clear hG g0 o0 e1 hsz0
  go_enter Tryz.func122, Tryz.ntmps122
  go_wp2
  clear hmk
  go_loopw [5, 6, 7] (fun ov dv yv wr => ∃ (y : Int) (D : Gr) (found : List Gr), -40 ≤ y ∧ y ≤ 40 ∧ yv = .int .i64 y ∧ Hid (comps G = found ++ compsF (minusG G D) (ix (-40) y).toNat ∧ Whole G D) ∧ GSM wr w.heap.size w.heap.size wr.heap.size ov found ∧ GS wr w.heap.size dv D ∧ GB wr gv 4 G ∧ Below w.heap.size w wr) (fun _ _ yv _ => (40 - intOf yv).toNat)
  case atStart => exact ⟨-40, emptyG, [], by omega, by omega, rfl, Hc0, o1, d0, G0, b0⟩
  case round =>
    obtain ⟨y, D0, found0, hy1, hy2, rfl, HC0, hO0, hD0, hG0, hb0⟩ := hrel
    clear o1 d0 G0 b0 Hc0
    by_cases hlty : y < 40
    · go_wp2
      go_loopw [5, 6, 8] (fun ov dv xv wr => ∃ (x : Int) (D : Gr) (found : List Gr), -40 ≤ x ∧ x ≤ 40 ∧ xv = .int .i64 x ∧ Hid (comps G = found ++ compsF (minusG G D) (ix x y).toNat ∧ Whole G D) ∧ GSM wr w.heap.size w.heap.size wr.heap.size ov found ∧ GS wr w.heap.size dv D ∧ GB wr gv 4 G ∧ Below w.heap.size w wr) (fun _ _ xv _ => (40 - intOf xv).toNat)
      case atStart => exact ⟨-40, D0, found0, by omega, by omega, rfl, HC0, hO0, hD0, hG0, hb0⟩
      case round =>
        obtain ⟨x, D, found, hx1, hx2, rfl, HC, hO, hD, hG, hb⟩ := hrel
        clear hO0 hD0 hG0 hb0 HC0
        by_cases hltx : x < 40
        · have hon : onC x y = true := (onC_iff x y).2 (by omega)
          have hi6 := (ix_nat hon).2
          rw [← (ix_nat hon).1] at hi6
          have hi4 : 0 ≤ ix x y ∧ ix x y < 6400 := by unfold ix; omega
          have Hnx := Lib.hid (show (ix (x + 1) y).toNat = (ix x y).toNat + 1 by unfold ix; omega)
          obtain ⟨db, dc, rfl, hdb, hDB⟩ := hD
          have cs := hG.ix_ hon
          have cd := hDB.ix_ hon
          have Hon := Lib.hid hon
          clear hon
          by_cases hin : G (ix x y).toNat = true
          · by_cases hdn : D (ix x y).toNat = true
            · rw [hin] at cs
              rw [hdn] at cd
              have HC2 := Lib.hid (show comps G = found ++ compsF (minusG G D) (ix (x + 1) y).toNat ∧ Whole G D from ⟨by rw [Hnx.out]; exact HC.out.1.trans (congrArg _ (parts_no hi6 (.inr hdn))), HC.out.2⟩)
              clear hin hdn HC
              go_wp2_with (go_at_call 85; refine (l03At_any x y (by omega) _).mono ?_; rintro e w4 ⟨rfl, rfl⟩)
              exact ⟨⟨x + 1, D, found, by omega, by omega, by go_num, HC2, hO, ⟨db, dc, rfl, hdb, hDB⟩, hG, hb⟩, by simp [intOf]; omega⟩
            · have hdn' : D (ix x y).toNat = false := by simpa using hdn
              rw [hin] at cs
              rw [hdn'] at cd
              have HC2 := Lib.hid (show comps G = (found ++ [compG G (ix x y).toNat]) ++ compsF (minusG G (unionG D (compG G (ix x y).toNat))) (ix (x + 1) y).toNat ∧ Whole G (unionG D (compG G (ix x y).toNat)) from
                ⟨by rw [Hnx.out, List.append_assoc]; exact HC.out.1.trans (congrArg _ (parts_yes HC.out.2 hi6 hin hdn')), whole_put HC.out.2⟩)
              clear hin hdn hdn' HC
              obtain ⟨Ao, co, hvo, -, -⟩ := hO.form
              subst hvo
              go_upto_region 10 with (go_at_call 85; refine (l03At_any x y (by omega) _).mono ?_; rintro e w4 ⟨rfl, rfl⟩)
              clear cs cd
              go_wp2_with fail
              refine (flood7_any gv cv G x y _ hG Hon.out).mono ?_
              rintro e w5 ⟨z, rfl, hZ, hb5⟩
              generalize compG G (ix x y).toNat = P at *
              obtain ⟨gz, cz, rfl, hgz, hZB⟩ := hZ
              replace hO := (hO.on hb5).more hb5.size
              replace hDB := hDB.on hb5
              replace hG := hG.on hb5
              have hzl := hZB.lt
              have hgz' : w.heap.size ≤ gz := by have := hb.size; omega
              replace hb := hb.trans (hb5.mono hb.size)
              clear hb5
              go_wp2_with fail
              refine (combine_any (.slice (some ⟨db, 0, none⟩) 6400 dc) (.slice (some ⟨gz, 0, none⟩) 6400 cz) 14 (.inl rfl) D P _ ⟨_, _, rfl, Nat.zero_le _, hDB⟩ ⟨_, _, rfl, Nat.zero_le _, hZB⟩).mono ?_
              rintro e w6 ⟨z6, rfl, hZ6, hb6⟩
              rw [tab14] at hZ6
              obtain ⟨g6, c6, rfl, hg6, hZB6⟩ := hZ6
              replace hO := (hO.on hb6).more (M' := w5.heap.size) (Nat.le_refl _)
              replace hZB := hZB.on hb6
              replace hG := hG.on hb6
              have hszb := hb.size
              replace hb := hb.trans (hb6.mono hb.size)
              have hbz := hb.size
              have hz65 := hb6.size
              have hdl : found.length ≤ 6400 := by have := congrArg List.length HC2.out.1; simp only [List.length_append, List.length_cons] at this; omega
              clear hb6 hDB
              go_wp2_with (at_builtin; refine wpList_append_GSM rfl (.tmp 45) (.tmp 47) rfl w.heap.size w.heap.size w5.heap.size _ found rfl hO gz cz P hgz' hzl hZB rfl (by omega) hbz ?_; intro v' w' k1 k2 k3)
              exact ⟨⟨x + 1, _, _, by omega, by omega, by go_num, HC2, k1.more (by have := k3.size; omega), ⟨g6, c6, rfl, by omega, k2 _ _ hZB6⟩, k2 _ _ hG, hb.trans k3⟩, by simp [intOf]; omega⟩
          · have hin' : G (ix x y).toNat = false := by simpa using hin
            rw [hin'] at cs
            have HC2 := Lib.hid (show comps G = found ++ compsF (minusG G D) (ix (x + 1) y).toNat ∧ Whole G D from ⟨by rw [Hnx.out]; exact HC.out.1.trans (congrArg _ (parts_no hi6 (.inl hin'))), HC.out.2⟩)
            clear hin hin' HC
            go_wp2_with (go_at_call 85; refine (l03At_any x y (by omega) _).mono ?_; rintro e w4 ⟨rfl, rfl⟩)
            exact ⟨⟨x + 1, D, found, by omega, by omega, by go_num, HC2, hO, ⟨db, dc, rfl, hdb, hDB⟩, hG, hb⟩, by simp [intOf]; omega⟩
        · have hxe : x = 40 := by omega
          subst hxe
          have e : (ix 40 y).toNat = (ix (-40) (y + 1)).toNat := by unfold ix; omega
          have HC2 := Lib.hid (show comps G = found ++ compsF (minusG G D) (ix (-40) (y + 1)).toNat ∧ Whole G D from by rw [← e]; exact HC.out)
          clear e HC
          go_wp2
          exact ⟨⟨y + 1, D, found, by omega, by omega, by go_num, HC2, hO, hD, hG, hb⟩, by simp [intOf]; omega⟩
    · have hye : y = 40 := by omega
      subst hye
      have hfin : comps G = found0 := by rw [HC0.out.1, compsF_end (by unfold ix; omega), List.append_nil]
      go_wp2
      go_ret
      exact ⟨_, rfl, hfin ▸ hO0.list (Nat.le_refl _), hb0⟩

/-- A list of sets is kept by an append to a list of lists of rectangles. -/
theorem GSL.keptL {w w' : World} {B B2 : Nat} {v v2 : Value} {Gs : List Gr} {rss : List (List Rc)} (h : GSL w B v Gs) (ho : RLL w B2 v2 rss) (hg : w.grownBy w' v2.ownBlock) : GSL w' B v Gs := by
  obtain ⟨vs, h1, h2, h3⟩ := h
  obtain ⟨us, k1, _, _⟩ := ho
  exact ⟨vs, World.ownsRow.kept h1 hg (own_apart h1 k1 (by decide)), h2, fun k u G hu hG => (h3 k u G hu hG).kept k1 (by decide) hg⟩

set_option maxHeartbeats 1600000 in
set_option maxRecDepth 100000 in
/-- l07Components. -/
theorem comps7_any (v : Value) (rs : List Rc) (w : World) (hv : RL w 0 v rs) (hok : okAll rs = true) :
    Calls Tryz.prog 113 #[v] w fun e w' => ∃ u, e = .returned u ∧ RLL w' w.heap.size u ((comps (cellsG rs)).map canon) ∧ Below w.heap.size w w' := by
  have o0 := RLL.lit0 w (B := w.heap.size) (Nat.le_refl _)
  have b0 := (Below.refl w.heap.size w).alloc (Nat.le_refl _) (.cells #[] 41)
  have hv0 := RL.alloc hv (.cells #[] 41)
  clear hv
  go_enter Tryz.func113, Tryz.ntmps113
  go_wp2_with fail
  refine (l03Bits_any v rs _ hv0 hok).mono ?_
  rintro e w1 ⟨z, rfl, hG, hb1⟩
  have o1 := o0.on hb1
  have b1 := b0.trans (hb1.mono b0.size)
  generalize hG' : cellsG rs = G at *
  have HG := Lib.hid hG'
  clear hv0 o0 b0 hb1 hG'
  go_wp2_with fail
  refine (parts7_any z G _ (GS.less hG (Nat.zero_le _))).mono ?_
  rintro e w2 ⟨u, rfl, hU, hb2⟩
  have o2 := o1.on hb2
  have b2 := b1.trans (hb2.mono b1.size)
  replace hU := hU.less (Nat.zero_le _)
  clear hG o1 b1 hb2
  obtain ⟨A, c, rfl, hc, hm⟩ := hU.form
  have hlen := comps_length G
  have hm' : (comps G).length ≤ 9223372036854775807 := by omega
  generalize hGs : comps G = Gs at *
  have HGs := Lib.hid hGs
  clear hGs
  go_wp2
  go_loopw [3, 5] (fun ov iv wr => ∃ k : Nat, k ≤ Gs.length ∧ iv = .int .i64 k ∧ RLL wr w.heap.size ov ((Gs.map canon).take k) ∧ GSL wr 0 (.slice A Gs.length c) Gs ∧ Below w.heap.size w wr) (fun _ iv _ => Gs.length - (intOf iv).toNat)
  case atStart => exact ⟨0, Nat.zero_le _, rfl, o2, hU, b2⟩
  case round =>
    obtain ⟨k, hk, rfl, hO, hU, hb⟩ := hrel
    clear o2 b2
    by_cases hlt : k < Gs.length
    · obtain ⟨g, u, P, rfl, hP, hg, f0, hGu⟩ := hU.elem (k := k) hlt
      obtain ⟨Ao, co, hvo, -, -⟩ := hO.form
      have Hlo := Lib.hid (show ((Gs.map canon).take k).length ≤ 1000000 by rw [List.length_take, List.length_map]; omega)
      rw [List.length_take, List.length_map, Nat.min_eq_left hk] at hvo
      subst hvo
      have Hst := Lib.hid (show (Gs.map canon).take (k + 1) = (Gs.map canon).take k ++ [canon P] by rw [List.take_add_one, List.getElem?_map, hP]; rfl)
      have hk9 : k < 9223372036854775807 := by omega
      clear hP
      go_wp2_with fail
      refine (l03Canon_any u P _ (GS.less hGu (Nat.zero_le _))).mono ?_
      rintro e w3 ⟨z3, rfl, hR3, hb3⟩
      replace hO := hO.on hb3
      replace hU := hU.on hb3
      have hR3' := hR3.less hb.size
      replace hb := hb.trans (hb3.mono hb.size)
      have hs := hb.size
      clear hb3 hR3 hGu f0
      obtain ⟨A3, c3, rfl, -, -, -⟩ := hR3'.form
      go_wp2_with (at_builtin; refine wpList_append_RLL rfl (.tmp 16) (.tmp 22) rfl w.heap.size _ ((Gs.map canon).take k) rfl hO _ (canon P) hR3' rfl Hlo.out hs ?_; intro v' w' k1 k2 k3)
      rw [← Hst.out] at k1
      exact ⟨⟨k + 1, by omega, by go_num, k1, hU.keptL hO k2, hb.trans k3⟩, by simp [intOf]; omega⟩
    · have hke : k = Gs.length := by omega
      subst hke
      rw [List.take_of_length_le (by rw [List.length_map]; exact Nat.le_refl _)] at hO
      go_wp2
      go_ret
      refine ⟨_, rfl, ?_, hb⟩
      rw [HG.out, HGs.out]
      exact hO

/-- ComponentCount. -/
theorem count_spec (v : Value) (rs : List Rc) (w : World) (hv : RL w 0 v rs) (h : isReg rs = true) : Calls Tryz.prog 84 #[v] w fun e w' => e = .returned (.int .i64 ((comps (cellsG rs)).length : Nat)) ∧ Below w.heap.size w w' := by
  have hok := okAll_reg h
  have Hlen := Lib.hid (comps_length (cellsG rs))
  go_enter Tryz.func84, Tryz.ntmps84
  go_wp2_with fail
  refine (l03Ok_any v rs _ hv).mono ?_
  rintro e w1 ⟨rfl, hb1⟩
  rw [h]
  go_wp2_with fail
  refine (comps7_any v rs _ (hv.on hb1) hok).mono ?_
  rintro e w2 ⟨u, rfl, hU, hb2⟩
  replace hb2 := hb1.trans (hb2.mono hb1.size)
  obtain ⟨A, c, hua, hc, hm⟩ := hU.form
  rw [List.length_map] at hua hc
  subst hua
  have hm' : (comps (cellsG rs)).length ≤ 9223372036854775807 := by have := Hlen.out; omega
  clear hv hb1 hU
  go_wp2
  go_ret
  exact ⟨rfl, hb2⟩
theorem count_spec_no (v : Value) (rs : List Rc) (w : World) (hv : RL w 0 v rs) (h : isReg rs = false) : Calls Tryz.prog 84 #[v] w fun e w' => e = .returned (.int .i64 (-1)) ∧ Below w.heap.size w w' := by
  go_enter Tryz.func84, Tryz.ntmps84
  go_wp2_with fail
  refine (l03Ok_any v rs _ hv).mono ?_
  rintro e w1 ⟨rfl, hb1⟩
  rw [h]
  go_wp2
  go_ret
  exact ⟨rfl, hb1⟩

/-- IsConnected of the reference. -/
theorem conn_spec (v : Value) (rs : List Rc) (w : World) (hv : RL w 0 v rs) : Calls Tryz.prog 49 #[v] w fun e w' => e = .returned (.bool (connV rs)) ∧ Below w.heap.size w w' := by
  cases h : isReg rs with
  | true =>
    by_cases h1 : (comps (cellsG rs)).length = 1
    · have hz : (((comps (cellsG rs)).length : Nat) : Int) = 1 := by omega
      have e0 : connV rs = true := by unfold connV; rw [h, h1]; rfl
      rw [e0]
      clear e0
      go_enter Tryz.func49, Tryz.ntmps49
      go_wp2_with fail
      refine (count_spec v rs _ hv h).mono ?_
      rintro e w1 ⟨rfl, hb1⟩
      clear h hv h1
      go_wp2
      go_ret
      exact ⟨ret_bool (by simp), hb1⟩
    · have hz : ¬ (((comps (cellsG rs)).length : Nat) : Int) = 1 := by omega
      have e0 : connV rs = false := by unfold connV; rw [h]; simpa using h1
      rw [e0]
      clear e0
      go_enter Tryz.func49, Tryz.ntmps49
      go_wp2_with fail
      refine (count_spec v rs _ hv h).mono ?_
      rintro e w1 ⟨rfl, hb1⟩
      clear h hv h1
      go_wp2
      go_ret
      exact ⟨ret_bool (by simp [hz]), hb1⟩
  | false =>
    have e0 : connV rs = false := by unfold connV; rw [h]; rfl
    rw [e0]
    go_enter Tryz.func49, Tryz.ntmps49
    go_wp2_with fail
    refine (count_spec_no v rs _ hv h).mono ?_
    rintro e w1 ⟨rfl, hb1⟩
    go_wp2
    go_ret
    exact ⟨rfl, hb1⟩

set_option maxHeartbeats 800000 in
/-- IsValidViolation of the reference. -/
theorem vio_spec (k : Int) (v : Value) (rs : List Rc) (w : World) (hv : RL w 0 v rs) : Calls Tryz.prog 25 #[.agg #[.int .i64 k, v]] w fun e w' => e = .returned (.bool (vioV k rs)) ∧ Below w.heap.size w w' := by
  have hv1 := RL.alloc hv (.cells #[.int .i64 k, v] 43)
  have hb0 := (Below.refl w.heap.size w).alloc (Nat.le_refl _) (.cells #[.int .i64 k, v] 43)
  obtain ⟨A, c, rfl, hc, hm, -⟩ := hv.form
  clear hv
  unfold vioV
  cases h : inB 0 k 11 with
  | true =>
    rw [Bool.true_and]
    go_enter Tryz.func25, Tryz.ntmps25
    go_wp2_with (go_at_call 48; refine (l01In_any _ _ _ _).mono ?_; rintro e w1 ⟨rfl, rfl⟩; rw [h])
    refine (conn_spec _ rs _ hv1).mono ?_
    rintro e w2 ⟨rfl, hb2⟩
    go_wp2
    go_ret
    exact ⟨rfl, hb0.trans (hb2.mono hb0.size)⟩
  | false =>
    rw [Bool.false_and]
    go_enter Tryz.func25, Tryz.ntmps25
    go_wp2_with (go_at_call 48; refine (l01In_any _ _ _ _).mono ?_; rintro e w1 ⟨rfl, rfl⟩; rw [h])
    go_ret
    exact ⟨rfl, hb0⟩

end Go.Proofs.YtemeegpmdhgocaaGreat

namespace Go.Proofs.YtemeegpmdhgocaaGreat
open Go.RowKit

theorem comps_empty : ∀ n i : Nat, 6400 - i ≤ n → compsF emptyG i = []
  | 0, i, h => compsF_end (by omega)
  | n + 1, i, h => by
    by_cases hi : i < 6400
    · rw [compsF_no hi rfl, comps_empty n (i + 1) (by omega)]
    · exact compsF_end (by omega)
theorem conn_ne {rs : List Rc} (h : connV rs = true) : rs ≠ [] := by
  rintro rfl
  unfold connV at h
  rw [cellsG_nil, comps, comps_empty 6400 0 (by omega)] at h
  simp at h
theorem conn_reg {rs : List Rc} (h : connV rs = true) : isReg rs = true := by
  unfold connV at h
  rw [Bool.and_eq_true] at h
  exact h.1
theorem vio_conn {k : Int} {rs : List Rc} (h : vioV k rs = true) : connV rs = true := by
  unfold vioV at h
  rw [Bool.and_eq_true] at h
  exact h.2

def spanR (a r : Rc) : Rc := ⟨min a.x0 r.x0, min a.y0 r.y0, max a.x1 r.x1, max a.y1 r.y1⟩
def boxT (rs : List Rc) (k : Nat) : Rc := (rs.take k).foldl spanR (rs.headD ⟨0, 0, 0, 0⟩)
def boxR (rs : List Rc) : Rc := boxT rs rs.length
theorem boxT_step {rs : List Rc} {k : Nat} {r : Rc} (h : rs[k]? = some r) : boxT rs (k + 1) = spanR (boxT rs k) r := by
  unfold boxT
  rw [List.take_add_one, h, Option.toList, List.foldl_append]
  rfl
theorem boxT_zero (rs : List Rc) : boxT rs 0 = rs.headD ⟨0, 0, 0, 0⟩ := rfl
theorem boxT_one {rs : List Rc} {r : Rc} (h : rs[0]? = some r) : boxT rs 1 = r := by
  obtain ⟨x0, y0, x1, y1⟩ := r
  match rs, h with
  | a :: l, h =>
    simp at h
    subst h
    simp [boxT, spanR]
theorem headD_get {rs : List Rc} {r : Rc} (h : rs[0]? = some r) : rs.headD ⟨0, 0, 0, 0⟩ = r := by
  match rs, h with
  | a :: l, h => simpa using h

noncomputable def vbR (k : Int) (rs : List Rc) : Rc := if vioV k rs = true then boxR rs else ⟨0, 0, 0, 0⟩
theorem vbR_yes {k : Int} {rs : List Rc} (h : vioV k rs = true) : vbR k rs = boxR rs := if_pos h
theorem vbR_no {k : Int} {rs : List Rc} (h : vioV k rs = false) : vbR k rs = ⟨0, 0, 0, 0⟩ := if_neg (by rw [h]; simp)

end Go.Proofs.YtemeegpmdhgocaaGreat
