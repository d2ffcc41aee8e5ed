/- Contract: the program's flood (over sides). No conditions. Contracts: the program's unionAll, RectsOverlap, meet. No conditions of unionAll; of meet: valid rectangles. -/
import Derived.Test.YtjiljodchebniaaGreatQ24
import Derived.Test.YtjiljodchebniaaGreatQ06
import Derived.Test.YtjiljodchebniaaGreatQ02
import Derived.Deep.CutRange
import Derived.Test.YtjiljodchebniaaGreatQ11
import Derived.Test.YtjiljodchebniaaGreatQ05
import Derived.Test.YtjiljodchebniaaGreatQ03

namespace Go.Proofs.YtjiljodchebniaaGreat
open Go.RowKit

def pairC (j : Nat) : Int × Int := (((j % 80 : Nat) : Int), ((j / 80 : Nat) : Int))

theorem GB.keptO {w w' : World} {g : Nat} {t e : TypeId} {G : Gr} {B s n : Nat} {v : Value} {xs : List Value} (h : GB w g t G) (ho : w.ownsRow B e s v n xs) (hne : t ≠ e) (hg : w.grownBy w' v.ownBlock) : GB w' g t G := by
  obtain ⟨cs, hb, hr⟩ := h
  exact ⟨cs, hb.grown hg (hb.apart' ho hne), hr⟩

set_option maxHeartbeats 6400000 in
set_option maxRecDepth 100000 in
/-- flood, over sides. -/
theorem flood_any (g : Nat) (L : Gr) (x y : Nat) (hx : x < 80) (hy : y < 80) (w : World) (hG : GB w g 89 L) :
    Calls Tryz.prog 106 #[.pointer (some ⟨g, 0, none⟩), .int .i64 x, .int .i64 y, .bool false] w fun e w' => ∃ o, e = .returned (.pointer (some ⟨o, 0, none⟩)) ∧ w.heap.size ≤ o ∧ GB w' o 89 (compG L (y * 80 + x)) ∧ Below w.heap.size w w' := by
  obtain ⟨s, hs⟩ : ∃ s, s = y * 80 + x := ⟨_, rfl⟩
  have hs6 : s < 6400 := by omega
  rw [← hs]
  have hg := hG.lt
  have g0 := GB.zero w 89
  have hz0 := g0.frozen s
  have hc0 := g0.cell hs6
  have g1 := g0.store hs6 true
  rw [hs] at hz0 hc0 g1
  have b0 : Below w.heap.size w (w.alloc (.cells Tryz.zeroCells89 89)) := (Below.refl _ _).alloc (Nat.le_refl _) _
  have hi0 : (0 : Int) ≤ y ∧ (y : Int) < 80 := by omega
  have hi1 : (0 : Int) ≤ x ∧ (x : Int) < 80 := by omega
  go_enter Tryz.func106, Tryz.ntmps106
  go_wp2
  have e0 : ((x : Int), (y : Int)) = pairC s := by unfold pairC; rw [hs]; simp only [Prod.mk.injEq]; omega
  have c0 := PL.one ((w.alloc (.cells Tryz.zeroCells89 89)).setCell ⟨w.heap.size, y * 80 + x, none⟩ (.bool true)) 163 (B := w.heap.size) (by simp) x y
  have g2 := g1.alloc (.cells #[.int .i64 x, .int .i64 y] 163)
  have l2 := ((hG.alloc (.cells Tryz.zeroCells89 89)).other (p := ⟨w.heap.size, y * 80 + x, none⟩) (show g ≠ w.heap.size by omega) (.bool true)).alloc (.cells #[.int .i64 x, .int .i64 y] 163)
  have b2 := (b0.setCell (p := ⟨w.heap.size, y * 80 + x, none⟩) (Nat.le_refl _) (.bool true)).alloc (by simp) (.cells #[.int .i64 x, .int .i64 y] 163)
  rw [e0] at c0
  have E : (w.alloc (.cells Tryz.zeroCells89 89)).setCell ⟨w.heap.size, y * 80 + x, none⟩ (.bool true) = w.alloc (.cells (Tryz.zeroCells89.setIfInBounds (y * 80 + x) (.bool true)) 89) := by simp [go_sem]
  rw [E] at c0 g2 l2 b2
  have ez : (w.alloc (.cells (Tryz.zeroCells89.setIfInBounds (y * 80 + x) (.bool true)) 89)).heap.size = w.heap.size + 1 := by simp
  rw [ez] at c0
  clear g0 g1 b0 hz0 hc0 hG
  go_loopw [10, 11] (fun qv iv wr => ∃ (i : Nat) (qs : List Nat), i ≤ qs.length ∧ iv = .int .i64 i ∧ Srch L s qs ∧ Done L qs i ∧ PL wr 163 w.heap.size qv (qs.map pairC) ∧ GB wr w.heap.size 89 (setL qs) ∧ GB wr g 89 L ∧ Below w.heap.size w wr) (fun _ iv _ => 6400 - (intOf iv).toNat)
  case atStart => exact ⟨0, [s], Nat.zero_le _, rfl, srch_start L hs6, done_zero L _, c0, by rw [show setL [s] = updG emptyG (y * 80 + x) true by rw [← hs]; exact (setL_snoc [] s).trans (by congr)]; exact g2, l2, b2⟩
  case round =>
    obtain ⟨i, qs0, hi, rfl, hS, hD, hQ, hO, hL, hb⟩ := hrel
    clear c0 g2 l2 b2
    have hlen := srch_len hS
    obtain ⟨A, c, hva, hc, hm, -⟩ := hQ.form
    rw [List.length_map] at hva hc
    subst hva
    have hm' : qs0.length ≤ 9223372036854775807 := by unfold maxLen at hm; omega
    by_cases hlt : i < qs0.length
    · obtain ⟨j, hj⟩ : ∃ j, qs0[i]? = some j := ⟨_, List.getElem?_eq_getElem hlt⟩
      have H0 := Lib.hid (show Srch L s qs0 ∧ Done L qs0 i ∧ qs0[i]? = some j ∧ Vis L qs0 j ((-1 + 1) * 3) from ⟨hS, hD, hj, vis_zero L qs0 j⟩)
      clear hS hD
      go_wp2
      go_loopw [10, 12] (fun qv av wr => ∃ (a : Int) (qs : List Nat), -1 ≤ a ∧ a ≤ 2 ∧ av = .int .i64 a ∧ Hid (Srch L s qs ∧ Done L qs i ∧ qs[i]? = some j ∧ Vis L qs j ((a + 1) * 3)) ∧ PL wr 163 w.heap.size qv (qs.map pairC) ∧ GB wr w.heap.size 89 (setL qs) ∧ GB wr g 89 L ∧ Below w.heap.size w wr) (fun _ av _ => (2 - intOf av).toNat)
      case atStart => exact ⟨-1, qs0, by omega, by omega, rfl, H0, hQ, hO, hL, hb⟩
      case round =>
        obtain ⟨a, qs1, ha1, ha2, rfl, H1, hQ1, hO1, hL1, hb1⟩ := hrel
        clear H0 hQ hO hL hb
        by_cases hlta : a < 2
        · have hdA : decide (a ≤ 1) = true := decide_eq_true (by omega)
          go_wp2
          try rw [hdA]
          clear hdA
          go_loopw [10, 13] (fun qv bv wr => ∃ (b : Int) (qs : List Nat), -1 ≤ b ∧ b ≤ 2 ∧ bv = .int .i64 b ∧ Hid (Srch L s qs ∧ Done L qs i ∧ qs[i]? = some j ∧ Vis L qs j ((a + 1) * 3 + (b + 1))) ∧ PL wr 163 w.heap.size qv (qs.map pairC) ∧ GB wr w.heap.size 89 (setL qs) ∧ GB wr g 89 L ∧ Below w.heap.size w wr) (fun _ bv _ => (2 - intOf bv).toNat)
          case atStart => exact ⟨-1, qs1, by omega, by omega, rfl, Lib.hid (by have h := H1.out; simpa using h), hQ1, hO1, hL1, hb1⟩
          case round =>
            obtain ⟨b, qs, hb1', hb2', rfl, H2, hQ2, hO2, hL2, hb2⟩ := hrel
            clear H1 hQ1 hO1 hL1 hb1
            by_cases hltb : b < 2
            · obtain ⟨A2, c2, hva2, hc2, hm2, -⟩ := hQ2.form
              rw [List.length_map] at hva2 hc2
              subst hva2
              have hj2 := H2.out.2.2.1
              have hi2 : i < qs.length := (List.getElem?_eq_some_iff.1 hj2).1
              have hjm : (qs.map pairC)[i]? = some (pairC j) := by rw [List.getElem?_map, hj2]; rfl
              obtain ⟨gq, rfl, hgq, f0, f1⟩ := hQ2.elem hjm
              have hj6 : j < 6400 := H2.out.1.on j (List.mem_of_getElem? hj2)
              unfold pairC at f0 f1
              dsimp only at f0 f1
              obtain ⟨jx, hjx⟩ : ∃ n : Nat, n = j % 80 := ⟨_, rfl⟩
              obtain ⟨jy, hjy⟩ : ∃ n : Nat, n = j / 80 := ⟨_, rfl⟩
              rw [← hjx] at f0
              rw [← hjy] at f1
              have hjr : jx < 80 ∧ jy < 80 := by omega
              have hw1 := Go.IntWalk.i64_in ((jx : Int) + b) (by omega)
              have hw2 := Go.IntWalk.i64_in ((jy : Int) + a) (by omega)
              have hlen2 := srch_len H2.out.1
              have hii : i < 9223372036854775807 := by omega
              clear hjm hj2
              have Hx := Lib.hid hjx
              have Hy := Lib.hid hjy
              clear hjx hjy
              go_wp2
              go_quiet (skip)
              clear f0 f1 hw1 hw2
              replace hQ2 := hQ2.drewN nq
              replace hO2 := hO2.drewN nq
              replace hL2 := hL2.drewN nq
              replace hb2 := below_drewN hb2 nq
              revert hQ2 hO2 hL2 hb2
              generalize wr.drewN nq = wz
              intro hQ2 hO2 hL2 hb2
              go_upto_region 14 with fail
              go_cut [10, 12, 13, 14, 15, 29, 34, 35, 100] from 38 to 112 (fun sq sa sb su sv so sl sm cv wx => sq = .slice (some ⟨gq, 0, none⟩) qs.length c2 ∧ so = .slice A qs0.length c ∧ sl = .int .i64 a ∧ sm = .bool true ∧ sa = .int .i64 a ∧ sb = .int .i64 b ∧ su = .int .i64 ((jx : Int) + b) ∧ sv = .int .i64 ((jy : Int) + a) ∧ wz = wx ∧ ∃ bb : Bool, cv = .bool bb ∧ Hid ((bb = true → Vis L qs j ((a + 1) * 3 + (b + 1) + 1)) ∧ (bb = false → (a = 0 ∨ b = 0) ∧ ∃ c : Nat, c < 6400 ∧ ((c % 80 : Nat) : Int) = (jx : Int) + b ∧ ((c / 80 : Nat) : Int) = (jy : Int) + a ∧ L c = true ∧ setL qs c = false)))
              case first =>
                by_cases hd : b ≠ 0 ∧ a ≠ 0
                · have Hv := Lib.hid (vis_off H2.out.2.2.2 ⟨ha1, by omega⟩ ⟨hb1', by omega⟩ (.inl hd))
                  obtain ⟨hd1, hd2⟩ := hd
                  go_wp2_with fail
                  go_meet
                  exact ⟨by simp, by simp, by simp, by simp, by simp, by simp, by simp, by simp, rfl, true, rfl, Lib.hid ⟨fun _ => Hv.out, fun h => by cases h⟩⟩
                · have hab : a = 0 ∨ b = 0 := by omega
                  have hz : b = 0 ∨ (b ≠ 0 ∧ a = 0) := by omega
                  by_cases hu0 : (jx : Int) + b < 0
                  · have Hv := Lib.hid (vis_off H2.out.2.2.2 ⟨ha1, by omega⟩ ⟨hb1', by omega⟩ (.inr (.inl (by rw [← Hx.out]; exact hu0))))
                    obtain rfl : a = 0 := by omega
                    go_wp2_with fail
                    go_meet
                    exact ⟨by simp, by simp, by simp, by simp; try omega, by simp, by simp, by simp, by simp, rfl, true, rfl, Lib.hid ⟨fun _ => Hv.out, fun h => by cases h⟩⟩
                  · by_cases hv0 : (jy : Int) + a < 0
                    · have Hv := Lib.hid (vis_off H2.out.2.2.2 ⟨ha1, by omega⟩ ⟨hb1', by omega⟩ (.inr (.inr (.inl (by rw [← Hy.out]; exact hv0)))))
                      obtain rfl : b = 0 := by omega
                      go_wp2_with fail
                      go_meet
                      exact ⟨by simp, by simp, by simp, by simp; try omega, by simp, by simp, by simp, by simp, rfl, true, rfl, Lib.hid ⟨fun _ => Hv.out, fun h => by cases h⟩⟩
                    · by_cases hu8 : (80 : Int) ≤ (jx : Int) + b
                      · have Hv := Lib.hid (vis_off H2.out.2.2.2 ⟨ha1, by omega⟩ ⟨hb1', by omega⟩ (.inr (.inr (.inr (.inl (by rw [← Hx.out]; exact hu8))))))
                        obtain rfl : a = 0 := by omega
                        go_wp2_with fail
                        go_meet
                        exact ⟨by simp, by simp, by simp, by simp; try omega, by simp, by simp, by simp, by simp, rfl, true, rfl, Lib.hid ⟨fun _ => Hv.out, fun h => by cases h⟩⟩
                      · by_cases hv8 : (80 : Int) ≤ (jy : Int) + a
                        · have Hv := Lib.hid (vis_off H2.out.2.2.2 ⟨ha1, by omega⟩ ⟨hb1', by omega⟩ (.inr (.inr (.inr (.inr (by rw [← Hy.out]; exact hv8))))))
                          obtain rfl : b = 0 := by omega
                          go_wp2_with fail
                          go_meet
                          exact ⟨by simp, by simp, by simp, by simp; try omega, by simp, by simp, by simp, by simp, rfl, true, rfl, Lib.hid ⟨fun _ => Hv.out, fun h => by cases h⟩⟩
                        · obtain ⟨u, hu⟩ : ∃ u : Nat, (jx : Int) + b = (u : Int) := ⟨((jx : Int) + b).toNat, by omega⟩
                          obtain ⟨v, hv⟩ : ∃ v : Nat, (jy : Int) + a = (v : Int) := ⟨((jy : Int) + a).toNat, by omega⟩
                          have hur : (u : Int) < 80 ∧ (v : Int) < 80 ∧ u < 80 ∧ v < 80 := by omega
                          have hc6 : v * 80 + u < 6400 := by omega
                          have hcx : (((v * 80 + u) % 80 : Nat) : Int) = (jx : Int) + b := by omega
                          have hcy : (((v * 80 + u) / 80 : Nat) : Int) = (jy : Int) + a := by omega
                          have Hcx := Lib.hid hcx
                          have Hcy := Lib.hid hcy
                          have cL := hL2.cell hc6
                          have cO := hO2.cell hc6
                          have Hab := Lib.hid hab
                          rw [hu, hv]
                          have hu0' : ¬ (u : Int) < 0 := by omega
                          have hv0' : ¬ (v : Int) < 0 := by omega
                          have hu8' : ¬ (80 : Int) ≤ (u : Int) := by omega
                          have hv8' : ¬ (80 : Int) ≤ (v : Int) := by omega
                          have Hu := Lib.hid hu
                          have Hv0 := Lib.hid hv
                          clear hcx hcy hu hv hu0 hv0 hu8 hv8
                          by_cases hLc : L (v * 80 + u) = true
                          · by_cases hOc : setL qs (v * 80 + u) = true
                            · have Hv := Lib.hid (vis_on H2.out.2.2.2 ⟨ha1, by omega⟩ ⟨hb1', by omega⟩ (by rw [← Hx.out]; exact Hcx.out) (by rw [← Hy.out]; exact Hcy.out) (.inr ((setL_iff qs _).1 hOc)))
                              rw [hLc] at cL
                              rw [hOc] at cO
                              clear hLc hOc
                              rcases hz with rfl | ⟨hz1, rfl⟩
                              all_goals
                                go_wp2_with fail
                                go_meet
                                exact ⟨by simp, by simp, by simp, by simp; try omega, by simp, by simp, by simp [Hu.out], by simp [Hv0.out], rfl, true, rfl, Lib.hid ⟨fun _ => Hv.out, fun h => by cases h⟩⟩
                            · have hOc' : setL qs (v * 80 + u) = false := by simpa using hOc
                              have Hg := Lib.hid (show (a = 0 ∨ b = 0) ∧ ∃ c : Nat, c < 6400 ∧ ((c % 80 : Nat) : Int) = (jx : Int) + b ∧ ((c / 80 : Nat) : Int) = (jy : Int) + a ∧ L c = true ∧ setL qs c = false from ⟨hab, v * 80 + u, hc6, Hcx.out, Hcy.out, hLc, hOc'⟩)
                              rw [hLc] at cL
                              rw [hOc'] at cO
                              clear hLc hOc hOc'
                              rcases hz with rfl | ⟨hz1, rfl⟩
                              all_goals
                                go_wp2_with fail
                                go_meet
                                exact ⟨by simp, by simp, by simp, by simp; try omega, by simp, by simp, by simp [Hu.out], by simp [Hv0.out], rfl, false, rfl, Lib.hid ⟨fun h => (by cases h), fun _ => Hg.out⟩⟩
                          · have hLc' : L (v * 80 + u) = false := by simpa using hLc
                            have Hv := Lib.hid (vis_on H2.out.2.2.2 ⟨ha1, by omega⟩ ⟨hb1', by omega⟩ (by rw [← Hx.out]; exact Hcx.out) (by rw [← Hy.out]; exact Hcy.out) (.inl hLc'))
                            rw [hLc'] at cL
                            clear hLc hLc'
                            rcases hz with rfl | ⟨hz1, rfl⟩
                            all_goals
                              go_wp2_with fail
                              go_meet
                              exact ⟨by simp, by simp, by simp, by simp; try omega, by simp, by simp, by simp [Hu.out], by simp [Hv0.out], rfl, true, rfl, Lib.hid ⟨fun _ => Hv.out, fun h => by cases h⟩⟩
              case rest =>
                obtain ⟨rfl, rfl, rfl, rfl, rfl, rfl, rfl, rfl, rfl, bb, rfl, HB⟩ := hcut
                cases bb with
                | true =>
                  have H3 := Lib.hid (show Srch L s qs ∧ Done L qs i ∧ qs[i]? = some j ∧ Vis L qs j ((a + 1) * 3 + (b + 1 + 1)) from ⟨H2.out.1, H2.out.2.1, H2.out.2.2.1, by rw [← Int.add_assoc]; exact HB.out.1 rfl⟩)
                  clear H2 HB
                  go_wp2
                  exact ⟨⟨b + 1, qs, by omega, by omega, by go_num, H3, hQ2, hO2, hL2, hb2⟩, by simp [intOf]; omega⟩
                | false =>
                  obtain ⟨hab, c0, hc6, hcx, hcy, hLc, hOc⟩ := HB.out.2 rfl
                  obtain ⟨u, hu⟩ : ∃ u : Nat, (jx : Int) + b = (u : Int) := ⟨((jx : Int) + b).toNat, by omega⟩
                  obtain ⟨v, hv⟩ : ∃ v : Nat, (jy : Int) + a = (v : Int) := ⟨((jy : Int) + a).toNat, by omega⟩
                  have hur : (u : Int) < 80 ∧ (v : Int) < 80 ∧ u < 80 ∧ v < 80 := by omega
                  obtain rfl : c0 = v * 80 + u := by omega
                  have hjq : j ∈ qs := List.mem_of_getElem? H2.out.2.2.1
                  have hn := on_nbr hjq ⟨ha1, by omega⟩ ⟨hb1', by omega⟩ hab (by rw [← Hx.out]; exact hcx) (by rw [← Hy.out]; exact hcy) hOc
                  have H3 := Lib.hid (show Srch L s (qs ++ [v * 80 + u]) ∧ Done L (qs ++ [v * 80 + u]) i ∧ (qs ++ [v * 80 + u])[i]? = some j ∧ Vis L (qs ++ [v * 80 + u]) j ((a + 1) * 3 + (b + 1 + 1)) from
                    ⟨srch_put H2.out.1 hjq hn hc6 hLc hOc, done_put H2.out.2.1 (Nat.le_of_lt hi2) _, by rw [List.getElem?_append_left hi2]; exact H2.out.2.2.1, by
                      rw [← Int.add_assoc]
                      exact vis_on (j := j) (c := v * 80 + u) (vis_put H2.out.2.2.2 _) ⟨ha1, by omega⟩ ⟨hb1', by omega⟩ (by rw [← Hx.out]; exact hcx) (by rw [← Hy.out]; exact hcy) (.inr (by simp))⟩)
                  have hne : some w.heap.size ≠ (Value.slice (some ⟨gq, 0, none⟩) qs.length c2).ownBlock := by obtain ⟨cs, hk, _⟩ := hO2; exact hk.apart' hQ2 (by decide)
                  have cO := hO2.cell hc6
                  rw [hOc] at cO
                  have hzO := hO2.frozen (v * 80 + u)
                  have hst := hO2.store hc6 true
                  rw [← setL_snoc] at hst
                  have hQ3 := hQ2.other (p := ⟨w.heap.size, v * 80 + u, none⟩) hne (.bool true)
                  have hL3 := hL2.other (p := ⟨w.heap.size, v * 80 + u, none⟩) (show g ≠ w.heap.size by omega) (.bool true)
                  have hb3 := hb2.setCell (p := ⟨w.heap.size, v * 80 + u, none⟩) (Nat.le_refl _) (.bool true)
                  have hsz := hb3.size
                  have hs3 : (wz.setCell ⟨w.heap.size, v * 80 + u, none⟩ (.bool true)).heap.size = wz.heap.size := by simp
                  have Hs3 := Lib.hid hs3
                  clear hs3
                  have hmap : (qs ++ [v * 80 + u]).map pairC = qs.map pairC ++ [((u : Int), (v : Int))] := by
                    have e1 : ((v * 80 + u) % 80 : Nat) = u := by omega
                    have e2 : ((v * 80 + u) / 80 : Nat) = v := by omega
                    rw [List.map_append, List.map_cons, List.map_nil, pairC, e1, e2]
                  have Hm := Lib.hid hmap
                  have hlq : (qs.map pairC).length ≤ 1000000 := by rw [List.length_map]; omega
                  rw [hu, hv]
                  clear hmap hcx hcy hLc hOc hab hn H2 HB hu hv hjq hO2 hQ2 hL2 hb2
                  go_wp2_with (at_builtin; refine wpList_append_2 rfl (.tmp 107) (.tmp 111) rfl w.heap.size _ (qs.map pairC) rfl hQ3 (u : Int) (v : Int) (by rw [Hs3.out]; rfl) hlq hsz ?_; intro v' w' k1 k2 k3 k4)
                  rw [← Hm.out] at k1
                  exact ⟨⟨b + 1, qs ++ [v * 80 + u], by omega, by omega, by go_num, H3, k1, hst.grown k2 hne, hL3.keptO hQ3 (by decide) k2, hb3.trans k3⟩, by simp [intOf]; omega⟩
            · have e : (a + 1) * 3 + (b + 1) = (a + 1 + 1) * 3 := by omega
              rw [e] at H2
              go_wp2
              exact ⟨⟨a + 1, qs, by omega, by omega, rfl, H2, hQ2, hO2, hL2, hb2⟩, by simp [intOf]; omega⟩
        · have ha : a = 2 := by omega
          subst ha
          obtain ⟨h1, h2, h3, h4⟩ := H1.out
          have hd := Lib.hid (done_step h2 h3 (vis_nine h4))
          have hs1 := Lib.hid h1
          have hi1 : i + 1 ≤ qs1.length := (List.getElem?_eq_some_iff.1 h3).1
          have hl6 := srch_len h1
          clear h1 h2 h3 h4 H1
          go_wp2
          exact ⟨⟨i + 1, qs1, hi1, by go_num, hs1.out, hd.out, hQ1, hO1, hL1, hb1⟩, by simp [intOf]; omega⟩
    · have hie : i = qs0.length := by omega
      have hfin : setL qs0 = compG L s := srch_end hS (hie ▸ hD)
      rw [hfin] at hO
      clear hS hD
      go_wp2
      go_ret
      exact ⟨_, rfl, Nat.le_refl _, hO, hb⟩

end Go.Proofs.YtjiljodchebniaaGreat

namespace Go.Proofs.YtjiljodchebniaaGreat
open Go.RowKit

/-- A store into a set of the program keeps the lists. -/
theorem RLL.put_other {w w' : World} {g B : Nat} {v : Value} {rss : List (List Rc)} {G : Gr} (h : RLL w B v rss) (hG : GB w g 89 G) (hg : w.grownBy w' (some g)) : RLL w' B v rss := by
  obtain ⟨vs, h1, h2, h3⟩ := h
  obtain ⟨cs, hb, _⟩ := hG
  refine ⟨vs, World.ownsRow.kept h1 hg (.inr fun he => hb.apart' h1 (by decide) he.symm), h2, fun k u rs hu hr => ?_⟩
  have h4 := h3 k u rs hu hr
  exact World.ownsRow.kept h4 hg (.inr fun he => hb.apart' h4 (by decide) he.symm)
theorem RL.put_other {w w' : World} {g B : Nat} {v : Value} {rs : List Rc} {G : Gr} (h : RL w B v rs) (hG : GB w g 89 G) (hg : w.grownBy w' (some g)) : RL w' B v rs := by
  obtain ⟨cs, hb, _⟩ := hG
  exact World.ownsRow.kept h hg (.inr fun he => hb.apart' h (by decide) he.symm)
/-- Two lists as the arguments of a variadic call. -/
theorem RLL.two {w : World} {u1 u2 : Value} {a b : List Rc} (h1 : RL w 0 u1 a) (h2 : RL w 0 u2 b) : RLL (w.alloc (.cells #[u1, u2] 24)) 0 (.slice (some ⟨w.heap.size, 0, none⟩) 2 2) [a, b] := by
  refine ⟨[u1, u2], World.ownsRow_lit w #[u1, u2] 2 (Nat.zero_le _) (by simp [maxLen]) rfl, rfl, fun k u rs hu hr => ?_⟩
  match k with
  | 0 =>
    simp at hu hr
    subst hu hr
    exact World.ownsRow.alloc h1 _
  | 1 =>
    simp at hu hr
    subst hu hr
    exact World.ownsRow.alloc h2 _
  | k + 2 => simp at hu
theorem flat_step {rss : List (List Rc)} {k : Nat} {rs : List Rc} (h : rss[k]? = some rs) : (rss.take (k + 1)).flatten = (rss.take k).flatten ++ rs := by
  rw [List.take_add_one, h, Option.toList, List.flatten_append, List.flatten_cons, List.flatten_nil, List.append_nil]
theorem cells_more {qs rs : List Rc} {j : Nat} {r : Rc} (h : rs[j]? = some r) : orR (cellsG (qs ++ rs.take j)) r = cellsG (qs ++ rs.take (j + 1)) := by
  rw [List.take_add_one, h, Option.toList, ← List.append_assoc, cellsG_snoc]

set_option maxHeartbeats 800000 in
set_option maxRecDepth 100000 in
/-- unionAll. -/
theorem unionAll_any (v : Value) (rss : List (List Rc)) (w : World) (hv : RLL w 0 v rss) : Calls Tryz.prog 114 #[v] w fun e w' => ∃ u, e = .returned u ∧ RL w' w.heap.size u (canon (cellsG rss.flatten)) ∧ Below w.heap.size w w' := by
  obtain ⟨A, c, rfl, hc, hm⟩ := hv.form
  have hm' : rss.length ≤ 9223372036854775807 := by unfold maxLen at hm; omega
  have g0 := GB.zero w 89
  have t0 : Below w.heap.size w (w.alloc (.cells Tryz.zeroCells89 89)) := (Below.refl _ _).alloc (Nat.le_refl _) _
  replace hv := hv.alloc (.cells Tryz.zeroCells89 89)
  go_enter Tryz.func114, Tryz.ntmps114
  go_wp2
  go_loopw [12] (fun iv wr => ∃ k : Nat, k ≤ rss.length ∧ iv = .int .i64 k ∧ GB wr w.heap.size 89 (cellsG (rss.take k).flatten) ∧ RLL wr 0 (.slice A rss.length c) rss ∧ Below w.heap.size w wr) (fun iv _ => rss.length - (intOf iv).toNat)
  case atStart => exact ⟨0, Nat.zero_le _, rfl, g0, hv, t0⟩
  case round =>
    obtain ⟨k, hk, rfl, hG, hL, hb⟩ := hrel
    clear g0 hv t0
    by_cases hlt : k < rss.length
    · obtain ⟨g, u, rs, rfl, hr, hg, f0, hR⟩ := hL.elem hlt
      obtain ⟨A2, c2, rfl, hc2, hm2, -⟩ := hR.form
      have hm2' : rs.length ≤ 9223372036854775807 := by unfold maxLen at hm2; omega
      have Hf := Lib.hid (flat_step hr)
      clear hr
      go_wp2
      go_loopw [18] (fun jv wi => ∃ j : Nat, j ≤ rs.length ∧ jv = .int .i64 j ∧ GB wi w.heap.size 89 (cellsG ((rss.take k).flatten ++ rs.take j)) ∧ RLL wi 0 (.slice (some ⟨g, 0, none⟩) rss.length c) rss ∧ RL wi 0 (.slice A2 rs.length c2) rs ∧ Below w.heap.size w wi) (fun jv _ => rs.length - (intOf jv).toNat)
      case atStart => exact ⟨0, Nat.zero_le _, rfl, by rw [List.take_zero, List.append_nil]; exact hG, hL, hR, hb⟩
      case round =>
        obtain ⟨j, hj, rfl, hG1, hL1, hR1, hb1⟩ := hrel
        clear hG hL hR hb f0
        by_cases hltj : j < rs.length
        · obtain ⟨g', x0, y0, x1, y1, rfl, hr, hg', e0, e1, e2, e3⟩ := hR1.elem hltj
          have Hr := Lib.hid (cells_more (qs := (rss.take k).flatten) hr)
          clear hr
          have gA := hG1.alloc (.cells #[.int .i64 x0, .int .i64 y0, .int .i64 x1, .int .i64 y1] 75)
          have lA := hL1.alloc (.cells #[.int .i64 x0, .int .i64 y0, .int .i64 x1, .int .i64 y1] 75)
          have rA := RL.alloc hR1 (.cells #[.int .i64 x0, .int .i64 y0, .int .i64 x1, .int .i64 y1] 75)
          have tA := hb1.alloc hb1.size (.cells #[.int .i64 x0, .int .i64 y0, .int .i64 x1, .int .i64 y1] 75)
          go_wp2_with fail
          refine (put_any _ _ ⟨x0, y0, x1, y1⟩ _ gA).mono ?_
          rintro e w5 ⟨rfl, hG5, hO5⟩
          go_wp2
          exact ⟨⟨j + 1, by omega, by go_num, hG5.cong Hr.out, lA.put_other gA hO5, rA.put_other gA hO5, only_far tA hO5 tA.size (Nat.le_refl _)⟩, by simp [intOf]; omega⟩
        · have hje : j = rs.length := by omega
          rw [hje, List.take_length, ← Hf.out] at hG1
          clear hje
          go_wp2
          exact ⟨⟨k + 1, by omega, by go_num, hG1, hL1, hb1⟩, by simp [intOf]; omega⟩
    · have hke : k = rss.length := by omega
      rw [hke, List.take_length] at hG
      clear hke
      go_wp2_with fail
      refine (region_any _ _ _ hG).mono ?_
      rintro e w9 ⟨u9, rfl, hR9, hb9⟩
      go_wp2
      go_ret
      exact ⟨_, rfl, hR9.less hb.size, hb.trans (hb9.mono hb.size)⟩

/-- Two valid rectangles overlap. -/
def overR (a b : Rc) : Bool := okRc (commonR a b)
theorem over_iff {a b : Rc} (ha : okRc a = true) (hb : okRc b = true) : overR a b = true ↔ ∃ i, i < 6400 ∧ inR a i = true ∧ inR b i = true := by
  rw [okRc_iff] at ha hb
  unfold overR
  rw [okRc_iff]
  unfold commonR
  dsimp only
  constructor
  · intro h
    refine ⟨((max a.y0 b.y0) + 40).toNat * 80 + ((max a.x0 b.x0) + 40).toNat, by omega, ?_, ?_⟩
    all_goals
      have e1 : (((max a.y0 b.y0) + 40).toNat * 80 + ((max a.x0 b.x0) + 40).toNat) / 80 = ((max a.y0 b.y0) + 40).toNat ∧ (((max a.y0 b.y0) + 40).toNat * 80 + ((max a.x0 b.x0) + 40).toNat) % 80 = ((max a.x0 b.x0) + 40).toNat := by omega
      rw [inR_iff, e1.1, e1.2]
      omega
  · rintro ⟨i, hi, h1, h2⟩
    rw [inR_iff] at h1 h2
    omega
/-- Two lists have a common cell, rectangle by rectangle. -/
def meetL (a b : List Rc) : Bool := a.any fun r => b.any (overR r)
theorem meetL_G {a b : List Rc} (ha : okAll a = true) (hb : okAll b = true) : meetL a b = meetG (cellsG a) (cellsG b) := by
  rw [okAll, List.all_eq_true] at ha hb
  rw [Bool.eq_iff_iff]
  unfold meetL meetG
  rw [List.any_eq_true, List.any_eq_true]
  constructor
  · rintro ⟨r, hr, h⟩
    rw [List.any_eq_true] at h
    obtain ⟨q, hq, h⟩ := h
    obtain ⟨i, hi, h1, h2⟩ := (over_iff (ha r hr) (hb q hq)).1 h
    refine ⟨i, List.mem_range.2 hi, ?_⟩
    rw [(cellsG_iff a i).2 ⟨r, hr, h1⟩, (cellsG_iff b i).2 ⟨q, hq, h2⟩]; rfl
  · rintro ⟨i, hi, h⟩
    rw [Bool.and_eq_true] at h
    obtain ⟨r, hr, h1⟩ := (cellsG_iff a i).1 h.1
    obtain ⟨q, hq, h2⟩ := (cellsG_iff b i).1 h.2
    refine ⟨r, hr, ?_⟩
    rw [List.any_eq_true]
    exact ⟨q, hq, (over_iff (ha r hr) (hb q hq)).2 ⟨i, List.mem_range.1 hi, h1, h2⟩⟩
theorem anyL_first {α : Type} {p : α → Bool} {l : List α} {k : Nat} {a : α} (h : l[k]? = some a) (hp : p a = true) : (l.drop k).any p = true := by
  rw [List.any_eq_true]
  obtain ⟨hk, he⟩ := List.getElem?_eq_some_iff.1 h
  exact ⟨a, by rw [List.drop_eq_getElem_cons hk, he]; simp, hp⟩
theorem anyL_next {α : Type} {p : α → Bool} {l : List α} {k : Nat} {a : α} (h : l[k]? = some a) (hp : p a = false) : (l.drop k).any p = (l.drop (k + 1)).any p := by
  obtain ⟨hk, he⟩ := List.getElem?_eq_some_iff.1 h
  rw [List.drop_eq_getElem_cons hk, he, List.any_cons, hp, Bool.false_or]
theorem anyL_last {α : Type} {p : α → Bool} {l : List α} {k : Nat} (h : l.length ≤ k) : (l.drop k).any p = false := by rw [List.drop_eq_nil_of_le h]; rfl

end Go.Proofs.YtjiljodchebniaaGreat
