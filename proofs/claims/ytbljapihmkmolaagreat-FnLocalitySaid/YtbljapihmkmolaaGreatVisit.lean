/- Contract: the reference's l19Visit. Condition: a cell of the chip. -/
import Derived.Test.YtbljapihmkmolaaGreatCompKit
import Derived.Test.YtbljapihmkmolaaGreatCombA
import Derived.Test.YtbljapihmkmolaaGreatMemA
import Derived.Test.YtbljapihmkmolaaGreatAllRuns
import Derived.Deep.CutRange
import Derived.BigRegion
namespace Go.Proofs.YtbljapihmkmolaaGreat
open Go.RowKit

def pairI (j : Nat) : Int × Int := (((j % 80 : Nat) : Int) - 40, ((j / 80 : Nat) : Int) - 40)
theorem pairI_ix {x y : Int} (h : onC x y = true) : pairI (ix x y).toNat = (x, y) := by
  rw [onC_iff] at h
  unfold pairI ix
  simp only [Prod.mk.injEq]
  omega
theorem GB.keptQ {w w' : World} {g : Nat} {t e : TypeId} {G : Gr} {B s n : Nat} {v : Value} {xs : List Value} (h : GB w g t G) (ho : w.ownsRow B e s v n xs) (hne : t ≠ e) (hg : w.grownBy w' v.ownBlock) : GB w' g t G := by
  obtain ⟨cs, hb, hr⟩ := h
  exact ⟨cs, hb.grown hg (hb.apart' ho hne), hr⟩

set_option maxHeartbeats 12800000 in
set_option maxRecDepth 100000 in
/-- l19Visit. -/
theorem visit_any (gv cv : Nat) (L : Gr) (x y : Int) (w : World) (hG : GB w gv 4 L) (hon : onC x y = true) :
    Calls Tryz.prog 160 #[.slice (some ⟨gv, 0, none⟩) 6400 cv, .int .i64 x, .int .i64 y] w fun e w' => ∃ u qs, e = .returned u ∧ PL w' 175 w.heap.size u (qs.map pairI) ∧ setL qs = compG L (ix x y).toNat ∧ (∀ j ∈ qs, j < 6400) ∧ Below w.heap.size w w' := by
  have hxy := (onC_iff x y).1 hon
  have hs6 := (ix_nat hon).2
  rw [← (ix_nat hon).1] at hs6
  have hi : 0 ≤ ix x y ∧ ix x y < 6400 := by unfold ix; omega
  have hg := hG.lt
  have hmk := run_make_6400
  have g0 := GB.made w 4
  have hz0 := g0.frozen (ix x y).toNat
  have hc0 := g0.cell hs6
  have g1 := g0.store hs6 true
  have l1 := (hG.alloc (.cells noCells 4)).other (p := ⟨w.heap.size, (ix x y).toNat, none⟩) (show gv ≠ w.heap.size by omega) (.bool true)
  have b1 := ((Below.refl w.heap.size w).alloc (Nat.le_refl _) (.cells noCells 4)).setCell (p := ⟨w.heap.size, (ix x y).toNat, none⟩) (Nat.le_refl _) (.bool true)
  have E : (w.alloc (.cells noCells 4)).setCell ⟨w.heap.size, (ix x y).toNat, none⟩ (.bool true) = w.alloc (.cells (noCells.setIfInBounds (ix x y).toNat (.bool true)) 4) := by simp [go_sem]
  rw [E] at g1 l1 b1
  have c1 := PL.one (w.alloc (.cells (noCells.setIfInBounds (ix x y).toNat (.bool true)) 4)) 175 (B := w.heap.size) (by simp) x y
  rw [← pairI_ix hon] at c1
  have g2 := g1.alloc (.cells #[.int .i64 x, .int .i64 y] 175)
  have l2 := l1.alloc (.cells #[.int .i64 x, .int .i64 y] 175)
  have b2 := b1.alloc (by simp) (.cells #[.int .i64 x, .int .i64 y] 175)
  have ez : (w.alloc (.cells (noCells.setIfInBounds (ix x y).toNat (.bool true)) 4)).heap.size = w.heap.size + 1 := by simp
  rw [ez] at c1
  have es : setL [(ix x y).toNat] = updG emptyG (ix x y).toNat true := (setL_snoc [] (ix x y).toNat).trans (by congr)
  rw [← es] at g2
  obtain ⟨s, hs⟩ : ∃ s, s = (ix x y).toNat := ⟨_, rfl⟩
  have hss6 : s < 6400 := by omega
  have Hon := Lib.hid hon
  clear g1 l1 b1 hG es hon
  go_enter Tryz.func160, Tryz.ntmps160
  go_wp2_with (go_at_call 158; refine (l17At_any x y (by omega) _).mono ?_; rintro e w1 ⟨rfl, rfl⟩)
  clear hmk hz0 hc0 g0 E
  obtain ⟨W0, hW0⟩ : ∃ W0, W0 = (w.alloc (.cells (noCells.setIfInBounds (ix x y).toNat (.bool true)) 4)).alloc (.cells #[.int .i64 x, .int .i64 y] 175) := ⟨_, rfl⟩
  rw [← hW0] at c1 g2 l2 b2 ⊢
  clear hW0
  rw [← hs] at c1 g2
  have Hs := Lib.hid hs
  go_loopw [8, 9] (fun qv iv wr => ∃ (i : Nat) (qs : List Nat), i ≤ qs.length ∧ iv = .int .i64 i ∧ Srch L s qs ∧ Done L qs i ∧ PL wr 175 w.heap.size qv (qs.map pairI) ∧ GB wr w.heap.size 4 (setL qs) ∧ GB wr gv 4 L ∧ Below w.heap.size w wr) (fun _ iv _ => 6400 - (intOf iv).toNat)
  case atStart => exact ⟨0, [s], Nat.zero_le _, rfl, srch_start L hss6, done_zero L _, c1, g2, l2, b2⟩
  case round =>
    obtain ⟨i, qs0, hiq, rfl, hS, hD, hQ, hO, hL, hb⟩ := hrel
    clear c1 g2 l2 b2
    have hlen := srch_len hS
    obtain ⟨A, c, hva, hc, hm, -⟩ := hQ.form
    rw [List.length_map] at hva hc
    subst hva
    have hm' : qs0.length ≤ 9223372036854775807 := by omega
    by_cases hlt : i < qs0.length
    · obtain ⟨j, hj⟩ : ∃ j, qs0[i]? = some j := ⟨_, List.getElem?_eq_getElem hlt⟩
      have H0 := Lib.hid (show Srch L s qs0 ∧ Done L qs0 i ∧ qs0[i]? = some j ∧ VisD L qs0 j 0 from ⟨hS, hD, hj, visd_zero L qs0 j⟩)
      clear hS hD
      go_wp2
      go_loopw [8, 10] (fun qv dv wr => ∃ (d : Nat) (qs : List Nat), d ≤ 4 ∧ dv = .int .i64 d ∧ Hid (Srch L s qs ∧ Done L qs i ∧ qs[i]? = some j ∧ VisD L qs j d) ∧ PL wr 175 w.heap.size qv (qs.map pairI) ∧ GB wr w.heap.size 4 (setL qs) ∧ GB wr gv 4 L ∧ Below w.heap.size w wr) (fun _ dv _ => 4 - (intOf dv).toNat)
      case atStart => exact ⟨0, qs0, by omega, rfl, H0, hQ, hO, hL, hb⟩
      case round =>
        obtain ⟨d, qs, hd4, rfl, H2, hQ2, hO2, hL2, hb2⟩ := hrel
        clear H0 hQ hO hL hb
        by_cases hltd : d < 4
        · obtain ⟨A2, c2, hva2, hc2, hm2, -⟩ := hQ2.form
          rw [List.length_map] at hva2 hc2
          subst hva2
          have hj2 := H2.out.2.2.1
          have hi2 : i < qs.length := (List.getElem?_eq_some_iff.1 hj2).1
          have hjm : (qs.map pairI)[i]? = some (pairI j) := by rw [List.getElem?_map, hj2]; rfl
          obtain ⟨gq, rfl, hgq, f0, f1⟩ := hQ2.elem hjm
          have hj6 : j < 6400 := H2.out.1.on j (List.mem_of_getElem? hj2)
          unfold pairI at f0 f1
          dsimp only at f0 f1
          obtain ⟨xj, hxj⟩ : ∃ n : Int, n = ((j % 80 : Nat) : Int) - 40 := ⟨_, rfl⟩
          obtain ⟨yj, hyj⟩ : ∃ n : Int, n = ((j / 80 : Nat) : Int) - 40 := ⟨_, rfl⟩
          rw [← hxj] at f0
          rw [← hyj] at f1
          have hjr : -40 ≤ xj ∧ xj ≤ 39 ∧ -40 ≤ yj ∧ yj ≤ 39 := by omega
          have hlen2 := srch_len H2.out.1
          have hii : i < 9223372036854775807 := by omega
          have Hx := Lib.hid hxj
          have Hy := Lib.hid hyj
          clear hjm hj2 hxj hyj
          have hd0 : (0 : Int) ≤ (d : Int) ∧ (d : Int) < 4 := by omega
          have hdx : -1 ≤ dirX d ∧ dirX d ≤ 1 := by unfold dirX; split <;> (try split) <;> omega
          have hdy : -1 ≤ dirY d ∧ dirY d ≤ 1 := by unfold dirY; split <;> (try split) <;> omega
          have hwx := Go.IntWalk.i64_in (xj + dirX d) (by omega)
          have hwy := Go.IntWalk.i64_in (yj + dirY d) (by omega)
          have HD := Lib.hid (show d < 4 ∧ VisD L qs j d from ⟨hltd, H2.out.2.2.2⟩)
          have hszr := hb2.size
          have hgs := hO2.lt
          go_upto_region 10 with fail
          go_cut [8, 9, 10, 11] from 30 to 82 (fun sq si sd sp wx => sq = .slice (some ⟨gq, 0, none⟩) qs.length c2 ∧ si = .int .i64 i ∧ sd = .int .i64 d ∧ (∃ pb : Nat, sp = .pointer (some ⟨pb, 0, none⟩) ∧ w.heap.size < pb ∧ Bk wx pb 175 #[.int .i64 (xj + dirX d), .int .i64 (yj + dirY d)]) ∧ PL wx 175 w.heap.size (.slice (some ⟨gq, 0, none⟩) qs.length c2) (qs.map pairI) ∧ GB wx w.heap.size 4 (setL qs) ∧ GB wx gv 4 L ∧ Below w.heap.size w wx)
          case first =>
            have hd4' : d = 0 ∨ d = 1 ∨ d = 2 ∨ d = 3 := by omega
            have lx0 : (#[.int .i64 1, .int .i64 (-1), .int .i64 0, .int .i64 0] : Array Value)[d]? = some (.int .i64 (dirX d)) := by rcases hd4' with rfl | rfl | rfl | rfl <;> rfl
            have ly0 : (#[.int .i64 0, .int .i64 0, .int .i64 1, .int .i64 (-1)] : Array Value)[d]? = some (.int .i64 (dirY d)) := by rcases hd4' with rfl | rfl | rfl | rfl <;> rfl
            have sz1 : ∀ {o}, (wr.alloc o).heap.size = wr.heap.size + 1 := by simp
            have sz2 : ∀ {o o'}, ((wr.alloc o).alloc o').heap.size = wr.heap.size + 1 + 1 := by simp
            have lxa : (wr.alloc (.cells #[.int .i64 1, .int .i64 (-1), .int .i64 0, .int .i64 0] 2)).cell? ⟨wr.heap.size, d, none⟩ = some (.int .i64 (dirX d)) := ((Bk.new wr 2 _).cell d).trans lx0
            have lxb : ∀ o, ((wr.alloc o).alloc (.cells #[.int .i64 1, .int .i64 (-1), .int .i64 0, .int .i64 0] 2)).cell? ⟨wr.heap.size + 1, d, none⟩ = some (.int .i64 (dirX d)) := fun o => by have e := ((Bk.new (wr.alloc o) 2 _).cell d).trans lx0; rwa [sz1] at e
            have lxc : ∀ o o', (((wr.alloc o).alloc o').alloc (.cells #[.int .i64 1, .int .i64 (-1), .int .i64 0, .int .i64 0] 2)).cell? ⟨wr.heap.size + 1 + 1, d, none⟩ = some (.int .i64 (dirX d)) := fun o o' => by have e := ((Bk.new ((wr.alloc o).alloc o') 2 _).cell d).trans lx0; rwa [sz2] at e
            have lxd : ∀ o, ((wr.alloc (.cells #[.int .i64 1, .int .i64 (-1), .int .i64 0, .int .i64 0] 2)).alloc o).cell? ⟨wr.heap.size, d, none⟩ = some (.int .i64 (dirX d)) := fun o => (((Bk.new wr 2 _).alloc o).cell d).trans lx0
            have lxe : ∀ o o', (((wr.alloc (.cells #[.int .i64 1, .int .i64 (-1), .int .i64 0, .int .i64 0] 2)).alloc o).alloc o').cell? ⟨wr.heap.size, d, none⟩ = some (.int .i64 (dirX d)) := fun o o' => ((((Bk.new wr 2 _).alloc o).alloc o').cell d).trans lx0
            have lxf : ∀ o o', (((wr.alloc o).alloc (.cells #[.int .i64 1, .int .i64 (-1), .int .i64 0, .int .i64 0] 2)).alloc o').cell? ⟨wr.heap.size + 1, d, none⟩ = some (.int .i64 (dirX d)) := fun o o' => by have e := (((Bk.new (wr.alloc o) 2 _).alloc o').cell d).trans lx0; rwa [sz1] at e
            have lya : (wr.alloc (.cells #[.int .i64 0, .int .i64 0, .int .i64 1, .int .i64 (-1)] 2)).cell? ⟨wr.heap.size, d, none⟩ = some (.int .i64 (dirY d)) := ((Bk.new wr 2 _).cell d).trans ly0
            have lyb : ∀ o, ((wr.alloc o).alloc (.cells #[.int .i64 0, .int .i64 0, .int .i64 1, .int .i64 (-1)] 2)).cell? ⟨wr.heap.size + 1, d, none⟩ = some (.int .i64 (dirY d)) := fun o => by have e := ((Bk.new (wr.alloc o) 2 _).cell d).trans ly0; rwa [sz1] at e
            have lyc : ∀ o o', (((wr.alloc o).alloc o').alloc (.cells #[.int .i64 0, .int .i64 0, .int .i64 1, .int .i64 (-1)] 2)).cell? ⟨wr.heap.size + 1 + 1, d, none⟩ = some (.int .i64 (dirY d)) := fun o o' => by have e := ((Bk.new ((wr.alloc o).alloc o') 2 _).cell d).trans ly0; rwa [sz2] at e
            have lyd : ∀ o, ((wr.alloc (.cells #[.int .i64 0, .int .i64 0, .int .i64 1, .int .i64 (-1)] 2)).alloc o).cell? ⟨wr.heap.size, d, none⟩ = some (.int .i64 (dirY d)) := fun o => (((Bk.new wr 2 _).alloc o).cell d).trans ly0
            have lye : ∀ o o', (((wr.alloc (.cells #[.int .i64 0, .int .i64 0, .int .i64 1, .int .i64 (-1)] 2)).alloc o).alloc o').cell? ⟨wr.heap.size, d, none⟩ = some (.int .i64 (dirY d)) := fun o o' => ((((Bk.new wr 2 _).alloc o).alloc o').cell d).trans ly0
            have lyf : ∀ o o', (((wr.alloc o).alloc (.cells #[.int .i64 0, .int .i64 0, .int .i64 1, .int .i64 (-1)] 2)).alloc o').cell? ⟨wr.heap.size + 1, d, none⟩ = some (.int .i64 (dirY d)) := fun o o' => by have e := (((Bk.new (wr.alloc o) 2 _).alloc o').cell d).trans ly0; rwa [sz1] at e
            have t1 := fun o => (Below.refl wr.heap.size wr).alloc (Nat.le_refl _) o
            have t2 := fun o o' => (t1 o).alloc (by simp) o'
            have t3 := fun o o' o'' => (t2 o o').alloc (by simp; omega) o''
            have k1 := fun o => ((t1 o).cell (p := ⟨gq, i * 2, none⟩) hgq).trans f0
            have k2 := fun o o' => ((t2 o o').cell (p := ⟨gq, i * 2, none⟩) hgq).trans f0
            have k3 := fun o o' o'' => ((t3 o o' o'').cell (p := ⟨gq, i * 2, none⟩) hgq).trans f0
            have q1 := fun o => ((t1 o).cell (p := ⟨gq, i * 2 + 1, none⟩) hgq).trans f1
            have q2 := fun o o' => ((t2 o o').cell (p := ⟨gq, i * 2 + 1, none⟩) hgq).trans f1
            have q3 := fun o o' o'' => ((t3 o o' o'').cell (p := ⟨gq, i * 2 + 1, none⟩) hgq).trans f1
            have fQ : ∀ o o' o'', PL (((wr.alloc o).alloc o').alloc o'').drew 175 w.heap.size (.slice (some ⟨gq, 0, none⟩) qs.length c2) (qs.map pairI) := fun o o' o'' => ((hQ2.alloc o).alloc o').alloc o''
            have fO : ∀ o o' o'', GB (((wr.alloc o).alloc o').alloc o'').drew w.heap.size 4 (setL qs) := fun o o' o'' => ((hO2.alloc o).alloc o').alloc o''
            have fL : ∀ o o' o'', GB (((wr.alloc o).alloc o').alloc o'').drew gv 4 L := fun o o' o'' => ((hL2.alloc o).alloc o').alloc o''
            have fB : ∀ o o' o'', Below w.heap.size w (((wr.alloc o).alloc o').alloc o'').drew := fun o o' o'' => (hb2.trans ((t3 o o' o'').mono hszr)).drew
            have p0 : ∀ o o', Bk (((wr.alloc (.cells #[.int .i64 (xj + dirX d), .int .i64 (yj + dirY d)] 175)).alloc o).alloc o').drew wr.heap.size 175 #[.int .i64 (xj + dirX d), .int .i64 (yj + dirY d)] := fun o o' => ((Bk.new wr 175 _).alloc o).alloc o'
            have p1 : ∀ o o', Bk (((wr.alloc o).alloc (.cells #[.int .i64 (xj + dirX d), .int .i64 (yj + dirY d)] 175)).alloc o').drew (wr.heap.size + 1) 175 #[.int .i64 (xj + dirX d), .int .i64 (yj + dirY d)] := fun o o' => by have e := (Bk.new (wr.alloc o) 175 #[.int .i64 (xj + dirX d), .int .i64 (yj + dirY d)]).alloc o'; rw [sz1] at e; exact e
            have p2 : ∀ o o', Bk (((wr.alloc o).alloc o').alloc (.cells #[.int .i64 (xj + dirX d), .int .i64 (yj + dirY d)] 175)).drew (wr.heap.size + 1 + 1) 175 #[.int .i64 (xj + dirX d), .int .i64 (yj + dirY d)] := fun o o' => by have e := Bk.new ((wr.alloc o).alloc o') 175 #[.int .i64 (xj + dirX d), .int .i64 (yj + dirY d)]; rw [sz2] at e; exact e
            have FQ := Lib.hid fQ
            have FO := Lib.hid fO
            have FL := Lib.hid fL
            have FB := Lib.hid fB
            have P0 := Lib.hid p0
            have P1 := Lib.hid p1
            have P2 := Lib.hid p2
            have hn0 : w.heap.size < wr.heap.size := hgs
            clear t1 t2 t3 hd4' lx0 ly0 fQ fO fL fB p0 p1 p2 hQ2 hO2 hL2 hb2 sz1 sz2 hgs
            go_region
            all_goals
              go_wp2_with fail
              go_meet
              first
                | exact ⟨rfl, rfl, rfl, ⟨_, rfl, hn0, P0.out _ _⟩, FQ.out _ _ _, FO.out _ _ _, FL.out _ _ _, FB.out _ _ _⟩
                | exact ⟨rfl, rfl, rfl, ⟨_, rfl, Nat.lt_succ_of_lt hn0, P1.out _ _⟩, FQ.out _ _ _, FO.out _ _ _, FL.out _ _ _, FB.out _ _ _⟩
                | exact ⟨rfl, rfl, rfl, ⟨_, rfl, Nat.lt_succ_of_lt (Nat.lt_succ_of_lt hn0), P2.out _ _⟩, FQ.out _ _ _, FO.out _ _ _, FL.out _ _ _, FB.out _ _ _⟩
          case rest =>
            obtain ⟨rfl, rfl, rfl, ⟨pb, rfl, hpb, hP⟩, hQ3, hO3, hL3, hb3⟩ := hcut
            have hX0 : xj + dirX d = ((j % 80 : Nat) : Int) - 40 + dirX d := by rw [Hx.out]
            have hY0 : yj + dirY d = ((j / 80 : Nat) : Int) - 40 + dirY d := by rw [Hy.out]
            have hXb : -1000 ≤ xj + dirX d ∧ xj + dirX d ≤ 1000 ∧ -1000 ≤ yj + dirY d ∧ yj + dirY d ≤ 1000 := by omega
            generalize xj + dirX d = X at *
            generalize yj + dirY d = Y at *
            have HX := Lib.hid hX0
            have HY := Lib.hid hY0
            have hgs3 := hO3.lt
            obtain ⟨c0, c1⟩ := box2 hP
            clear hX0 hY0 hQ2 hO2 hL2 hb2 f0 f1 hwx hwy hdx hdy
            go_wp2_with fail
            refine (l17Cell_any _ L X Y _ ⟨gv, cv, rfl, Nat.zero_le _, hL3⟩).mono ?_
            rintro e w5 ⟨rfl, rfl⟩
            by_cases hin : hasG L X Y = true
            · rw [hin]
              have hc4 := hasG_in hin
              have hon4 : onC X Y = true := (onC_iff X Y).2 hc4
              have hi4 : 0 ≤ ix X Y ∧ ix X Y < 6400 := by unfold ix; omega
              have hLm : L (ix X Y).toNat = true := (hasG_on hon4).symm.trans hin
              have cs := hO3.ix_ hon4
              have Hon4 := Lib.hid hon4
              by_cases hse : setL qs (ix X Y).toNat = true
              · rw [hse] at cs
                have H4 := Lib.hid (show Srch L s qs ∧ Done L qs i ∧ qs[i]? = some j ∧ VisD L qs j (d + 1) from ⟨H2.out.1, H2.out.2.1, H2.out.2.2.1, visd_off H2.out.2.2.2 HX.out HY.out (.inr ((setL_iff qs _).1 hse))⟩)
                clear hin hon4 hLm hse H2 HD
                go_wp2_with (go_at_call 158; refine (l17At_any X Y hXb _).mono ?_; rintro e w6 ⟨rfl, rfl⟩)
                exact ⟨⟨d + 1, qs, by omega, by go_num, H4, hQ3, hO3, hL3, hb3⟩, by simp [intOf]; omega⟩
              · have hse' : setL qs (ix X Y).toNat = false := by simpa using hse
                rw [hse'] at cs
                have hjq : j ∈ qs := List.mem_of_getElem? H2.out.2.2.1
                obtain ⟨hn, hm6⟩ := dir_nbr hltd HX.out HY.out hon4
                have H4 := Lib.hid (show Srch L s (qs ++ [(ix X Y).toNat]) ∧ Done L (qs ++ [(ix X Y).toNat]) i ∧ (qs ++ [(ix X Y).toNat])[i]? = some j ∧ VisD L (qs ++ [(ix X Y).toNat]) j (d + 1) from
                  ⟨srch_put H2.out.1 hjq hn hm6 hLm hse', done_put H2.out.2.1 (Nat.le_of_lt hi2) _, by rw [List.getElem?_append_left hi2]; exact H2.out.2.2.1,
                    visd_off (visd_put H2.out.2.2.2 _) HX.out HY.out (.inr (by simp))⟩)
                have hne : some w.heap.size ≠ (Value.slice (some ⟨gq, 0, none⟩) qs.length c2).ownBlock := by obtain ⟨cs, hk, _⟩ := hO3; exact hk.apart' hQ3 (by decide)
                have hzO := hO3.frozen (ix X Y).toNat
                have hst := hO3.store hm6 true
                rw [← setL_snoc] at hst
                have hQ4 := hQ3.other (p := ⟨w.heap.size, (ix X Y).toNat, none⟩) hne (.bool true)
                have hL4 := hL3.other (p := ⟨w.heap.size, (ix X Y).toNat, none⟩) (show gv ≠ w.heap.size by omega) (.bool true)
                have hb4 := hb3.setCell (p := ⟨w.heap.size, (ix X Y).toNat, none⟩) (Nat.le_refl _) (.bool true)
                have hsz := hb4.size
                have Hs3 := Lib.hid (show (wc.setCell ⟨w.heap.size, (ix X Y).toNat, none⟩ (.bool true)).heap.size = wc.heap.size by simp)
                have Hm := Lib.hid (show (qs ++ [(ix X Y).toNat]).map pairI = qs.map pairI ++ [(X, Y)] by rw [List.map_append, List.map_cons, List.map_nil, pairI_ix hon4])
                have hlq : (qs.map pairI).length ≤ 1000000 := by rw [List.length_map]; omega
                obtain ⟨p0, p1⟩ := box2 (hP.other (p := ⟨w.heap.size, (ix X Y).toNat, none⟩) (show pb ≠ w.heap.size by omega) (.bool true))
                clear hin hon4 hLm hse hse' H2 HD hn hjq hO3 hQ3 hL3 hb3 hP
                go_wp2_with (first | (go_at_call 158; refine (l17At_any X Y hXb _).mono ?_; rintro e w6 ⟨rfl, rfl⟩)
                                   | (at_builtin; refine wpList_append_P rfl (.tmp 79) (.tmp 81) rfl w.heap.size _ (qs.map pairI) rfl hQ4 X Y (by rw [Hs3.out]; rfl) hlq hsz ?_; intro v' w' k1 k2 k3 k4))
                rw [← Hm.out] at k1
                exact ⟨⟨d + 1, qs ++ [(ix X Y).toNat], by omega, by go_num, H4, k1, hst.grown k2 hne, hL4.keptQ hQ4 (by decide) k2, hb4.trans k3⟩, by simp [intOf]; omega⟩
            · have hin' : hasG L X Y = false := by simpa using hin
              rw [hin']
              have H4 := Lib.hid (show Srch L s qs ∧ Done L qs i ∧ qs[i]? = some j ∧ VisD L qs j (d + 1) from ⟨H2.out.1, H2.out.2.1, H2.out.2.2.1, visd_off H2.out.2.2.2 HX.out HY.out (.inl hin')⟩)
              clear hin hin' H2 HD
              go_wp2
              exact ⟨⟨d + 1, qs, by omega, by go_num, H4, hQ3, hO3, hL3, hb3⟩, by simp [intOf]; omega⟩
        · have hde : d = 4 := by omega
          subst hde
          obtain ⟨h1, h2, h3, h4⟩ := H2.out
          have hd := Lib.hid (done_step h2 h3 (visd_four h4))
          have hs1 := Lib.hid h1
          have hi1 : i + 1 ≤ qs.length := (List.getElem?_eq_some_iff.1 h3).1
          have hl6 := srch_len h1
          clear h1 h2 h3 h4 H2
          go_wp2
          exact ⟨⟨i + 1, qs, hi1, by go_num, hs1.out, hd.out, hQ2, hO2, hL2, hb2⟩, by simp [intOf]; omega⟩
    · have hie : i = qs0.length := by omega
      have hfin : setL qs0 = compG L s := srch_end hS (hie ▸ hD)
      have hon6 := hS.on
      clear hS hD
      go_wp2
      go_ret
      exact ⟨_, qs0, rfl, hQ, by rw [← Hs.out]; exact hfin, hon6, hb⟩

end Go.Proofs.YtbljapihmkmolaaGreat
