/- Contracts: the reference's l07Parts, l07Components, ComponentCount, IsConnected, IsValidViolation. No conditions. -/
import Derived.Test.YtbljapihmkmolaaGreatPartsV
import Derived.Test.YtbljapihmkmolaaGreatCompsS
import Derived.Test.YtbljapihmkmolaaGreatVioOk
namespace Go.Proofs.YtbljapihmkmolaaGreat
open Go.RowKit

theorem parts_start (G : Gr) : comps G = [] ++ compsF (minusG G emptyG) (ix (-40) (-40)).toNat := by
  have e : (ix (-40) (-40)).toNat = 0 := by unfold ix; omega
  rw [e, minus_empty, List.nil_append, comps]

set_option maxHeartbeats 12800000 in
set_option maxRecDepth 100000 in
/-- l07Parts, over sides. -/
theorem parts7_any (v : Value) (G : Gr) (w : World) (hGS : GS w 0 v G) :
    Calls Tryz.prog 175 #[v, .bool false] w fun e w' => ∃ u, e = .returned u ∧ GSL w' w.heap.size u (comps G) ∧ Below w.heap.size w w' := by
  obtain ⟨gv, cv, rfl, -, hG⟩ := hGS
  have hg := hG.lt
  have hmk := run_make_6400
  have e1 : (w.alloc (.cells #[] 135)).heap.size = w.heap.size + 1 := by simp
  have g0 := GB.made (w.alloc (.cells #[] 135)) 4
  rw [e1] at g0
  have o0 := GSM.alloc (GSM.lit0 w (B := w.heap.size) (N := w.heap.size) (M := w.heap.size) (Nat.le_refl _)) (.cells noCells 4)
  have G0 := (hG.alloc (.cells #[] 135)).alloc (.cells noCells 4)
  have b0 := ((Below.refl w.heap.size w).alloc (Nat.le_refl _) (.cells #[] 135)).alloc (by simp) (.cells noCells 4)
  have d0 : GS ((w.alloc (.cells #[] 135)).alloc (.cells noCells 4)) w.heap.size (.slice (some ⟨w.heap.size + 1, 0, none⟩) 6400 6400) emptyG := ⟨_, _, rfl, Nat.le_succ _, g0⟩
  have Hc0 := Lib.hid (show comps G = [] ++ compsF (minusG G emptyG) (ix (-40) (-40)).toNat ∧ Whole G emptyG from ⟨parts_start G, whole_empty G⟩)
  have hCl := comps_length G
  have hsz0 : w.heap.size ≤ ((w.alloc (.cells #[] 135)).alloc (.cells noCells 4)).heap.size := by simp; omega
  have o1 := o0.more hsz0
  clear hG g0 o0 e1 hsz0
  go_enter Tryz.func175, Tryz.ntmps175
  go_wp2
  clear hmk
  go_loopw [5, 6, 7] (fun ov dv yv wr => ∃ (y : Int) (D : Gr) (found : List Gr), -40 ≤ y ∧ y ≤ 40 ∧ yv = .int .i64 y ∧ Hid (comps G = found ++ compsF (minusG G D) (ix (-40) y).toNat ∧ Whole G D) ∧ GSM wr w.heap.size w.heap.size wr.heap.size ov found ∧ GS wr w.heap.size dv D ∧ GB wr gv 4 G ∧ Below w.heap.size w wr) (fun _ _ yv _ => (40 - intOf yv).toNat)
  case atStart => exact ⟨-40, emptyG, [], by omega, by omega, rfl, Hc0, o1, d0, G0, b0⟩
  case round =>
    obtain ⟨y, D0, found0, hy1, hy2, rfl, HC0, hO0, hD0, hG0, hb0⟩ := hrel
    clear o1 d0 G0 b0 Hc0
    by_cases hlty : y < 40
    · go_wp2
      go_loopw [5, 6, 8] (fun ov dv xv wr => ∃ (x : Int) (D : Gr) (found : List Gr), -40 ≤ x ∧ x ≤ 40 ∧ xv = .int .i64 x ∧ Hid (comps G = found ++ compsF (minusG G D) (ix x y).toNat ∧ Whole G D) ∧ GSM wr w.heap.size w.heap.size wr.heap.size ov found ∧ GS wr w.heap.size dv D ∧ GB wr gv 4 G ∧ Below w.heap.size w wr) (fun _ _ xv _ => (40 - intOf xv).toNat)
      case atStart => exact ⟨-40, D0, found0, by omega, by omega, rfl, HC0, hO0, hD0, hG0, hb0⟩
      case round =>
        obtain ⟨x, D, found, hx1, hx2, rfl, HC, hO, hD, hG, hb⟩ := hrel
        clear hO0 hD0 hG0 hb0 HC0
        by_cases hltx : x < 40
        · have hon : onC x y = true := (onC_iff x y).2 (by omega)
          have hi6 := (ix_nat hon).2
          rw [← (ix_nat hon).1] at hi6
          have hi4 : 0 ≤ ix x y ∧ ix x y < 6400 := by unfold ix; omega
          have Hnx := Lib.hid (show (ix (x + 1) y).toNat = (ix x y).toNat + 1 by unfold ix; omega)
          obtain ⟨db, dc, rfl, hdb, hDB⟩ := hD
          have cs := hG.ix_ hon
          have cd := hDB.ix_ hon
          have Hon := Lib.hid hon
          clear hon
          by_cases hin : G (ix x y).toNat = true
          · by_cases hdn : D (ix x y).toNat = true
            · rw [hin] at cs
              rw [hdn] at cd
              have HC2 := Lib.hid (show comps G = found ++ compsF (minusG G D) (ix (x + 1) y).toNat ∧ Whole G D from ⟨by rw [Hnx.out]; exact HC.out.1.trans (congrArg _ (parts_no hi6 (.inr hdn))), HC.out.2⟩)
              clear hin hdn HC
              go_wp2_with (go_at_call 156; refine (l03At_any x y (by omega) _).mono ?_; rintro e w4 ⟨rfl, rfl⟩)
              exact ⟨⟨x + 1, D, found, by omega, by omega, by go_num, HC2, hO, ⟨db, dc, rfl, hdb, hDB⟩, hG, hb⟩, by simp [intOf]; omega⟩
            · have hdn' : D (ix x y).toNat = false := by simpa using hdn
              rw [hin] at cs
              rw [hdn'] at cd
              have HC2 := Lib.hid (show comps G = (found ++ [compG G (ix x y).toNat]) ++ compsF (minusG G (unionG D (compG G (ix x y).toNat))) (ix (x + 1) y).toNat ∧ Whole G (unionG D (compG G (ix x y).toNat)) from
                ⟨by rw [Hnx.out, List.append_assoc]; exact HC.out.1.trans (congrArg _ (parts_yes HC.out.2 hi6 hin hdn')), whole_put HC.out.2⟩)
              clear hin hdn hdn' HC
              obtain ⟨Ao, co, hvo, -, -⟩ := hO.form
              subst hvo
              go_upto_region 10 with (go_at_call 156; refine (l03At_any x y (by omega) _).mono ?_; rintro e w4 ⟨rfl, rfl⟩)
              clear cs cd
              go_wp2_with fail
              refine (flood7_any gv cv G x y _ hG Hon.out).mono ?_
              rintro e w5 ⟨z, rfl, hZ, hb5⟩
              generalize compG G (ix x y).toNat = P at *
              obtain ⟨gz, cz, rfl, hgz, hZB⟩ := hZ
              replace hO := (hO.on hb5).more hb5.size
              replace hDB := hDB.on hb5
              replace hG := hG.on hb5
              have hzl := hZB.lt
              have hgz' : w.heap.size ≤ gz := by have := hb.size; omega
              replace hb := hb.trans (hb5.mono hb.size)
              clear hb5
              go_wp2_with fail
              refine (combine_any (.slice (some ⟨db, 0, none⟩) 6400 dc) (.slice (some ⟨gz, 0, none⟩) 6400 cz) 14 (.inl rfl) D P _ ⟨_, _, rfl, Nat.zero_le _, hDB⟩ ⟨_, _, rfl, Nat.zero_le _, hZB⟩).mono ?_
              rintro e w6 ⟨z6, rfl, hZ6, hb6⟩
              rw [tab14] at hZ6
              obtain ⟨g6, c6, rfl, hg6, hZB6⟩ := hZ6
              replace hO := (hO.on hb6).more (M' := w5.heap.size) (Nat.le_refl _)
              replace hZB := hZB.on hb6
              replace hG := hG.on hb6
              have hszb := hb.size
              replace hb := hb.trans (hb6.mono hb.size)
              have hbz := hb.size
              have hz65 := hb6.size
              have hdl : found.length ≤ 6400 := by have := congrArg List.length HC2.out.1; simp only [List.length_append, List.length_cons] at this; omega
              clear hb6 hDB
              go_wp2_with (at_builtin; refine wpList_append_GSM rfl (.tmp 45) (.tmp 47) rfl w.heap.size w.heap.size w5.heap.size _ found rfl hO gz cz P hgz' hzl hZB rfl (by omega) hbz ?_; intro v' w' k1 k2 k3)
              exact ⟨⟨x + 1, _, _, by omega, by omega, by go_num, HC2, k1.more (by have := k3.size; omega), ⟨g6, c6, rfl, by omega, k2 _ _ hZB6⟩, k2 _ _ hG, hb.trans k3⟩, by simp [intOf]; omega⟩
          · have hin' : G (ix x y).toNat = false := by simpa using hin
            rw [hin'] at cs
            have HC2 := Lib.hid (show comps G = found ++ compsF (minusG G D) (ix (x + 1) y).toNat ∧ Whole G D from ⟨by rw [Hnx.out]; exact HC.out.1.trans (congrArg _ (parts_no hi6 (.inl hin'))), HC.out.2⟩)
            clear hin hin' HC
            go_wp2_with (go_at_call 156; refine (l03At_any x y (by omega) _).mono ?_; rintro e w4 ⟨rfl, rfl⟩)
            exact ⟨⟨x + 1, D, found, by omega, by omega, by go_num, HC2, hO, ⟨db, dc, rfl, hdb, hDB⟩, hG, hb⟩, by simp [intOf]; omega⟩
        · have hxe : x = 40 := by omega
          subst hxe
          have e : (ix 40 y).toNat = (ix (-40) (y + 1)).toNat := by unfold ix; omega
          have HC2 := Lib.hid (show comps G = found ++ compsF (minusG G D) (ix (-40) (y + 1)).toNat ∧ Whole G D from by rw [← e]; exact HC.out)
          clear e HC
          go_wp2
          exact ⟨⟨y + 1, D, found, by omega, by omega, by go_num, HC2, hO, hD, hG, hb⟩, by simp [intOf]; omega⟩
    · have hye : y = 40 := by omega
      subst hye
      have hfin : comps G = found0 := by rw [HC0.out.1, compsF_end (by unfold ix; omega), List.append_nil]
      go_wp2
      go_ret
      exact ⟨_, rfl, hfin ▸ hO0.list (Nat.le_refl _), hb0⟩

/-- A list of sets is kept by an append to a list of lists of rectangles. -/
theorem GSL.keptL {w w' : World} {B B2 : Nat} {v v2 : Value} {Gs : List Gr} {rss : List (List Rc)} (h : GSL w B v Gs) (ho : RLL w B2 v2 rss) (hg : w.grownBy w' v2.ownBlock) : GSL w' B v Gs := by
  obtain ⟨vs, h1, h2, h3⟩ := h
  obtain ⟨us, k1, _, _⟩ := ho
  exact ⟨vs, World.ownsRow.kept h1 hg (own_apart h1 k1 (by decide)), h2, fun k u G hu hG => (h3 k u G hu hG).kept k1 (by decide) hg⟩

set_option maxHeartbeats 1600000 in
set_option maxRecDepth 100000 in
/-- l07Components. -/
theorem comps7_any (v : Value) (rs : List Rc) (w : World) (hv : RL w 0 v rs) (hok : okAll rs = true) :
    Calls Tryz.prog 131 #[v] w fun e w' => ∃ u, e = .returned u ∧ RLL w' w.heap.size u ((comps (cellsG rs)).map canon) ∧ Below w.heap.size w w' := by
  have o0 := RLL.lit0 w (B := w.heap.size) (Nat.le_refl _)
  have b0 := (Below.refl w.heap.size w).alloc (Nat.le_refl _) (.cells #[] 26)
  have hv0 := RL.alloc hv (.cells #[] 26)
  clear hv
  go_enter Tryz.func131, Tryz.ntmps131
  go_wp2_with fail
  refine (l03Bits_any v rs _ hv0 hok).mono ?_
  rintro e w1 ⟨z, rfl, hG, hb1⟩
  have o1 := o0.on hb1
  have b1 := b0.trans (hb1.mono b0.size)
  generalize hG' : cellsG rs = G at *
  have HG := Lib.hid hG'
  clear hv0 o0 b0 hb1 hG'
  go_wp2_with fail
  refine (parts7_any z G _ (GS.less hG (Nat.zero_le _))).mono ?_
  rintro e w2 ⟨u, rfl, hU, hb2⟩
  have o2 := o1.on hb2
  have b2 := b1.trans (hb2.mono b1.size)
  replace hU := hU.less (Nat.zero_le _)
  clear hG o1 b1 hb2
  obtain ⟨A, c, rfl, hc, hm⟩ := hU.form
  have hlen := comps_length G
  have hm' : (comps G).length ≤ 9223372036854775807 := by omega
  generalize hGs : comps G = Gs at *
  have HGs := Lib.hid hGs
  clear hGs
  go_wp2
  go_loopw [3, 5] (fun ov iv wr => ∃ k : Nat, k ≤ Gs.length ∧ iv = .int .i64 k ∧ RLL wr w.heap.size ov ((Gs.map canon).take k) ∧ GSL wr 0 (.slice A Gs.length c) Gs ∧ Below w.heap.size w wr) (fun _ iv _ => Gs.length - (intOf iv).toNat)
  case atStart => exact ⟨0, Nat.zero_le _, rfl, o2, hU, b2⟩
  case round =>
    obtain ⟨k, hk, rfl, hO, hU, hb⟩ := hrel
    clear o2 b2
    by_cases hlt : k < Gs.length
    · obtain ⟨g, u, P, rfl, hP, hg, f0, hGu⟩ := hU.elem (k := k) hlt
      obtain ⟨Ao, co, hvo, -, -⟩ := hO.form
      have Hlo := Lib.hid (show ((Gs.map canon).take k).length ≤ 1000000 by rw [List.length_take, List.length_map]; omega)
      rw [List.length_take, List.length_map, Nat.min_eq_left hk] at hvo
      subst hvo
      have Hst := Lib.hid (show (Gs.map canon).take (k + 1) = (Gs.map canon).take k ++ [canon P] by rw [List.take_add_one, List.getElem?_map, hP]; rfl)
      have hk9 : k < 9223372036854775807 := by omega
      clear hP
      go_wp2_with fail
      refine (l03Canon_any u P _ (GS.less hGu (Nat.zero_le _))).mono ?_
      rintro e w3 ⟨z3, rfl, hR3, hb3⟩
      replace hO := hO.on hb3
      replace hU := hU.on hb3
      have hR3' := hR3.less hb.size
      replace hb := hb.trans (hb3.mono hb.size)
      have hs := hb.size
      clear hb3 hR3 hGu f0
      obtain ⟨A3, c3, rfl, -, -, -⟩ := hR3'.form
      go_wp2_with (at_builtin; refine wpList_append_RLL rfl (.tmp 16) (.tmp 22) rfl w.heap.size _ ((Gs.map canon).take k) rfl hO _ (canon P) hR3' rfl Hlo.out hs ?_; intro v' w' k1 k2 k3)
      rw [← Hst.out] at k1
      exact ⟨⟨k + 1, by omega, by go_num, k1, hU.keptL hO k2, hb.trans k3⟩, by simp [intOf]; omega⟩
    · have hke : k = Gs.length := by omega
      subst hke
      rw [List.take_of_length_le (by rw [List.length_map]; exact Nat.le_refl _)] at hO
      go_wp2
      go_ret
      refine ⟨_, rfl, ?_, hb⟩
      rw [HG.out, HGs.out]
      exact hO

end Go.Proofs.YtbljapihmkmolaaGreat
