/- Contracts: the program's ClipRegion; the reference's RuleReach. Plain law: what a local rule marks depends on the near cells alone. No conditions. -/
import Derived.Test.YtbljapihmkmolaaGreatTurn3
import Derived.Test.YtbljapihmkmolaaGreatCovA
import Derived.Test.YtbljapihmkmolaaGreatRuleA
namespace Go.Proofs.YtbljapihmkmolaaGreat
open Go.RowKit

def clipL (rs : List Rc) (b : Rc) : List Rc := canon (cellsG (rs.map fun r => commonR r b))
def clipV (rs : List Rc) (b : Rc) : List Rc := if isReg rs = true ∧ okRc b = true then clipL rs b else []
theorem clipV_yes {rs : List Rc} {b : Rc} (h : isReg rs = true) (hb : okRc b = true) : clipV rs b = clipL rs b := if_pos ⟨h, hb⟩
theorem clipV_no1 {rs : List Rc} {b : Rc} (h : isReg rs = false) : clipV rs b = [] := if_neg (by rw [h]; simp)
theorem clipV_no2 {rs : List Rc} {b : Rc} (h : okRc b = false) : clipV rs b = [] := if_neg (by rw [h]; simp)
theorem clip_step {mt : Rc → Rc} {rs : List Rc} {k : Nat} {r : Rc} (hr : rs[k]? = some r) : cellsG ((rs.take (k + 1)).map mt) = orR (cellsG ((rs.take k).map mt)) (mt r) := by
  rw [List.take_add_one, hr, Option.toList, List.map_append, List.map_cons, List.map_nil, cellsG_snoc]

set_option maxHeartbeats 1600000 in
set_option maxRecDepth 100000 in
/-- ClipRegion. -/
theorem clip_impl (v : Value) (rs : List Rc) (bx : Rc) (w : World) (hv : RL w 0 v rs) : Calls Tryz.prog 46 #[v, bx.val] w fun e w' => ∃ u, e = .returned u ∧ RL w' w.heap.size u (clipV rs bx) ∧ Below w.heap.size w w' := by
  obtain ⟨A, c, rfl, hc, hm, -⟩ := hv.form
  have hm' : rs.length ≤ 9223372036854775807 := by unfold maxLen at hm; omega
  obtain ⟨x0, y0, x1, y1⟩ := bx
  have zb := Bk.new w 80 #[.int .i64 x0, .int .i64 y0, .int .i64 x1, .int .i64 y1]
  have hb0 := (Below.refl w.heap.size w).alloc (Nat.le_refl _) (.cells #[.int .i64 x0, .int .i64 y0, .int .i64 x1, .int .i64 y1] 80)
  have hv0 := RL.alloc hv (.cells #[.int .i64 x0, .int .i64 y0, .int .i64 x1, .int .i64 y1] 80)
  clear hv
  cases h1 : isReg rs with
  | false =>
    rw [clipV_no1 h1]
    unfold Rc.val
    dsimp only
    go_enter Tryz.func46, Tryz.ntmps46
    go_wp2_with fail
    refine (isRegion_any _ rs _ hv0).mono ?_
    rintro e w1 ⟨rfl, hb1⟩
    rw [h1]
    go_wp2
    go_ret
    exact ⟨_, rfl, RL.nil _ _, hb0.trans (hb1.mono hb0.size)⟩
  | true =>
  have H1 := Lib.hid h1
  clear h1
  cases h2 : okRc ⟨x0, y0, x1, y1⟩ with
  | false =>
    rw [clipV_no2 h2]
    have H2 := Lib.hid h2
    clear h2
    unfold Rc.val
    dsimp only
    go_enter Tryz.func46, Tryz.ntmps46
    go_wp2_with fail
    refine (isRegion_any _ rs _ hv0).mono ?_
    rintro e w1 ⟨rfl, hb1⟩
    rw [H1.out]
    have z1 := zb.on hb1
    have b1 := hb0.trans (hb1.mono hb0.size)
    obtain ⟨c0, c1, c2, c3⟩ := box4 z1
    go_wp2_with fail
    refine (valid_impl ⟨x0, y0, x1, y1⟩ _).mono ?_
    rintro e w2 ⟨rfl, hb2⟩
    rw [H2.out]
    clear c0 c1 c2 c3
    go_wp2
    go_ret
    exact ⟨_, rfl, RL.nil _ _, b1.trans (hb2.mono b1.size)⟩
  | true =>
  rw [clipV_yes H1.out h2]
  have H2 := Lib.hid h2
  clear h2
  unfold Rc.val
  dsimp only
  go_enter Tryz.func46, Tryz.ntmps46
  go_wp2_with fail
  refine (isRegion_any _ rs _ hv0).mono ?_
  rintro e w1 ⟨rfl, hb1⟩
  rw [H1.out]
  have z1 := zb.on hb1
  have v1 := hv0.on hb1
  have b1 := hb0.trans (hb1.mono hb0.size)
  obtain ⟨c0, c1, c2, c3⟩ := box4 z1
  go_wp2_with fail
  refine (valid_impl ⟨x0, y0, x1, y1⟩ _).mono ?_
  rintro e w2 ⟨rfl, hb2⟩
  rw [H2.out]
  have z2 := z1.on hb2
  have v2 := v1.on hb2
  have b2 := b1.trans (hb2.mono b1.size)
  clear c0 c1 c2 c3 zb hv0 hb0 z1 v1 b1 hb1 hb2
  have g0 := GB.zero w2 126
  have z3 := z2.alloc (.cells Tryz.zeroCells126 126)
  have v3 := Lib.hid (RL.alloc v2 (.cells Tryz.zeroCells126 126))
  have b3 := b2.alloc b2.size (.cells Tryz.zeroCells126 126)
  have hs2 := b2.size
  have hzl := z2.lt
  have c3 := (Below.refl w2.heap.size w2).alloc (Nat.le_refl _) (.cells Tryz.zeroCells126 126)
  have V2 := Lib.hid v2
  have Z2 := Lib.hid z2
  clear z2 v2 z3 v3 b3
  go_wp2
  go_loopw [20] (fun i wr => ∃ k : Nat, k ≤ rs.length ∧ i = .int .i64 k ∧ GB wr w2.heap.size 126 (cellsG ((rs.take k).map fun r => commonR r ⟨x0, y0, x1, y1⟩)) ∧ Below w2.heap.size w2 wr) (fun i _ => rs.length - (intOf i).toNat)
  case atStart => exact ⟨0, Nat.zero_le _, rfl, g0, c3⟩
  case round =>
    obtain ⟨k, hk, rfl, hG, hb⟩ := hrel
    clear g0 c3
    by_cases hlt : k < rs.length
    · obtain ⟨g, a0, a1, a2, a3, rfl, hr, hg, f0, f1, f2, f3⟩ := (V2.out.on hb).elem hlt
      have Hr := Lib.hid hr
      clear hr
      have hZ := Z2.out.on hb
      have y4 := Bk.new wr 80 #[.int .i64 a0, .int .i64 a1, .int .i64 a2, .int .i64 a3]
      have hG4 := hG.alloc (.cells #[.int .i64 a0, .int .i64 a1, .int .i64 a2, .int .i64 a3] 80)
      have hZ4 := hZ.alloc (.cells #[.int .i64 a0, .int .i64 a1, .int .i64 a2, .int .i64 a3] 80)
      have hb4 := hb.alloc hb.size (.cells #[.int .i64 a0, .int .i64 a1, .int .i64 a2, .int .i64 a3] 80)
      obtain ⟨p0, p1, p2, p3⟩ := box4 y4
      obtain ⟨q0, q1, q2, q3⟩ := box4 hZ4
      go_wp2_with fail
      refine (common_any ⟨a0, a1, a2, a3⟩ ⟨x0, y0, x1, y1⟩ _).mono ?_
      rintro e w5 ⟨rfl, hb5⟩
      have hG5 := hG4.on hb5
      have hb5' := hb4.trans (hb5.mono hb4.size)
      clear p0 p1 p2 p3 q0 q1 q2 q3 hG4 hZ4 hb4 hZ hG
      go_wp2_with fail
      refine (put_any _ _ (commonR ⟨a0, a1, a2, a3⟩ ⟨x0, y0, x1, y1⟩) _ hG5).mono ?_
      rintro e w6 ⟨rfl, hG6, hO6⟩
      go_wp2
      exact ⟨⟨k + 1, by omega, by go_num, hG6.cong (clip_step Hr.out).symm, only_far hb5' hO6 hb5'.size (Nat.le_refl _)⟩, by simp [intOf]; omega⟩
    · have hke : k = rs.length := by omega
      subst hke
      rw [List.take_length] at hG
      go_wp2_with fail
      refine (region_any _ _ _ hG).mono ?_
      rintro e w5 ⟨u, rfl, hU, hb5⟩
      go_wp2
      go_ret
      exact ⟨_, rfl, hU.less (Nat.le_trans hs2 hb.size), (b2.trans (hb.mono hs2)).trans (hb5.mono (Nat.le_trans hs2 hb.size))⟩

/-- How far a local rule reaches; -1: it is none. -/
def reachV (r : Ru) : Int := if ruleB r = true ∧ r.k ≤ 3 then r.v else -1
set_option maxHeartbeats 800000 in
/-- RuleReach of the reference. -/
theorem reach_spec (r : Ru) (w : World) : Calls Tryz.prog 43 #[r.val] w fun e w' => e = .returned (.int .i64 (reachV r)) ∧ Below w.heap.size w w' := by
  obtain ⟨q0, q1, q2, q3, q4⟩ := r
  have zr := Bk.new w 30 #[.int .i64 q0, .int .i64 q1, .int .i64 q2, .int .i64 q3, .int .i64 q4]
  have hb0 := (Below.refl w.heap.size w).alloc (Nat.le_refl _) (.cells #[.int .i64 q0, .int .i64 q1, .int .i64 q2, .int .i64 q3, .int .i64 q4] 30)
  obtain ⟨c0, c1, c2, c3, c4⟩ := box5 zr
  have Hy : Hid (ruleB ⟨q0, q1, q2, q3, q4⟩ = true → q0 ≤ 3 → reachV ⟨q0, q1, q2, q3, q4⟩ = q3) := Lib.hid (fun h hk => if_pos ⟨h, hk⟩)
  have Hn : Hid (¬ (ruleB ⟨q0, q1, q2, q3, q4⟩ = true ∧ q0 ≤ 3) → reachV ⟨q0, q1, q2, q3, q4⟩ = -1) := Lib.hid (fun h => if_neg h)
  generalize reachV ⟨q0, q1, q2, q3, q4⟩ = res at *
  unfold Ru.val
  dsimp only
  go_enter Tryz.func43, Tryz.ntmps43
  go_wp2_with fail
  refine (rule_spec ⟨q0, q1, q2, q3, q4⟩ _).mono ?_
  rintro e w1 ⟨rfl, hb1⟩
  have z1 := zr.on hb1
  have b1 := hb0.trans (hb1.mono hb0.size)
  clear c0 c1 c2 c3 c4 zr hb0 hb1
  cases h : ruleB ⟨q0, q1, q2, q3, q4⟩ with
  | false =>
    obtain rfl := Hn.out (fun h' => by rw [h] at h'; cases h'.1)
    go_wp2
    go_ret
    exact ⟨rfl, b1⟩
  | true =>
    obtain ⟨c0, c1, c2, c3, c4⟩ := box5 z1
    by_cases hk : q0 ≤ 3
    · obtain rfl := Hy.out h hk
      have hkz : ¬ q0 > 3 := by omega
      clear Hy Hn h
      go_wp2
      go_ret
      exact ⟨rfl, b1⟩
    · obtain rfl := Hn.out (fun h' => hk h'.2)
      have hkz : q0 > 3 := by omega
      clear Hy Hn h
      go_wp2
      go_ret
      exact ⟨rfl, b1⟩


/-! ## Locality -/
/-- The clipped region has the region's cells in the box. -/
theorem clip_cells {rs : List Rc} (hok : okAll rs = true) (b : Rc) {x y : Int} : hasG (cellsG (clipL rs b)) x y = true ↔ hasG (cellsG rs) x y = true ∧ InRc b x y := by
  have e : hasG (cellsG (clipL rs b)) x y = hasG (cellsG (rs.map fun r => commonR r b)) x y := by
    by_cases hc : onC x y = true
    · rw [hasG_on hc, hasG_on hc]; exact cells_canon _ _ (onC_ix hc)
    · rw [hasG_off (by simpa using hc), hasG_off (by simpa using hc)]
  rw [e, hasG_cells hok]
  by_cases hc : onC x y = true
  · rw [hasG_on hc, cellsG_iff]
    constructor
    · rintro ⟨r, hr, h⟩
      obtain ⟨q, hq, rfl⟩ := List.mem_map.1 hr
      rw [inRc_ix hc] at h
      unfold InRc commonR at h
      dsimp only at h
      exact ⟨⟨q, hq, by unfold InRc; omega⟩, by unfold InRc; omega⟩
    · rintro ⟨⟨q, hq, h⟩, hb⟩
      refine ⟨commonR q b, List.mem_map.2 ⟨q, hq, rfl⟩, ?_⟩
      rw [inRc_ix hc]
      unfold InRc commonR at *
      dsimp only
      omega
  · rw [hasG_off (by simpa using hc)]
    constructor
    · intro h; cases h
    · rintro ⟨⟨q, hq, h⟩, _⟩
      exfalso
      apply hc
      have := (okRc_iff q).1 (okAll_in hok hq)
      unfold InRc at h
      rw [onC_iff]
      omega
/-- The box of the near cells. -/
def nearB (x y d : Int) : Rc := ⟨max (-40) (x - d), max (-40) (y - d), min 40 (x + d + 1), min 40 (y + d + 1)⟩
theorem nearB_ok {x y d : Int} (hc : onC x y = true) (hd : 1 ≤ d ∧ d ≤ 8) : okRc (nearB x y d) = true := by
  rw [onC_iff] at hc
  rw [okRc_iff]
  unfold nearB
  dsimp only
  omega
theorem clip_agree {rs : List Rc} (hok : okAll rs = true) {x y d : Int} : AgreeN (cellsG rs) (cellsG (clipL rs (nearB x y d))) x y d := fun u v h1 h2 h3 h4 => by
  rw [Bool.eq_iff_iff, clip_cells hok]
  refine ⟨fun h => ⟨h, ?_⟩, fun h => h.1⟩
  have hc := (hasG_yes h).1
  rw [onC_iff] at hc
  unfold InRc nearB
  dsimp only
  omega
/-- The layouts agree near a cell. -/
theorem near_rule {rss qss : List (List Rc)} {r : Ru} {x y : Int} (h1 : layB rss = true) (h2 : layB qss = true) (hr : ruleB r = true) (hk : r.k ≤ 3) (hd : 1 ≤ r.v)
    (ha : ∀ l, 0 ≤ l → l ≤ 7 → AgreeN (cellsG (layAt rss l)) (cellsG (layAt qss l)) x y r.v) : hasG (cellsG (rmV rss r)) x y = true → hasG (cellsG (rmV qss r)) x y = true := by
  rw [rmV_yes h1 hr, rmV_yes h2 hr]
  obtain ⟨f1, f2, f3⟩ := rule_facts hr
  have a1 := ha r.l f2.1 f2.2
  have a2 := ha r.o f3.1 f3.2
  have hreg : ∀ (ss : List (List Rc)) (l : Int), layB ss = true → 0 ≤ l → l ≤ 7 → isReg (layAt ss l) = true := fun ss l h h0 h7 => by
    rw [layB_iff] at h
    unfold layAt
    have hlt : l.toNat < ss.length := by omega
    rw [List.getD_eq_getElem?_getD, List.getElem?_eq_getElem hlt]
    exact h.2 _ (List.getElem_mem hlt)
  have r1 := hreg rss r.l h1 f2.1 f2.2
  have r2 := hreg rss r.o h1 f3.1 f3.2
  have q1 := hreg qss r.l h2 f2.1 f2.2
  have q2 := hreg qss r.o h2 f3.1 f3.2
  have hv : valueB r.k r.v = true := by
    unfold ruleB at hr
    simp only [Bool.and_eq_true] at hr
    exact hr.1.1.2
  have hcan : ∀ (G : Gr), hasG (cellsG (canon G)) x y = hasG G x y := fun G => by
    by_cases hc : onC x y = true
    · rw [hasG_on hc, hasG_on hc]; exact cells_canon _ _ (onC_ix hc)
    · rw [hasG_off (by simpa using hc), hasG_off (by simpa using hc)]
  obtain ⟨k, l, o, v, p⟩ := r
  dsimp only at f1 f2 f3 hk hd hv a1 a2 r1 r2 q1 q2
  have hk' : k = 0 ∨ k = 1 ∨ k = 2 ∨ k = 3 := by omega
  rcases hk' with rfl | rfl | rfl | rfl
  · have hv' : inB 1 v 8 = true := hv
    rw [ruleM_0, ruleM_0, markV_yes (by rw [chkV_of r1]; exact hv'), markV_yes (by rw [chkV_of q1]; exact hv'), hcan, hcan, narrow_iff, narrow_iff]
    exact narrow_near a1 hd
  · have hv' : inB 1 v 8 = true := hv
    rw [ruleM_1, ruleM_1, markgV_yes (by rw [chkV_of r1]; exact hv'), markgV_yes (by rw [chkV_of q1]; exact hv'), hcan, hcan, close_iff, close_iff]
    exact close_near a1 hd
  · have hv' : inB 1 v 8 = true := hv
    rw [ruleM_2, ruleM_2]
    unfold mkbV
    rw [if_pos (by rw [r1, r2, hv']; rfl), if_pos (by rw [q1, q2, hv']; rfl), hcan, hcan]
    unfold mkbG
    rw [hasG_union, hasG_union, hasG_inter, hasG_inter, ← agree_here a1 (by omega), ← agree_here a2 (by omega), Bool.or_eq_true, Bool.or_eq_true, btw_iff, btw_iff]
    rintro (h | h)
    · exact .inl (btw_near a1 a2 hd h)
    · exact .inr h
  · have hv' : inB 1 v 8 = true := hv
    have hv0 := (inB_iff _ _ _).1 hv'
    rw [ruleM_3, ruleM_3, encV_yes r1 r2 ((inB_iff _ _ _).2 (by omega)), encV_yes q1 q2 ((inB_iff _ _ _).2 (by omega))]
    unfold encL
    rw [hcan, hcan, hasG_diff, hasG_diff, ← agree_here a2 (by omega), Bool.and_eq_true, Bool.and_eq_true, grown_cell (okAll_of_reg r1) (by omega), grown_cell (okAll_of_reg q1) (by omega)]
    rintro ⟨⟨h, h'⟩, h''⟩
    exact ⟨⟨h, grown_near a1 h'⟩, h''⟩
theorem near_marks {rss qss : List (List Rc)} {r : Ru} {x y : Int} (h1 : layB rss = true) (h2 : layB qss = true) (hr : ruleB r = true) (hk : r.k ≤ 3) (hd : 1 ≤ r.v)
    (ha : ∀ l, 0 ≤ l → l ≤ 7 → AgreeN (cellsG (layAt rss l)) (cellsG (layAt qss l)) x y r.v) : hasG (cellsG (rmV rss r)) x y = hasG (cellsG (rmV qss r)) x y := by
  rw [Bool.eq_iff_iff]
  exact ⟨near_rule h1 h2 hr hk hd ha, near_rule h2 h1 hr hk hd fun l a b => agree_symm (ha l a b)⟩

end Go.Proofs.YtbljapihmkmolaaGreat
