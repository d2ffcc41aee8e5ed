/- Contracts: l21DrawRule, DrawHierarchicalMarkers. Condition: a well-formed source. -/
import Derived.Test.YtgegbgkokkdmpaaGreatQ26
import Derived.Test.YtgegbgkokkdmpaaGreatQ35

namespace Go.Proofs.YtgegbgkokkdmpaaGreat
open Go.RowKit

set_option maxHeartbeats 800000 in
set_option maxRecDepth 100000 in
/-- l20Paired. -/
theorem pairedX_any (a b c d x : Int) (w : World) : Calls Tryz.prog 27 #[.agg #[.int .i64 a, .int .i64 b, .int .i64 c, .int .i64 d, .int .i64 x]] w fun e w' => ∃ t : Bool, e = .returned (.bool t) ∧ Below w.heap.size w w' := by
  have z0 := Bk.new w 28 #[.int .i64 a, .int .i64 b, .int .i64 c, .int .i64 d, .int .i64 x]
  have b0 := o_alloc w (.cells #[.int .i64 a, .int .i64 b, .int .i64 c, .int .i64 d, .int .i64 x] 28)
  have q0 := z0.cell 0
  simp at q0
  by_cases h2 : a = 2
  · have hb2 : (a == 2) = true := by simpa using h2
    clear h2
    go_enter Tryz.func27, Tryz.ntmps27
    go_wp2
    go_ret
    exact ⟨_, rfl, b0⟩
  · have hb2 : (a == 2) = false := by simpa using h2
    clear h2
    go_enter Tryz.func27, Tryz.ntmps27
    go_wp2
    go_ret
    exact ⟨_, rfl, b0⟩

/-- A rule under way. -/
structure RU (w W : World) (g rb : Nat) : Prop where
  dg : DG w W g
  res : Bk W (w.heap.size + 1) 28 #[.int .i64 0, .int .i64 0, .int .i64 0, .int .i64 0, .int .i64 0]
  box : ∃ a b c d x : Int, Bk W rb 28 #[.int .i64 a, .int .i64 b, .int .i64 c, .int .i64 d, .int .i64 x]
  h1 : w.heap.size + 1 < rb
theorem RU.on {w W W' : World} {g rb : Nat} (h : RU w W g rb) (hb : Below W.heap.size W W') : RU w W' g rb := let ⟨a, b, c, d, x, hx⟩ := h.box; ⟨h.dg.on hb, h.res.on hb, ⟨a, b, c, d, x, hx.on hb⟩, h.h1⟩
theorem RU.next {w W W' : World} {g rb : Nat} (h : RU w W g rb) (hD : Dice W' g) (hG : W.grownBy W' (some g)) : RU w W' g rb :=
  let ⟨a, b, c, d, x, hx⟩ := h.box
  ⟨h.dg.next hD hG, h.res.grown hG (by have := h.dg.hg; simp; omega), ⟨a, b, c, d, x, hx.grown hG (by have := h.dg.hg; have := h.h1; simp; omega)⟩, h.h1⟩
theorem RU.put {w W : World} {g rb : Nat} (h : RU w W g rb) (i : Nat) (y : Int) : RU w (W.setCell ⟨rb, i, none⟩ (.int .i64 y)) g rb := by
  obtain ⟨a, b, c, d, x, hx⟩ := h.box
  refine ⟨h.dg.put (by have := h.h1; omega) i _, h.res.other (p := ⟨rb, i, none⟩) (by have := h.h1; simp; omega) _, ?_, h.h1⟩
  have hs := hx.store i (.int .i64 y)
  match i with
  | 0 => exact ⟨y, b, c, d, x, hs⟩
  | 1 => exact ⟨a, y, c, d, x, hs⟩
  | 2 => exact ⟨a, b, y, d, x, hs⟩
  | 3 => exact ⟨a, b, c, y, x, hs⟩
  | 4 => exact ⟨a, b, c, d, y, hs⟩
  | n + 5 => exact ⟨a, b, c, d, x, hs⟩

set_option maxHeartbeats 3200000 in
set_option maxRecDepth 100000 in
/-- l21DrawRule. -/
theorem drawRule21_any (g : Nat) (A : Option Addr) (c : Nat) (ps : List (CellD × Sl3)) (hn : 1 ≤ ps.length ∧ ps.length ≤ 4) (w : World) (hD : Dice w g) (hC : CW w (g + 1) (.slice A ps.length c) ps) : Calls Tryz.prog 13 #[.pointer (some ⟨g, 0, none⟩), .agg #[.slice A ps.length c]] w fun e w' => ∃ a b c d x : Int, e = .returned (.agg #[.int .i64 a, .int .i64 b, .int .i64 c, .int .i64 d, .int .i64 x]) ∧ Dice w' g ∧ w.grownBy w' (some g) := by
  have hg := hD.lt
  have e1 : (w.alloc (.cells #[.slice A ps.length c] 26)).heap.size = w.heap.size + 1 := by simp
  have D0 := ((DG.refl hD).on (o_alloc w (.cells #[.slice A ps.length c] 26))).on (o_alloc _ (.cells #[.int .i64 0, .int .i64 0, .int .i64 0, .int .i64 0, .int .i64 0] 28))
  have zl := (Bk.new w 26 #[.slice A ps.length c]).alloc (.cells #[.int .i64 0, .int .i64 0, .int .i64 0, .int .i64 0, .int .i64 0] 28)
  have zr := Bk.new (w.alloc (.cells #[.slice A ps.length c] 26)) 28 #[.int .i64 0, .int .i64 0, .int .i64 0, .int .i64 0, .int .i64 0]
  rw [e1] at zr
  have hgi : some w.heap.size ≠ some g := by simp; omega
  have hgj : some (w.heap.size + 1) ≠ some g := by simp; omega
  clear hD e1
  go_enter Tryz.func13, Tryz.ntmps13
  go_wp2_with fail
  refine (next_any g 4 _ D0.dice (by omega)).mono ?_
  rintro e w1 ⟨k1, rfl, hk1, hD1, hG1⟩
  have D1 := D0.next hD1 hG1
  have zl1 := zl.grown hG1 hgi
  have zr1 := zr.grown hG1 hgj
  clear D0 zl zr hD1 hG1
  go_wp2_with fail
  refine (next_any g 5 _ D1.dice (by omega)).mono ?_
  rintro e w2 ⟨k2, rfl, hk2, hD2, hG2⟩
  have D2 := D1.next hD2 hG2
  have zl2 := zl1.grown hG2 hgi
  have zr2 := zr1.grown hG2 hgj
  have i2 := Go.IntWalk.i64_in (k2 + 1) (by omega)
  clear D1 zl1 zr1 hD2 hG2
  have hlt : w.heap.size + 1 < w2.heap.size := zr2.lt
  have R3 : RU w (w2.alloc (.cells #[.int .i64 k1, .int .i64 0, .int .i64 0, .int .i64 (k2 + 1), .int .i64 0] 28)) g w2.heap.size := ⟨D2.on (o_alloc _ _), zr2.alloc _, ⟨_, _, _, _, _, Bk.new w2 _ _⟩, hlt⟩
  have zl3 := zl2.alloc (.cells #[.int .i64 k1, .int .i64 0, .int .i64 0, .int .i64 (k2 + 1), .int .i64 0] 28)
  have hC3 := (hC.keptG D2.gro (Nat.lt_succ_self g)).alloc (.cells #[.int .i64 k1, .int .i64 0, .int .i64 0, .int .i64 (k2 + 1), .int .i64 0] 28)
  go_upto_region 2 with fail
  obtain ⟨W3, hW3⟩ : ∃ W, W = w2.alloc (.cells #[.int .i64 k1, .int .i64 0, .int .i64 0, .int .i64 (k2 + 1), .int .i64 0] 28) := ⟨_, rfl⟩
  obtain ⟨rb, hrb⟩ : ∃ b, b = w2.heap.size := ⟨_, rfl⟩
  rw [← hW3] at R3 zl3 hC3 ⊢
  rw [← hrb] at R3 ⊢
  clear hW3 hrb D2 zl2 zr2 hC hlt
  obtain ⟨gC, ⟨⟨nm, ss, ls, is⟩, ⟨us, ul, ui⟩⟩, rfl, hp, hgC, f0, f1, f2, f3, h3⟩ := hC3.elem (k := 0) (by omega)
  obtain ⟨As, cs, g1, -, -⟩ := h3.s.form
  dsimp only at g1 f1
  subst g1
  have q0 := zl3.cell 0
  simp at q0 f1
  have hpz : (ps.length : Int) > 0 := by omega
  have HR3 := Lib.hid R3
  have HS := Lib.hid h3.s
  dsimp only at HS
  clear hp f0 f2 f3 h3 hC3
  go_upto_if 24 with fail
  go_cut [] from 12 to 50 (fun wx => RU w wx g rb)
  case first =>
    by_cases hs0 : ss.length = 0
    · have hsz : ¬ (0 : Int) < (ss.length : Int) := by omega
      go_wp2_with fail
      go_meet
      exact HR3.out
    · have hsz : (0 : Int) < (ss.length : Int) := by omega
      obtain ⟨gS, l, x0, y0, x1, y1, rfl, -, hgS, s0, -⟩ := ShL.elem5 HS.out (k := 0) (by omega)
      obtain ⟨a, b, c, d, x, hx⟩ := HR3.out.box
      have r1 := hx.cell 1
      have r2 := hx.frozen 1
      simp at r1 s0
      have hput := Lib.hid (HR3.out.put 1 l)
      clear hx
      go_wp2_with fail
      go_meet
      exact hput.out
  clear HR3 HS q0 f1 zl3
  obtain ⟨a, b, c0, d, x, hx⟩ := hcut.box
  obtain ⟨m0, m1, m2, m3, m4⟩ := box5o hx
  go_upto_if 35 with (go_at_call 27; (with_reducible refine (pairedX_any a b c0 d x _).mono ?_); rintro e wd ⟨t, rfl, hbd⟩)
  have Rd := hcut.on hbd
  have hxd := hx.on hbd
  clear hcut hx m0 m1 m2 m3 m4 hbd
  go_cut [] from 36 to 50 (fun wx => RU w wx g rb)
  case first =>
    cases t with
    | true =>
      have r1 := hxd.cell 1
      have r2 := hxd.cell 2
      have f2 := hxd.frozen 2
      simp at r1 r2
      have HRd := Lib.hid Rd
      clear hxd Rd
      go_wp2_with fail
      go_meet
      exact HRd.out.put 2 _
    | false =>
      go_wp2_with fail
      go_meet
      exact Rd
  clear Rd hxd
  obtain ⟨we, hwe⟩ : ∃ W, W = wc := ⟨_, rfl⟩
  rw [← hwe] at hcut ⊢
  clear hwe
  go_wp2_with fail
  refine (next_any g 12 _ hcut.dg.dice (by omega)).mono ?_
  rintro e wf ⟨k5, rfl, hk5, hDf, hGf⟩
  have Rf := hcut.next hDf hGf
  clear hcut hDf hGf
  go_upto_if 43 with fail
  go_cut [] from 44 to 50 (fun wx => RU w wx g rb)
  case first =>
    obtain ⟨a, b, c0, d, x, hx⟩ := Rf.box
    by_cases h5 : k5 = 0
    · subst h5
      have r0 := hx.cell 0
      have r2 := hx.cell 2
      have f0 := hx.frozen 0
      have f2 := hx.frozen 2
      simp at r0 r2
      have HRf := Lib.hid Rf
      clear hx Rf
      go_wp2_with fail
      go_meet
      exact (HRf.out.put 0 4).put 2 0
    · have hb5 : (k5 == 0) = false := by simpa using h5
      go_wp2_with fail
      go_meet
      exact Rf
  clear Rf
  obtain ⟨wg, hwg⟩ : ∃ W, W = wc := ⟨_, rfl⟩
  rw [← hwg] at hcut ⊢
  clear hwg
  go_wp2_with fail
  refine (next_any g 14 _ hcut.dg.dice (by omega)).mono ?_
  rintro e wh ⟨k6, rfl, hk6, hDh, hGh⟩
  have Rh := hcut.next hDh hGh
  clear hcut hDh hGh
  go_upto_if 48 with fail
  go_cut [] from 49 to 50 (fun wx => RU w wx g rb)
  case first =>
    obtain ⟨a, b, c0, d, x, hx⟩ := Rh.box
    by_cases h6 : k6 = 0
    · subst h6
      have r3 := hx.cell 3
      have f3 := hx.frozen 3
      simp at r3
      have HRh := Lib.hid Rh
      clear hx Rh
      go_wp2_with fail
      go_meet
      exact HRh.out.put 3 0
    · have hb6 : (k6 == 0) = false := by simpa using h6
      go_wp2_with fail
      go_meet
      exact Rh
  clear Rh
  obtain ⟨a, b, c0, d, x, hx⟩ := hcut.box
  obtain ⟨m0, m1, m2, m3, m4⟩ := box5o hx
  obtain ⟨n0, n1, n2, n3, n4⟩ := box5o hcut.res
  have f0 := hcut.res.frozen 0
  have f1 := hcut.res.frozen 1
  have f2 := hcut.res.frozen 2
  have f3 := hcut.res.frozen 3
  have f4 := hcut.res.frozen 4
  have G := ((((hcut.dg.put (b := w.heap.size + 1) (Nat.le_succ _) 0 (.int .i64 a)).put (b := w.heap.size + 1) (Nat.le_succ _) 1 (.int .i64 b)).put (b := w.heap.size + 1) (Nat.le_succ _) 2 (.int .i64 c0)).put (b := w.heap.size + 1) (Nat.le_succ _) 3 (.int .i64 d)).put (b := w.heap.size + 1) (Nat.le_succ _) 4 (.int .i64 x)
  have HG := Lib.hid G
  have hrl := hcut.res.lt
  clear hx hcut G
  go_wp2
  refine bodyPost_ret (v := .agg #[.int .i64 a, .int .i64 b, .int .i64 c0, .int .i64 d, .int .i64 x]) (by simp [results, Tryz.results13, go_sem, *]) rfl ?_
  exact ⟨a, b, c0, d, x, rfl, HG.out.dice, HG.out.gro⟩

theorem cell_otherK {w : World} {b b' : Nat} (hne : b' ≠ b) (j i : Nat) (x : Value) : (w.setCell ⟨b, j, none⟩ x).cell? ⟨b', i, none⟩ = w.cell? ⟨b', i, none⟩ := by
  unfold World.cell?
  rw [Below.heap_setCell w ⟨b, j, none⟩ x b' hne]
/-- A store into a block that is neither the source nor the input: it holds no numbers. -/
theorem Dice.skipB {w : World} {g b : Nat} {t : TypeId} {v : Value} (h : Dice w g) (hne : g ≠ b) (hz : Bk w b t #[v]) (hv : ∀ y : Int, v ≠ .int .u8 y) (x : Value) : Dice (w.setCell ⟨b, 0, none⟩ x) g := by
  obtain ⟨A, n, c, i, s, h1, h2, h3, h4, h5, h6, h7⟩ := h.blk
  refine ⟨A, n, c, i, s, h1.other (p := ⟨b, 0, none⟩) hne x, h2, h3, h4, h5, ⟨fun k hk => ?_⟩, h7⟩
  obtain ⟨b', off, y, hA, hbl, hc, hy⟩ := h6.elem k hk
  have hb' : b' ≠ b := by
    rintro rfl
    rw [hz.cell] at hc
    by_cases ho : off + k = 0
    · rw [ho] at hc
      simp at hc
      exact hv y hc
    · have : (#[v] : Array Value)[off + k]? = none := by simp; omega
      rw [this] at hc
      cases hc
  exact ⟨b', off, y, hA, by simpa using hbl, by rw [cell_otherK hb']; exact hc, hy⟩
/-- What is left when the two results are stored. -/
structure FIN (w W : World) (B : Nat) (v : Value) (ps : List (CellD × Sl3)) : Prop where
  bel : Below w.heap.size w W
  cw : CW W B v ps
theorem FIN.put {w W : World} {B : Nat} {v : Value} {ps : List (CellD × Sl3)} (h : FIN w W B v ps) {b : Nat} (h1 : w.heap.size ≤ b) (h2 : b < B) (i : Nat) (x : Value) : FIN w (W.setCell ⟨b, i, none⟩ x) B v ps :=
  ⟨h.bel.setCell (p := ⟨b, i, none⟩) h1 x, h.cw.far (p := ⟨b, i, none⟩) h2 x⟩
theorem FIN.next {w W W' : World} {B g : Nat} {v : Value} {ps : List (CellD × Sl3)} (h : FIN w W B v ps) (hg : w.heap.size ≤ g) (hB : g < B) (hG : W.grownBy W' (some g)) : FIN w W' B v ps :=
  ⟨h.bel.grown hG h.bel.size (fun q hq => by simp only [Option.some.injEq] at hq; omega), h.cw.keptG hG hB⟩
/-- A rule's five numbers, whatever they are. -/
def Rule5 (v : Value) : Prop := ∃ a b c d x : Int, v = .agg #[.int .i64 a, .int .i64 b, .int .i64 c, .int .i64 d, .int .i64 x]
theorem FIN.ans {w W : World} {B : Nat} {v : Value} {ps : List (CellD × Sl3)} (h : FIN w W B v ps) (hB : w.heap.size ≤ B) (hn : 1 ≤ ps.length ∧ ps.length ≤ 4) (hS : ∀ p ∈ ps, Sm p.1) (k a b c d x : Int) :
    ∃ (cv rv : Value) (ps : List (CellD × Sl3)) (k' : Int), Ending.returned (.tuple #[.agg #[v], .int .i64 k, .agg #[.int .i64 a, .int .i64 b, .int .i64 c, .int .i64 d, .int .i64 x]]) = .returned (.tuple #[.agg #[cv], .int .i64 k', rv]) ∧ Rule5 rv ∧ (1 ≤ ps.length ∧ ps.length ≤ 4) ∧ (∀ p ∈ ps, Sm p.1) ∧ CW W w.heap.size cv ps ∧ Below w.heap.size w W :=
  ⟨v, _, ps, k, rfl, ⟨a, b, c, d, x, rfl⟩, hn, hS, h.cw.less hB, h.bel⟩
set_option maxHeartbeats 1600000 in
set_option maxRecDepth 100000 in
/-- DrawHierarchicalMarkers. -/
theorem drawHier_any (A : Option Addr) (n c : Nat) (w : World) (hA : ArgB w A n) (hn : n ≤ 4096) : Calls Tryz.prog 5 #[.slice A n c] w fun e w' => ∃ (cv rv : Value) (ps : List (CellD × Sl3)) (k : Int), e = .returned (.tuple #[.agg #[cv], .int .i64 k, rv]) ∧ Rule5 rv ∧ (1 ≤ ps.length ∧ ps.length ≤ 4) ∧ (∀ p ∈ ps, Sm p.1) ∧ CW w' w.heap.size cv ps ∧ Below w.heap.size w w' := by
  have e1 : (w.alloc (.cells #[.slice none 0 0] 26)).heap.size = w.heap.size + 1 := by simp
  have b0 := ((Below.refl w.heap.size w).alloc (Nat.le_refl _) (.cells #[.slice none 0 0] 26)).alloc (by simp) (.cells #[.int .i64 0, .int .i64 0, .int .i64 0, .int .i64 0, .int .i64 0] 28)
  have zl := (Bk.new w 26 #[.slice none 0 0]).alloc (.cells #[.int .i64 0, .int .i64 0, .int .i64 0, .int .i64 0, .int .i64 0] 28)
  have zr := Bk.new (w.alloc (.cells #[.slice none 0 0] 26)) 28 #[.int .i64 0, .int .i64 0, .int .i64 0, .int .i64 0, .int .i64 0]
  rw [e1] at zr
  clear e1
  have hA0 := hA.on b0
  go_enter Tryz.func5, Tryz.ntmps5
  go_wp2_with fail
  refine (from_any A n c _ hA0 hn).mono ?_
  rintro e w1 ⟨g, rfl, hg1, hD1, hb1⟩
  have hg2 : w.heap.size + 1 < g := Nat.lt_of_lt_of_le zr.lt hg1
  have zl1 := zl.on hb1
  have zr1 := zr.on hb1
  have b1 := b0.trans (hb1.mono b0.size)
  have hg1' := hD1.lt
  clear zl zr b0 hA0 hb1 hg1
  go_upto_region 3 with (go_at_call 12; (with_reducible refine (drawTop21_any g _ hD1).mono ?_); rintro e w2 ⟨cv, ps, k, rfl, hps, hS, hC, hD2, hG2⟩; obtain ⟨A2, c2, rfl, -, -⟩ := hC.form)
  have hgi : some w.heap.size ≠ some g := by simp; omega
  have hgj : some (w.heap.size + 1) ≠ some g := by simp; omega
  have zl2 := zl1.grown hG2 hgi
  have zr2 := zr1.grown hG2 hgj
  have b2 : Below w.heap.size w w2 := b1.grown hG2 b1.size (fun q hq => by simp only [Option.some.injEq] at hq; omega)
  have hlb : w.heap.size < w2.heap.size := zl2.lt
  have HS := Lib.hid hS
  have D3 := hD2.alloc (.cells #[.slice A2 ps.length c2] 26)
  have z3 := Bk.new w2 26 #[.slice A2 ps.length c2]
  have zl3 := zl2.alloc (.cells #[.slice A2 ps.length c2] 26)
  have zr3 := zr2.alloc (.cells #[.slice A2 ps.length c2] 26)
  have C3 := hC.alloc (.cells #[.slice A2 ps.length c2] 26)
  have b3 := b2.alloc b2.size (.cells #[.slice A2 ps.length c2] 26)
  obtain ⟨W3, hW3⟩ : ∃ W, W = w2.alloc (.cells #[.slice A2 ps.length c2] 26) := ⟨_, rfl⟩
  have hgL : g < w2.heap.size := Nat.lt_of_lt_of_le hg1' hG2.size
  obtain ⟨lb, hlbe⟩ : ∃ b, b = w2.heap.size := ⟨_, rfl⟩
  rw [← hW3] at D3 z3 zl3 zr3 C3 b3 ⊢
  rw [← hlbe] at z3 hlb hgL ⊢
  clear hW3 hlbe zl1 zr1 b1 zl2 zr2 b2 hS hD1 hD2 hG2 hC
  have hne : w.heap.size ≠ lb := Nat.ne_of_lt hlb
  have hgb : some lb ≠ some g := by simp; omega
  have l0 := z3.cell 0
  have ll := z3.lt
  have r0 := zl3.cell 0
  have f0 := zl3.frozen 0
  simp at l0 r0
  have hB1 : g + 1 ≤ w1.heap.size := hg1'
  have hBw : w.heap.size < w1.heap.size := by omega
  have CA := Lib.hid (C3.drew)
  have CB := Lib.hid ((C3.far (p := ⟨w.heap.size, 0, none⟩) hBw (.slice A2 ps.length c2)).drew)
  have DA := Lib.hid D3.drew
  have DB := Lib.hid ((D3.skipB (b := w.heap.size) (by omega) zl3 (fun y => by simp) (.slice A2 ps.length c2)).drew)
  have ZA := Lib.hid z3.drew
  have LA := Lib.hid zl3.drew
  have RA := Lib.hid zr3.drew
  have RB := Lib.hid ((zr3.other (p := ⟨w.heap.size, 0, none⟩) (by simp) (.slice A2 ps.length c2)).drew)
  have LB := Lib.hid ((zl3.store 0 (.slice A2 ps.length c2)).drew)
  have BA := Lib.hid b3.drew
  have BB := Lib.hid ((b3.setCell (p := ⟨w.heap.size, 0, none⟩) (Nat.le_refl _) (.slice A2 ps.length c2)).drew)
  have FA : Hid (FIN w W3.drew w1.heap.size (.slice A2 ps.length c2) ps) := Lib.hid ⟨BA.out, CA.out⟩
  have FB : Hid (FIN w (W3.setCell ⟨w.heap.size, 0, none⟩ (.slice A2 ps.length c2)).drew w1.heap.size (.slice A2 ps.length c2) ps) := Lib.hid ⟨BB.out, CB.out⟩
  have hgw : w.heap.size ≤ g := by omega
  have hB2 : w.heap.size + 1 < w1.heap.size := by omega
  clear z3 zl3 zr3 C3 b3 D3 BA BB
  go_region_law (go_simp; go_at_call 13; first
    | ((with_reducible refine (drawRule21_any g A2 c2 ps hps _ DA.out (CA.out.less hB1)).mono ?_); rintro e W5 ⟨a, b, c, d, x, rfl, hD5, hG5⟩; have r5 := (LA.out.grown hG5 hgi).cell 0; have f5 := (LA.out.grown hG5 hgi).frozen 0; have l5 := (ZA.out.grown hG5 hgb).cell 0; have R5 := RA.out.grown hG5 hgj; obtain ⟨p0, p1, p2, p3, p4⟩ := box5o R5; have y0 := R5.frozen 0; have y1 := R5.frozen 1; have y2 := R5.frozen 2; have y3 := R5.frozen 3; have y4 := R5.frozen 4; have rl := R5.lt; simp at r5 l5; have XF := Lib.hid (FA.out.next hgw hB1 hG5); clear R5 hD5 hG5; (try dsimp only))
    | ((with_reducible refine (drawRule21_any g A2 c2 ps hps _ DB.out (CB.out.less hB1)).mono ?_); rintro e W5 ⟨a, b, c, d, x, rfl, hD5, hG5⟩; have r5 := (LB.out.grown hG5 hgi).cell 0; have R5 := RB.out.grown hG5 hgj; obtain ⟨p0, p1, p2, p3, p4⟩ := box5o R5; have y0 := R5.frozen 0; have y1 := R5.frozen 1; have y2 := R5.frozen 2; have y3 := R5.frozen 3; have y4 := R5.frozen 4; have rl := R5.lt; simp at r5; have XF := Lib.hid (FB.out.next hgw hB1 hG5); clear R5 hD5 hG5; (try dsimp only)))
  all_goals
    go_wp2
    refine bodyPost_ret (v := .tuple #[.agg #[.slice A2 ps.length c2], .int .i64 k, .agg #[.int .i64 a, .int .i64 b, .int .i64 c, .int .i64 d, .int .i64 x]]) (by simp [results, Tryz.results5, go_sem, *]) rfl ?_
    refine FIN.ans (B := w1.heap.size) ?_ (by omega) hps HS.out k a b c d x
    repeat (first | (with_reducible exact XF.out) | (with_reducible refine FIN.put ?_ (by omega) (by omega) _ _))

end Go.Proofs.YtgegbgkokkdmpaaGreat
