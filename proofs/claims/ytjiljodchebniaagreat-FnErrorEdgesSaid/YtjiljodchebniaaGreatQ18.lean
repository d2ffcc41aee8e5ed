/- Contracts: l06Whole. Condition: a side of the set. Contract: l06Put. Condition: a list of edges in memory. Contract: l06Edges, the edges of a set. Condition: a set of cells in memory. -/
import Derived.Test.YtjiljodchebniaaGreatQ17
import Derived.Deep.RegionHeld3
import Derived.Laws.AppendOwnNone
import Derived.Deep.QuietTactic
import Derived.BigQuiet

namespace Go.Proofs.YtjiljodchebniaaGreat
open Go.RowKit

/-- What is left of a run, by the place in the box's cell. -/
def leftUp (b i : Nat) (w : World) : Nat := match w.cell? ⟨b, i, none⟩ with
  | some (.int _ x) => (100 - x).toNat
  | _ => 0
def leftDn (b i : Nat) (w : World) : Nat := match w.cell? ⟨b, i, none⟩ with
  | some (.int _ x) => (100 + x).toNat
  | _ => 0
theorem leftUp_eq {b i : Nat} {w : World} {x : Int} (h : w.cell? ⟨b, i, none⟩ = some (.int .i64 x)) : leftUp b i w = (100 - x).toNat := by simp [leftUp, h]
theorem leftDn_eq {b i : Nat} {w : World} {x : Int} (h : w.cell? ⟨b, i, none⟩ = some (.int .i64 x)) : leftDn b i w = (100 + x).toNat := by simp [leftDn, h]
theorem dn_in {f : Int → Int} {k D s t : Int} (h : runDn f k (100 - (t - s).toNat) s = D) (hs : s ≤ t ∧ t - s ≤ 90) (hf : f (s - 1) = k) : runDn f k (100 - (t - (s - 1)).toNat) (s - 1) = D := by
  rw [show 100 - (t - s).toNat = (100 - (t - (s - 1)).toNat) + 1 by omega, runDn, if_pos hf] at h
  exact h
theorem dn_out {f : Int → Int} {k D s t : Int} (h : runDn f k (100 - (t - s).toNat) s = D) (hs : s ≤ t ∧ t - s ≤ 90) (hf : f (s - 1) ≠ k) : s = D := by
  rw [show 100 - (t - s).toNat = (99 - (t - s).toNat) + 1 by omega, runDn, if_neg hf] at h
  exact h
theorem up_in {f : Int → Int} {k U q t : Int} (h : runUp f k (100 - (q - t).toNat) q = U) (hq : t ≤ q ∧ q - t ≤ 90) (hf : f q = k) : runUp f k (100 - (q + 1 - t).toNat) (q + 1) = U := by
  rw [show 100 - (q - t).toNat = (100 - (q + 1 - t).toNat) + 1 by omega, runUp, if_pos hf] at h
  exact h
theorem up_out {f : Int → Int} {k U q t : Int} (h : runUp f k (100 - (q - t).toNat) q = U) (hq : t ≤ q ∧ q - t ≤ 90) (hf : f q ≠ k) : q = U := by
  rw [show 100 - (q - t).toNat = (99 - (q - t).toNat) + 1 by omega, runUp, if_neg hf] at h
  exact h
/-- The box of the edge under way, and the result's. -/
structure WB (w W : World) (v : Value) (G : Gr) (x0 y0 x1 y1 : Int) : Prop where
  box : Bk W w.heap.size 48 #[.int .i64 x0, .int .i64 y0, .int .i64 x1, .int .i64 y1]
  res : Bk W (w.heap.size + 1) 48 #[.int .i64 0, .int .i64 0, .int .i64 0, .int .i64 0]
  gs : GS W 0 v G
  bel : Below w.heap.size w W
theorem GS.put {w : World} {v : Value} {G : Gr} (h : GS w 0 v G) {b : Nat} {cs : Array Value} (hb : Bk w b 48 cs) (i : Nat) (x : Value) : GS (w.setCell ⟨b, i, none⟩ x) 0 v G := by
  obtain ⟨g, c, hv, h0, hg⟩ := h
  refine ⟨g, c, hv, h0, hg.other (p := ⟨b, i, none⟩) ?_ x⟩
  obtain ⟨cs', h1, -⟩ := hg
  exact bk_two h1 hb (by decide)
theorem WB.put {w W : World} {v : Value} {G : Gr} {x0 y0 x1 y1 : Int} (h : WB w W v G x0 y0 x1 y1) (i : Nat) (z a0 b0 a1 b1 : Int) (e : (#[.int .i64 x0, .int .i64 y0, .int .i64 x1, .int .i64 y1] : Array Value).setIfInBounds i (.int .i64 z) = #[.int .i64 a0, .int .i64 b0, .int .i64 a1, .int .i64 b1]) : WB w (W.setCell ⟨w.heap.size, i, none⟩ (.int .i64 z)) v G a0 b0 a1 b1 :=
  ⟨by rw [← e]; exact h.box.store i _, h.res.other (p := ⟨w.heap.size, i, none⟩) (by simp) _, h.gs.put h.box i _, h.bel.setCell (p := ⟨w.heap.size, i, none⟩) (Nat.le_refl _) _⟩
theorem WB.start {w : World} {v : Value} {G : Gr} (hG : GS w 0 v G) (x0 y0 x1 y1 : Int) : WB w ((w.alloc (.cells #[.int .i64 x0, .int .i64 y0, .int .i64 x1, .int .i64 y1] 48)).alloc (.cells #[.int .i64 0, .int .i64 0, .int .i64 0, .int .i64 0] 48)) v G x0 y0 x1 y1 := by
  refine ⟨(Bk.new w _ _).alloc _, ?_, hG.on (((Below.refl _ _).alloc (Nat.le_refl _) _).alloc (by simp) _), ((Below.refl _ _).alloc (Nat.le_refl _) _).alloc (by simp) _⟩
  have := Bk.new (w.alloc (.cells #[.int .i64 x0, .int .i64 y0, .int .i64 x1, .int .i64 y1] 48)) 48 #[.int .i64 0, .int .i64 0, .int .i64 0, .int .i64 0]
  simpa using this


set_option maxHeartbeats 1600000 in
set_option maxRecDepth 100000 in
theorem wholeA_any (u : Value) (G : Gr) (a t : Int) (w : World) (hG : GS w 0 u G) (h : stG G false a t = 1) :
    Calls Tryz.prog 105 #[u, (Ed.mk t a (t + 1) a).val] w fun e w' => e = .returned (wholeE G false 1 a t).val ∧ Below w.heap.size w w' := by
  have hin := stG_in (G := G) (v := false) (a := a) (t := t) (by rw [h]; decide)
  obtain ⟨D, hD⟩ : ∃ D, runDn (stG G false a) 1 100 t = D := ⟨_, rfl⟩
  obtain ⟨U, hU⟩ : ∃ U, runUp (stG G false a) 1 100 (t + 1) = U := ⟨_, rfl⟩
  have HD := Lib.hid hD
  have HU := Lib.hid hU
  have hw : wholeE G false 1 a t = Ed.mk D a U a := by unfold wholeE; rw [hD, hU]; rfl
  rw [hw]
  have S0 := WB.start hG t a (t + 1) a
  have ed := Go.IntWalk.i64_in (t + 1 - t) (by omega)
  have ed2 := Go.IntWalk.i64_in (t - (t + 1)) (by omega)
  have ea := Go.IntWalk.i64_in (a - a) (by omega)
  have x1 : t + 1 - t = 1 := by omega
  have x2 : t - (t + 1) = -1 := by omega
  have x3 : a - a = 0 := by omega
  clear hG hD hU hw
  unfold Ed.val
  dsimp only
  go_enter Tryz.func105, Tryz.ntmps105
  go_wp2
  go_loopw [] (fun wx => ∃ s : Int, -40 ≤ s ∧ s ≤ t ∧ Hid (runDn (stG G false a) 1 (100 - (t - s).toNat) s = D) ∧ WB w wx u G s a (t + 1) a) (fun wx => leftDn w.heap.size 0 wx)
  case atStart => exact ⟨t, by omega, by omega, by rw [show 100 - (t - t).toNat = 100 by omega]; exact HD, S0⟩
  case round =>
    obtain ⟨s, h1, h2, HR, S⟩ := hrel
    clear S0
    obtain ⟨c0, c1, c2, c3⟩ := box4 S.box
    have fz := S.box.frozen
    have f0 := fz 0
    have f1 := fz 1
    have e1 := Go.IntWalk.i64_in (s - 1) (by omega)
    have e2 := Go.IntWalk.i64_in (s + 1) (by omega)
    have m0 := leftDn_eq c0
    have HC := Lib.hid (is_any u G (s - 1) a 1 0 wr S.gs (by omega) (by omega))
    by_cases hf : stG G false a (s - 1) = 1
    · have hs : isSide G (s - 1) a 1 0 = true := by rw [side_h1 G (s - 1) a]; simpa using hf
      have HS := Lib.hid hs
      have hrg := (by have := stG_in (G := G) (v := false) (a := a) (t := (s - 1)) (by rw [hf]; decide); omega)
      have S2 := Lib.hid ((S.put 0 ((s - 1)) (s - 1) a (t + 1) a rfl).put 1 a (s - 1) a (t + 1) a rfl)
      have fz2 := (S.put 0 ((s - 1)) (s - 1) a (t + 1) a rfl).box.frozen 1
      obtain ⟨k0, k1, k2, k3⟩ := box4 (S.put 0 ((s - 1)) (s - 1) a (t + 1) a rfl).box
      clear S hs fz
      go_wp2_with (go_at_call 137; (with_reducible refine HC.out.mono ?_); rintro e w1 ⟨he, rfl⟩; rw [HS.out] at he; subst he)
      refine ⟨⟨(s - 1), by omega, by omega, Lib.hid (dn_in HR.out (by omega) hf), S2.out⟩, ?_⟩
      have hm1 := leftDn_eq (x := (s - 1)) (S2.out.box.cell 0)
      rw [m0]
      exact Nat.lt_of_le_of_lt (Nat.le_of_eq hm1) (by omega)
    · have hs : isSide G (s - 1) a 1 0 = false := by rw [side_h1 G (s - 1) a]; simpa using hf
      have HS := Lib.hid hs
      obtain rfl : D = s := (dn_out HR.out (by omega) hf).symm
      clear hs fz
      go_wp2_with (go_at_call 137; (with_reducible refine HC.out.mono ?_); rintro e w1 ⟨he, rfl⟩; rw [HS.out] at he; subst he)
      have S9 := S
      clear S c0 c1 c2 c3 f0 f1 m0 HC HS h1 h2 HR hf
      go_loopw [] (fun wx => ∃ q : Int, t + 1 ≤ q ∧ q ≤ 40 ∧ Hid (runUp (stG G false a) 1 (100 - (q - (t + 1)).toNat) q = U) ∧ WB w wx u G D a q a) (fun wx => leftUp w.heap.size 2 wx)
      case atStart => exact ⟨t + 1, by omega, by omega, by rw [show 100 - (t + 1 - (t + 1)).toNat = 100 by omega]; exact HU, S9⟩
      case round =>
        obtain ⟨q, h1, h2, HR, S⟩ := hrel
        clear S9
        obtain ⟨c0, c1, c2, c3⟩ := box4 S.box
        have fz := S.box.frozen
        have f0 := fz 2
        have f1 := fz 3
        have e1 := Go.IntWalk.i64_in (q - 1) (by omega)
        have e2 := Go.IntWalk.i64_in (q + 1) (by omega)
        have m0 := leftUp_eq c2
        have HC := Lib.hid (is_any u G q a 1 0 wr S.gs (by omega) (by omega))
        by_cases hf : stG G false a q = 1
        · have hs : isSide G q a 1 0 = true := by rw [side_h1 G q a]; simpa using hf
          have HS := Lib.hid hs
          have hrg := (by have := stG_in (G := G) (v := false) (a := a) (t := q) (by rw [hf]; decide); omega)
          have S2 := Lib.hid ((S.put 2 ((q + 1)) D a (q + 1) a rfl).put 3 a D a (q + 1) a rfl)
          have fz2 := (S.put 2 ((q + 1)) D a (q + 1) a rfl).box.frozen 3
          obtain ⟨k0, k1, k2, k3⟩ := box4 (S.put 2 ((q + 1)) D a (q + 1) a rfl).box
          clear S hs fz
          go_wp2_with (go_at_call 137; (with_reducible refine HC.out.mono ?_); rintro e w1 ⟨he, rfl⟩; rw [HS.out] at he; subst he)
          refine ⟨⟨(q + 1), by omega, by omega, Lib.hid (up_in HR.out (by omega) hf), S2.out⟩, ?_⟩
          have hm1 := leftUp_eq (x := (q + 1)) (S2.out.box.cell 2)
          rw [m0]
          exact Nat.lt_of_le_of_lt (Nat.le_of_eq hm1) (by omega)
        · have hs : isSide G q a 1 0 = false := by rw [side_h1 G q a]; simpa using hf
          have HS := Lib.hid hs
          obtain rfl : U = q := (up_out HR.out (by omega) hf).symm
          clear hs fz
          obtain ⟨r0, r1, r2, r3⟩ := box4 S.res
          have rf := S.res.frozen
          have HB := Lib.hid S.bel
          clear S
          go_wp2_with (go_at_call 137; (with_reducible refine HC.out.mono ?_); rintro e w1 ⟨he, rfl⟩; rw [HS.out] at he; subst he)
          refine bodyPost_ret (v := .agg #[.int .i64 D, .int .i64 a, .int .i64 U, .int .i64 a]) (by simp [results, Tryz.results105, go_sem, *]) rfl ?_
          exact ⟨rfl, (((HB.out.setCell (p := ⟨w.heap.size + 1, 0, none⟩) (Nat.le_succ _) _).setCell (p := ⟨w.heap.size + 1, 1, none⟩) (Nat.le_succ _) _).setCell (p := ⟨w.heap.size + 1, 2, none⟩) (Nat.le_succ _) _).setCell (p := ⟨w.heap.size + 1, 3, none⟩) (Nat.le_succ _) _⟩

set_option maxHeartbeats 1600000 in
set_option maxRecDepth 100000 in
theorem wholeB_any (u : Value) (G : Gr) (a t : Int) (w : World) (hG : GS w 0 u G) (h : stG G false a t = (-1)) :
    Calls Tryz.prog 105 #[u, (Ed.mk (t + 1) a t a).val] w fun e w' => e = .returned (wholeE G false (-1) a t).val ∧ Below w.heap.size w w' := by
  have hin := stG_in (G := G) (v := false) (a := a) (t := t) (by rw [h]; decide)
  obtain ⟨D, hD⟩ : ∃ D, runDn (stG G false a) (-1) 100 t = D := ⟨_, rfl⟩
  obtain ⟨U, hU⟩ : ∃ U, runUp (stG G false a) (-1) 100 (t + 1) = U := ⟨_, rfl⟩
  have HD := Lib.hid hD
  have HU := Lib.hid hU
  have hw : wholeE G false (-1) a t = Ed.mk U a D a := by unfold wholeE; rw [hD, hU]; rfl
  rw [hw]
  have S0 := WB.start hG (t + 1) a t a
  have ed := Go.IntWalk.i64_in (t + 1 - t) (by omega)
  have ed2 := Go.IntWalk.i64_in (t - (t + 1)) (by omega)
  have ea := Go.IntWalk.i64_in (a - a) (by omega)
  have x1 : t + 1 - t = 1 := by omega
  have x2 : t - (t + 1) = -1 := by omega
  have x3 : a - a = 0 := by omega
  clear hG hD hU hw
  unfold Ed.val
  dsimp only
  go_enter Tryz.func105, Tryz.ntmps105
  go_wp2
  go_loopw [] (fun wx => ∃ q : Int, t + 1 ≤ q ∧ q ≤ 40 ∧ Hid (runUp (stG G false a) (-1) (100 - (q - (t + 1)).toNat) q = U) ∧ WB w wx u G q a t a) (fun wx => leftUp w.heap.size 0 wx)
  case atStart => exact ⟨t + 1, by omega, by omega, by rw [show 100 - (t + 1 - (t + 1)).toNat = 100 by omega]; exact HU, S0⟩
  case round =>
    obtain ⟨q, h1, h2, HR, S⟩ := hrel
    clear S0
    obtain ⟨c0, c1, c2, c3⟩ := box4 S.box
    have fz := S.box.frozen
    have f0 := fz 0
    have f1 := fz 1
    have e1 := Go.IntWalk.i64_in (q - 1) (by omega)
    have e2 := Go.IntWalk.i64_in (q + 1) (by omega)
    have m0 := leftUp_eq c0
    have HC := Lib.hid (is_any u G (q + 1) a (-1) 0 wr S.gs (by omega) (by omega))
    by_cases hf : stG G false a q = (-1)
    · have hs : isSide G (q + 1) a (-1) 0 = true := by rw [side_h2 G q a]; simpa using hf
      have HS := Lib.hid hs
      have hrg := (by have := stG_in (G := G) (v := false) (a := a) (t := q) (by rw [hf]; decide); omega)
      have S2 := Lib.hid ((S.put 0 ((q + 1)) (q + 1) a t a rfl).put 1 a (q + 1) a t a rfl)
      have fz2 := (S.put 0 ((q + 1)) (q + 1) a t a rfl).box.frozen 1
      obtain ⟨k0, k1, k2, k3⟩ := box4 (S.put 0 ((q + 1)) (q + 1) a t a rfl).box
      clear S hs fz
      go_wp2_with (go_at_call 137; (with_reducible refine HC.out.mono ?_); rintro e w1 ⟨he, rfl⟩; rw [HS.out] at he; subst he)
      refine ⟨⟨(q + 1), by omega, by omega, Lib.hid (up_in HR.out (by omega) hf), S2.out⟩, ?_⟩
      have hm1 := leftUp_eq (x := (q + 1)) (S2.out.box.cell 0)
      rw [m0]
      exact Nat.lt_of_le_of_lt (Nat.le_of_eq hm1) (by omega)
    · have hs : isSide G (q + 1) a (-1) 0 = false := by rw [side_h2 G q a]; simpa using hf
      have HS := Lib.hid hs
      obtain rfl : U = q := (up_out HR.out (by omega) hf).symm
      clear hs fz
      go_wp2_with (go_at_call 137; (with_reducible refine HC.out.mono ?_); rintro e w1 ⟨he, rfl⟩; rw [HS.out] at he; subst he)
      have S9 := S
      clear S c0 c1 c2 c3 f0 f1 m0 HC HS h1 h2 HR hf
      go_loopw [] (fun wx => ∃ s : Int, -40 ≤ s ∧ s ≤ t ∧ Hid (runDn (stG G false a) (-1) (100 - (t - s).toNat) s = D) ∧ WB w wx u G U a s a) (fun wx => leftDn w.heap.size 2 wx)
      case atStart => exact ⟨t, by omega, by omega, by rw [show 100 - (t - t).toNat = 100 by omega]; exact HD, S9⟩
      case round =>
        obtain ⟨s, h1, h2, HR, S⟩ := hrel
        clear S9
        obtain ⟨c0, c1, c2, c3⟩ := box4 S.box
        have fz := S.box.frozen
        have f0 := fz 2
        have f1 := fz 3
        have e1 := Go.IntWalk.i64_in (s - 1) (by omega)
        have e2 := Go.IntWalk.i64_in (s + 1) (by omega)
        have m0 := leftDn_eq c2
        have HC := Lib.hid (is_any u G s a (-1) 0 wr S.gs (by omega) (by omega))
        by_cases hf : stG G false a (s - 1) = (-1)
        · have hs : isSide G s a (-1) 0 = true := by rw [show s = s - 1 + 1 by omega]; rw [side_h2 G (s - 1) a]; simpa using hf
          have HS := Lib.hid hs
          have hrg := (by have := stG_in (G := G) (v := false) (a := a) (t := (s - 1)) (by rw [hf]; decide); omega)
          have S2 := Lib.hid ((S.put 2 ((s - 1)) U a (s - 1) a rfl).put 3 a U a (s - 1) a rfl)
          have fz2 := (S.put 2 ((s - 1)) U a (s - 1) a rfl).box.frozen 3
          obtain ⟨k0, k1, k2, k3⟩ := box4 (S.put 2 ((s - 1)) U a (s - 1) a rfl).box
          clear S hs fz
          go_wp2_with (go_at_call 137; (with_reducible refine HC.out.mono ?_); rintro e w1 ⟨he, rfl⟩; rw [HS.out] at he; subst he)
          refine ⟨⟨(s - 1), by omega, by omega, Lib.hid (dn_in HR.out (by omega) hf), S2.out⟩, ?_⟩
          have hm1 := leftDn_eq (x := (s - 1)) (S2.out.box.cell 2)
          rw [m0]
          exact Nat.lt_of_le_of_lt (Nat.le_of_eq hm1) (by omega)
        · have hs : isSide G s a (-1) 0 = false := by rw [show s = s - 1 + 1 by omega]; rw [side_h2 G (s - 1) a]; simpa using hf
          have HS := Lib.hid hs
          obtain rfl : D = s := (dn_out HR.out (by omega) hf).symm
          clear hs fz
          obtain ⟨r0, r1, r2, r3⟩ := box4 S.res
          have rf := S.res.frozen
          have HB := Lib.hid S.bel
          clear S
          go_wp2_with (go_at_call 137; (with_reducible refine HC.out.mono ?_); rintro e w1 ⟨he, rfl⟩; rw [HS.out] at he; subst he)
          refine bodyPost_ret (v := .agg #[.int .i64 U, .int .i64 a, .int .i64 D, .int .i64 a]) (by simp [results, Tryz.results105, go_sem, *]) rfl ?_
          exact ⟨rfl, (((HB.out.setCell (p := ⟨w.heap.size + 1, 0, none⟩) (Nat.le_succ _) _).setCell (p := ⟨w.heap.size + 1, 1, none⟩) (Nat.le_succ _) _).setCell (p := ⟨w.heap.size + 1, 2, none⟩) (Nat.le_succ _) _).setCell (p := ⟨w.heap.size + 1, 3, none⟩) (Nat.le_succ _) _⟩

set_option maxHeartbeats 1600000 in
set_option maxRecDepth 100000 in
theorem wholeC_any (u : Value) (G : Gr) (a t : Int) (w : World) (hG : GS w 0 u G) (h : stG G true a t = 1) :
    Calls Tryz.prog 105 #[u, (Ed.mk a (t + 1) a t).val] w fun e w' => e = .returned (wholeE G true 1 a t).val ∧ Below w.heap.size w w' := by
  have hin := stG_in (G := G) (v := true) (a := a) (t := t) (by rw [h]; decide)
  obtain ⟨D, hD⟩ : ∃ D, runDn (stG G true a) 1 100 t = D := ⟨_, rfl⟩
  obtain ⟨U, hU⟩ : ∃ U, runUp (stG G true a) 1 100 (t + 1) = U := ⟨_, rfl⟩
  have HD := Lib.hid hD
  have HU := Lib.hid hU
  have hw : wholeE G true 1 a t = Ed.mk a U a D := by unfold wholeE; rw [hD, hU]; rfl
  rw [hw]
  have S0 := WB.start hG a (t + 1) a t
  have ed := Go.IntWalk.i64_in (t + 1 - t) (by omega)
  have ed2 := Go.IntWalk.i64_in (t - (t + 1)) (by omega)
  have ea := Go.IntWalk.i64_in (a - a) (by omega)
  have x1 : t + 1 - t = 1 := by omega
  have x2 : t - (t + 1) = -1 := by omega
  have x3 : a - a = 0 := by omega
  clear hG hD hU hw
  unfold Ed.val
  dsimp only
  go_enter Tryz.func105, Tryz.ntmps105
  go_wp2
  go_loopw [] (fun wx => ∃ q : Int, t + 1 ≤ q ∧ q ≤ 40 ∧ Hid (runUp (stG G true a) 1 (100 - (q - (t + 1)).toNat) q = U) ∧ WB w wx u G a q a t) (fun wx => leftUp w.heap.size 1 wx)
  case atStart => exact ⟨t + 1, by omega, by omega, by rw [show 100 - (t + 1 - (t + 1)).toNat = 100 by omega]; exact HU, S0⟩
  case round =>
    obtain ⟨q, h1, h2, HR, S⟩ := hrel
    clear S0
    obtain ⟨c0, c1, c2, c3⟩ := box4 S.box
    have fz := S.box.frozen
    have f0 := fz 0
    have f1 := fz 1
    have e1 := Go.IntWalk.i64_in (q - 1) (by omega)
    have e2 := Go.IntWalk.i64_in (q + 1) (by omega)
    have m0 := leftUp_eq c1
    have HC := Lib.hid (is_any u G a (q + 1) 0 (-1) wr S.gs (by omega) (by omega))
    by_cases hf : stG G true a q = 1
    · have hs : isSide G a (q + 1) 0 (-1) = true := by rw [side_v1 G q a]; simpa using hf
      have HS := Lib.hid hs
      have hrg := (by have := stG_in (G := G) (v := true) (a := a) (t := q) (by rw [hf]; decide); omega)
      have S2 := Lib.hid ((S.put 0 a a q a t rfl).put 1 ((q + 1)) a (q + 1) a t rfl)
      have fz2 := (S.put 0 a a q a t rfl).box.frozen 1
      obtain ⟨k0, k1, k2, k3⟩ := box4 (S.put 0 a a q a t rfl).box
      clear S hs fz
      go_wp2_with (go_at_call 137; (with_reducible refine HC.out.mono ?_); rintro e w1 ⟨he, rfl⟩; rw [HS.out] at he; subst he)
      refine ⟨⟨(q + 1), by omega, by omega, Lib.hid (up_in HR.out (by omega) hf), S2.out⟩, ?_⟩
      have hm1 := leftUp_eq (x := (q + 1)) (S2.out.box.cell 1)
      rw [m0]
      exact Nat.lt_of_le_of_lt (Nat.le_of_eq hm1) (by omega)
    · have hs : isSide G a (q + 1) 0 (-1) = false := by rw [side_v1 G q a]; simpa using hf
      have HS := Lib.hid hs
      obtain rfl : U = q := (up_out HR.out (by omega) hf).symm
      clear hs fz
      go_wp2_with (go_at_call 137; (with_reducible refine HC.out.mono ?_); rintro e w1 ⟨he, rfl⟩; rw [HS.out] at he; subst he)
      have S9 := S
      clear S c0 c1 c2 c3 f0 f1 m0 HC HS h1 h2 HR hf
      go_loopw [] (fun wx => ∃ s : Int, -40 ≤ s ∧ s ≤ t ∧ Hid (runDn (stG G true a) 1 (100 - (t - s).toNat) s = D) ∧ WB w wx u G a U a s) (fun wx => leftDn w.heap.size 3 wx)
      case atStart => exact ⟨t, by omega, by omega, by rw [show 100 - (t - t).toNat = 100 by omega]; exact HD, S9⟩
      case round =>
        obtain ⟨s, h1, h2, HR, S⟩ := hrel
        clear S9
        obtain ⟨c0, c1, c2, c3⟩ := box4 S.box
        have fz := S.box.frozen
        have f0 := fz 2
        have f1 := fz 3
        have e1 := Go.IntWalk.i64_in (s - 1) (by omega)
        have e2 := Go.IntWalk.i64_in (s + 1) (by omega)
        have m0 := leftDn_eq c3
        have HC := Lib.hid (is_any u G a s 0 (-1) wr S.gs (by omega) (by omega))
        by_cases hf : stG G true a (s - 1) = 1
        · have hs : isSide G a s 0 (-1) = true := by rw [show s = s - 1 + 1 by omega]; rw [side_v1 G (s - 1) a]; simpa using hf
          have HS := Lib.hid hs
          have hrg := (by have := stG_in (G := G) (v := true) (a := a) (t := (s - 1)) (by rw [hf]; decide); omega)
          have S2 := Lib.hid ((S.put 2 a a U a s rfl).put 3 ((s - 1)) a U a (s - 1) rfl)
          have fz2 := (S.put 2 a a U a s rfl).box.frozen 3
          obtain ⟨k0, k1, k2, k3⟩ := box4 (S.put 2 a a U a s rfl).box
          clear S hs fz
          go_wp2_with (go_at_call 137; (with_reducible refine HC.out.mono ?_); rintro e w1 ⟨he, rfl⟩; rw [HS.out] at he; subst he)
          refine ⟨⟨(s - 1), by omega, by omega, Lib.hid (dn_in HR.out (by omega) hf), S2.out⟩, ?_⟩
          have hm1 := leftDn_eq (x := (s - 1)) (S2.out.box.cell 3)
          rw [m0]
          exact Nat.lt_of_le_of_lt (Nat.le_of_eq hm1) (by omega)
        · have hs : isSide G a s 0 (-1) = false := by rw [show s = s - 1 + 1 by omega]; rw [side_v1 G (s - 1) a]; simpa using hf
          have HS := Lib.hid hs
          obtain rfl : D = s := (dn_out HR.out (by omega) hf).symm
          clear hs fz
          obtain ⟨r0, r1, r2, r3⟩ := box4 S.res
          have rf := S.res.frozen
          have HB := Lib.hid S.bel
          clear S
          go_wp2_with (go_at_call 137; (with_reducible refine HC.out.mono ?_); rintro e w1 ⟨he, rfl⟩; rw [HS.out] at he; subst he)
          refine bodyPost_ret (v := .agg #[.int .i64 a, .int .i64 U, .int .i64 a, .int .i64 D]) (by simp [results, Tryz.results105, go_sem, *]) rfl ?_
          exact ⟨rfl, (((HB.out.setCell (p := ⟨w.heap.size + 1, 0, none⟩) (Nat.le_succ _) _).setCell (p := ⟨w.heap.size + 1, 1, none⟩) (Nat.le_succ _) _).setCell (p := ⟨w.heap.size + 1, 2, none⟩) (Nat.le_succ _) _).setCell (p := ⟨w.heap.size + 1, 3, none⟩) (Nat.le_succ _) _⟩

set_option maxHeartbeats 1600000 in
set_option maxRecDepth 100000 in
theorem wholeD_any (u : Value) (G : Gr) (a t : Int) (w : World) (hG : GS w 0 u G) (h : stG G true a t = (-1)) :
    Calls Tryz.prog 105 #[u, (Ed.mk a t a (t + 1)).val] w fun e w' => e = .returned (wholeE G true (-1) a t).val ∧ Below w.heap.size w w' := by
  have hin := stG_in (G := G) (v := true) (a := a) (t := t) (by rw [h]; decide)
  obtain ⟨D, hD⟩ : ∃ D, runDn (stG G true a) (-1) 100 t = D := ⟨_, rfl⟩
  obtain ⟨U, hU⟩ : ∃ U, runUp (stG G true a) (-1) 100 (t + 1) = U := ⟨_, rfl⟩
  have HD := Lib.hid hD
  have HU := Lib.hid hU
  have hw : wholeE G true (-1) a t = Ed.mk a D a U := by unfold wholeE; rw [hD, hU]; rfl
  rw [hw]
  have S0 := WB.start hG a t a (t + 1)
  have ed := Go.IntWalk.i64_in (t + 1 - t) (by omega)
  have ed2 := Go.IntWalk.i64_in (t - (t + 1)) (by omega)
  have ea := Go.IntWalk.i64_in (a - a) (by omega)
  have x1 : t + 1 - t = 1 := by omega
  have x2 : t - (t + 1) = -1 := by omega
  have x3 : a - a = 0 := by omega
  clear hG hD hU hw
  unfold Ed.val
  dsimp only
  go_enter Tryz.func105, Tryz.ntmps105
  go_wp2
  go_loopw [] (fun wx => ∃ s : Int, -40 ≤ s ∧ s ≤ t ∧ Hid (runDn (stG G true a) (-1) (100 - (t - s).toNat) s = D) ∧ WB w wx u G a s a (t + 1)) (fun wx => leftDn w.heap.size 1 wx)
  case atStart => exact ⟨t, by omega, by omega, by rw [show 100 - (t - t).toNat = 100 by omega]; exact HD, S0⟩
  case round =>
    obtain ⟨s, h1, h2, HR, S⟩ := hrel
    clear S0
    obtain ⟨c0, c1, c2, c3⟩ := box4 S.box
    have fz := S.box.frozen
    have f0 := fz 0
    have f1 := fz 1
    have e1 := Go.IntWalk.i64_in (s - 1) (by omega)
    have e2 := Go.IntWalk.i64_in (s + 1) (by omega)
    have m0 := leftDn_eq c1
    have HC := Lib.hid (is_any u G a (s - 1) 0 1 wr S.gs (by omega) (by omega))
    by_cases hf : stG G true a (s - 1) = (-1)
    · have hs : isSide G a (s - 1) 0 1 = true := by rw [side_v2 G (s - 1) a]; simpa using hf
      have HS := Lib.hid hs
      have hrg := (by have := stG_in (G := G) (v := true) (a := a) (t := (s - 1)) (by rw [hf]; decide); omega)
      have S2 := Lib.hid ((S.put 0 a a s a (t + 1) rfl).put 1 ((s - 1)) a (s - 1) a (t + 1) rfl)
      have fz2 := (S.put 0 a a s a (t + 1) rfl).box.frozen 1
      obtain ⟨k0, k1, k2, k3⟩ := box4 (S.put 0 a a s a (t + 1) rfl).box
      clear S hs fz
      go_wp2_with (go_at_call 137; (with_reducible refine HC.out.mono ?_); rintro e w1 ⟨he, rfl⟩; rw [HS.out] at he; subst he)
      refine ⟨⟨(s - 1), by omega, by omega, Lib.hid (dn_in HR.out (by omega) hf), S2.out⟩, ?_⟩
      have hm1 := leftDn_eq (x := (s - 1)) (S2.out.box.cell 1)
      rw [m0]
      exact Nat.lt_of_le_of_lt (Nat.le_of_eq hm1) (by omega)
    · have hs : isSide G a (s - 1) 0 1 = false := by rw [side_v2 G (s - 1) a]; simpa using hf
      have HS := Lib.hid hs
      obtain rfl : D = s := (dn_out HR.out (by omega) hf).symm
      clear hs fz
      go_wp2_with (go_at_call 137; (with_reducible refine HC.out.mono ?_); rintro e w1 ⟨he, rfl⟩; rw [HS.out] at he; subst he)
      have S9 := S
      clear S c0 c1 c2 c3 f0 f1 m0 HC HS h1 h2 HR hf
      go_loopw [] (fun wx => ∃ q : Int, t + 1 ≤ q ∧ q ≤ 40 ∧ Hid (runUp (stG G true a) (-1) (100 - (q - (t + 1)).toNat) q = U) ∧ WB w wx u G a D a q) (fun wx => leftUp w.heap.size 3 wx)
      case atStart => exact ⟨t + 1, by omega, by omega, by rw [show 100 - (t + 1 - (t + 1)).toNat = 100 by omega]; exact HU, S9⟩
      case round =>
        obtain ⟨q, h1, h2, HR, S⟩ := hrel
        clear S9
        obtain ⟨c0, c1, c2, c3⟩ := box4 S.box
        have fz := S.box.frozen
        have f0 := fz 2
        have f1 := fz 3
        have e1 := Go.IntWalk.i64_in (q - 1) (by omega)
        have e2 := Go.IntWalk.i64_in (q + 1) (by omega)
        have m0 := leftUp_eq c3
        have HC := Lib.hid (is_any u G a q 0 1 wr S.gs (by omega) (by omega))
        by_cases hf : stG G true a q = (-1)
        · have hs : isSide G a q 0 1 = true := by rw [side_v2 G q a]; simpa using hf
          have HS := Lib.hid hs
          have hrg := (by have := stG_in (G := G) (v := true) (a := a) (t := q) (by rw [hf]; decide); omega)
          have S2 := Lib.hid ((S.put 2 a a D a q rfl).put 3 ((q + 1)) a D a (q + 1) rfl)
          have fz2 := (S.put 2 a a D a q rfl).box.frozen 3
          obtain ⟨k0, k1, k2, k3⟩ := box4 (S.put 2 a a D a q rfl).box
          clear S hs fz
          go_wp2_with (go_at_call 137; (with_reducible refine HC.out.mono ?_); rintro e w1 ⟨he, rfl⟩; rw [HS.out] at he; subst he)
          refine ⟨⟨(q + 1), by omega, by omega, Lib.hid (up_in HR.out (by omega) hf), S2.out⟩, ?_⟩
          have hm1 := leftUp_eq (x := (q + 1)) (S2.out.box.cell 3)
          rw [m0]
          exact Nat.lt_of_le_of_lt (Nat.le_of_eq hm1) (by omega)
        · have hs : isSide G a q 0 1 = false := by rw [side_v2 G q a]; simpa using hf
          have HS := Lib.hid hs
          obtain rfl : U = q := (up_out HR.out (by omega) hf).symm
          clear hs fz
          obtain ⟨r0, r1, r2, r3⟩ := box4 S.res
          have rf := S.res.frozen
          have HB := Lib.hid S.bel
          clear S
          go_wp2_with (go_at_call 137; (with_reducible refine HC.out.mono ?_); rintro e w1 ⟨he, rfl⟩; rw [HS.out] at he; subst he)
          refine bodyPost_ret (v := .agg #[.int .i64 a, .int .i64 D, .int .i64 a, .int .i64 U]) (by simp [results, Tryz.results105, go_sem, *]) rfl ?_
          exact ⟨rfl, (((HB.out.setCell (p := ⟨w.heap.size + 1, 0, none⟩) (Nat.le_succ _) _).setCell (p := ⟨w.heap.size + 1, 1, none⟩) (Nat.le_succ _) _).setCell (p := ⟨w.heap.size + 1, 2, none⟩) (Nat.le_succ _) _).setCell (p := ⟨w.heap.size + 1, 3, none⟩) (Nat.le_succ _) _⟩
end Go.Proofs.YtjiljodchebniaaGreat

namespace Go.Proofs.YtjiljodchebniaaGreat
open Go.RowKit

theorem flatE_take (rs : List Ed) (m : Nat) : (flatE rs).take (m * 4) = flatE (rs.take m) := by
  induction rs generalizing m with
  | nil => simp [flatE]
  | cons r rs ih =>
    cases m with
    | zero => simp [flatE]
    | succ m =>
      have e : ∀ l, flatE (r :: l) = Value.int .i64 r.x0 :: .int .i64 r.y0 :: .int .i64 r.x1 :: .int .i64 r.y1 :: flatE l := fun l => rfl
      rw [List.take_succ_cons, e, e, show (m + 1) * 4 = m * 4 + 1 + 1 + 1 + 1 by omega]
      simp only [List.take_succ_cons, ih m]
theorem flatE_drop (rs : List Ed) (m : Nat) : (flatE rs).drop (m * 4) = flatE (rs.drop m) := by
  induction rs generalizing m with
  | nil => simp [flatE]
  | cons r rs ih =>
    cases m with
    | zero => simp
    | succ m =>
      have e : ∀ l, flatE (r :: l) = Value.int .i64 r.x0 :: .int .i64 r.y0 :: .int .i64 r.x1 :: .int .i64 r.y1 :: flatE l := fun l => rfl
      rw [List.drop_succ_cons, e, show (m + 1) * 4 = m * 4 + 1 + 1 + 1 + 1 by omega]
      simp only [List.drop_succ_cons, ih m]
theorem less_four (a b c d a' b' c' d' : Int) (w : World) : Calls Tryz.prog 136 #[.agg #[.int .i64 a, .int .i64 b, .int .i64 c, .int .i64 d], .agg #[.int .i64 a', .int .i64 b', .int .i64 c', .int .i64 d']] w fun e w' => e = .returned (.bool (edLt ⟨a, b, c, d⟩ ⟨a', b', c', d'⟩)) ∧ Below w.heap.size w w' := less_any ⟨a, b, c, d⟩ ⟨a', b', c', d'⟩ w
/-- The first m edges of a list. -/
theorem EL.cut {w : World} {B g n c : Nat} {rs : List Ed} (h : EL w B (.slice (some ⟨g, 0, none⟩) n c) rs) (m : Nat) (hm : m ≤ rs.length) : EL w B (.slice (some ⟨g, 0, none⟩) m c) (rs.take m) := by
  rcases h.2 with ⟨h', _⟩ | ⟨g', cap, cur, h', hb, hg, hnc, hcm, hcs, htk⟩
  · cases h'
  · simp only [Value.slice.injEq, Option.some.injEq, Addr.mk.injEq, and_true] at h'
    obtain ⟨rfl, rfl, rfl⟩ := h'
    refine ⟨by rw [flatE_length, List.length_take], .inr ⟨_, _, cur, by rw [List.length_take, Nat.min_eq_left hm], hb, hg, by rw [List.length_take]; omega, hcm, hcs, ?_⟩⟩
    rw [List.length_take, Nat.min_eq_left hm, ← flatE_take, ← htk, List.take_take]
    congr 1
    omega
/-- 'append(a, b...)', a a list of the call's own. -/
theorem wpList_append_EE {w : World} {ops : Array Oper} {rest : List Oper} {o : Oper} {a : Act} {Q : Exit → Act → World → Prop} (hgd : o.guard = none) (s x : Operand)
    (ho : o.op = .call { callee := .builtin .append, args := #[s, x], argTypes := #[41, 41] })
    (B B' : Nat) (v u : Value) (rs qs : List Ed) (hs : a.eval s = v) (hown : EL w B v rs) (hx : a.eval x = u) (hu : EL w B' u qs)
    (hlen : rs.length + qs.length ≤ 1000000) (hB : B ≤ w.heap.size)
    (h : ∀ v' w', EL w' B v' (rs ++ qs) → Below B w w' → wpList Tryz.prog ops Q rest (a.put o.dst v') w') :
    wpList Tryz.prog ops Q (o :: rest) a w := by
  obtain ⟨i, hi, hz, hsz, hby⟩ := info_parts infoEdge
  have hu0 := hu
  unfold EL at hu
  rcases hu.2 with ⟨hv, hn⟩ | ⟨g, cap, cur, hv, hg, hh, hnc, hcm, hcs, htake⟩
  · have hq : qs = [] := List.length_eq_zero_iff.1 hn
    subst hq
    refine wpList_append_own_none hgd s x 41 ho B 48 i 4 Tryz.underlying41 hi v rs.length (flatE rs) hs hown (hx.trans hv) ?_
    exact h v w (by rw [List.append_nil]; exact hown) (Below.refl _ _)
  · refine wpList_append_own _ hgd s x 41 ho B 48 i _ 4 32 Tryz.underlying41 hi hz hsz hby rfl (by decide) v rs.length (flatE rs) hs hown ⟨g, 0, none⟩ qs.length cap
      (flatE qs) (hx.trans hv) (flatE_length qs) ?_ ?_ (by simp only [maxLen]; omega) (by omega) hB ?_
    · intro j y hy
      rw [Addr.add_lit, Nat.zero_add, cell_of_row w g j cur _ (0, 0) hh]
      rw [← htake, List.getElem?_take] at hy
      split at hy
      · simpa using hy
      · cases hy
    · intro y hy
      simp only [flatE, List.mem_flatMap, Ed.vals] at hy
      obtain ⟨r, _, hy⟩ := hy
      simp at hy
      rcases hy with rfl | rfl | rfl | rfl <;> rfl
    · intro v' w' h1 h2 _
      refine h v' w' ?_ (below_own hown h2 hB)
      unfold EL
      rw [flatE_append, List.length_append]
      exact h1

/-- 'append(a, b[i:]...)'. -/
theorem wpList_append_ET {w : World} {ops : Array Oper} {rest : List Oper} {o : Oper} {a : Act} {Q : Exit → Act → World → Prop} (hgd : o.guard = none) (s x : Operand)
    (ho : o.op = .call { callee := .builtin .append, args := #[s, x], argTypes := #[41, 41] })
    (B B' : Nat) (v : Value) (g n c off m c' : Nat) (rs qs : List Ed) (i : Nat) (hs : a.eval s = v) (hown : EL w B v rs) (hx : a.eval x = .slice (some ⟨g, off, none⟩) m c') (hu : EL w B' (.slice (some ⟨g, 0, none⟩) n c) qs) (hi : i ≤ qs.length) (hm : m = qs.length - i) (hoff : i < qs.length → off = i * 4)
    (hlen : rs.length + qs.length ≤ 1000000) (hB : B ≤ w.heap.size)
    (h : ∀ v' w', EL w' B v' (rs ++ qs.drop i) → Below B w w' → wpList Tryz.prog ops Q rest (a.put o.dst v') w') :
    wpList Tryz.prog ops Q (o :: rest) a w := by
  obtain ⟨i0, hi0, hz, hsz, hby⟩ := info_parts infoEdge
  obtain ⟨_, _, en, -, -, -⟩ := hu.form
  simp only [Value.slice.injEq] at en
  obtain ⟨-, rfl, -⟩ := en
  subst hm
  refine wpList_append_own _ hgd s x 41 ho B 48 i0 _ 4 32 Tryz.underlying41 hi0 hz hsz hby rfl (by decide) v rs.length (flatE rs) hs hown ⟨g, off, none⟩ (qs.length - i) c'
    (flatE (qs.drop i)) hx (by rw [flatE_length, List.length_drop]) ?_ ?_ (by simp only [maxLen]; omega) (by omega) hB ?_
  · intro j y hy
    have hj := (List.getElem?_eq_some_iff.1 hy).1
    rw [flatE_length, List.length_drop] at hj
    rw [Addr.add_lit, hoff (by omega)]
    rw [← flatE_drop, List.getElem?_drop] at hy
    rw [World.ownsRow.cellAt hu (i * 4 + j) (by omega)]
    exact hy
  · intro y hy
    simp only [flatE, List.mem_flatMap, Ed.vals] at hy
    obtain ⟨r, _, hy⟩ := hy
    simp at hy
    rcases hy with rfl | rfl | rfl | rfl <;> rfl
  · intro v' w' h1 h2 _
    refine h v' w' ?_ (below_own hown h2 hB)
    unfold EL
    rw [flatE_append, List.length_append, List.length_drop]
    exact h1

end Go.Proofs.YtjiljodchebniaaGreat

namespace Go.Proofs.YtjiljodchebniaaGreat
open Go.RowKit

theorem data_one {v v' : Bool} {k k' a a' t t' : Int} (hk : k = 1 ∨ k = -1) (hk' : k' = 1 ∨ k' = -1) (h : edOf v k a t (t + 1) = edOf v' k' a' t' (t' + 1)) : v = v' ∧ k = k' ∧ a = a' ∧ t = t' := by
  cases v <;> cases v' <;> rcases hk with rfl | rfl <;> rcases hk' with rfl | rfl <;> simp [edOf] at h ⊢ <;> omega
/-- x is the edge that begins with the side e. -/
def Added (G : Gr) (e x : Ed) : Prop := ∃ v k a t, SideC G e v k a t ∧ FirstC G v k a t ∧ x = wholeE G v k a t
theorem added_yes {G : Gr} {e : Ed} {v : Bool} {k a t : Int} (h : SideC G e v k a t) (hf : FirstC G v k a t) (x : Ed) : Added G e x ↔ x = wholeE G v k a t := by
  constructor
  · rintro ⟨v', k', a', t', h', -, rfl⟩
    obtain ⟨rfl, rfl, rfl, rfl⟩ := data_one h.1 h'.1 (h.2.2.symm.trans h'.2.2)
    rfl
  · rintro rfl
    exact ⟨v, k, a, t, h, hf, rfl⟩
theorem added_no {G : Gr} {e : Ed} {v : Bool} {k a t : Int} (h : SideC G e v k a t) (hf : ¬ FirstC G v k a t) (x : Ed) : ¬ Added G e x := by
  rintro ⟨v', k', a', t', h', hf', rfl⟩
  obtain ⟨rfl, rfl, rfl, rfl⟩ := data_one h.1 h'.1 (h.2.2.symm.trans h'.2.2)
  exact hf hf'
theorem added_step {G : Gr} {S L L' : List Ed} {i : Nat} {e : Ed} (hL : ∀ x, x ∈ L ↔ ∃ j e, j < i ∧ S[j]? = some e ∧ Added G e x) (he : S[i]? = some e) (h : ∀ x, x ∈ L' ↔ Added G e x ∨ x ∈ L) : ∀ x, x ∈ L' ↔ ∃ j e, j < i + 1 ∧ S[j]? = some e ∧ Added G e x := by
  intro x
  rw [h, hL]
  constructor
  · rintro (h1 | ⟨j, e', h1, h2, h3⟩)
    · exact ⟨i, e, by omega, he, h1⟩
    · exact ⟨j, e', by omega, h2, h3⟩
  · rintro ⟨j, e', h1, h2, h3⟩
    by_cases hj : j = i
    · subst hj
      rw [he] at h2
      exact .inl (Option.some.inj h2 ▸ h3)
    · exact .inr ⟨j, e', by omega, h2, h3⟩
theorem edges_all {G : Gr} {L : List Ed} (h : ∀ x, x ∈ L ↔ ∃ j e, j < (sidesTo G 6400).length ∧ (sidesTo G 6400)[j]? = some e ∧ Added G e x) : EdgesOf G L := by
  intro x
  rw [h, edges_iff]
  constructor
  · rintro ⟨j, e, -, -, v, k, a, t, h1, h2, h3⟩
    exact ⟨v, k, a, t, h1.1, h1.2.1, h2, h3⟩
  · rintro ⟨v, k, a, t, hk, hs, hf, rfl⟩
    have hm : edOf v k a t (t + 1) ∈ sidesTo G 6400 := (sides_mem G _).2 ⟨v, k, a, t, hk, hs, rfl⟩
    obtain ⟨j, hj⟩ := List.getElem?_of_mem hm
    exact ⟨j, _, (List.getElem?_eq_some_iff.1 hj).1, hj, v, k, a, t, ⟨hk, hs, rfl⟩, hf, rfl⟩
theorem putE_len (l : List Ed) (e : Ed) : (putE l e).length ≤ l.length + 1 := by
  induction l with
  | nil => simp [putE]
  | cons a r ih =>
    unfold putE
    split
    · simp; omega
    · split <;> simp

end Go.Proofs.YtjiljodchebniaaGreat
