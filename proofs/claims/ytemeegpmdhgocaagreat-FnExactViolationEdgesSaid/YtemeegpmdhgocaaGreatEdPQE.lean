/- Contracts: l06Whole. Condition: a side of the set. Contract: l06Put. Condition: a list of edges in memory. Contract: l06Edges, the edges of a set. Condition: a set of cells in memory. -/
import Derived.Test.YtemeegpmdhgocaaGreatEdS
import Derived.Deep.RegionHeld3
import Derived.Laws.AppendOwnNone
import Derived.Deep.QuietTactic
import Derived.BigQuiet
namespace Go.Proofs.YtemeegpmdhgocaaGreat
open Go.RowKit

/-- What is left of a run, by the place in the box's cell. -/
def leftUp (b i : Nat) (w : World) : Nat := match w.cell? ⟨b, i, none⟩ with
  | some (.int _ x) => (100 - x).toNat
  | _ => 0
def leftDn (b i : Nat) (w : World) : Nat := match w.cell? ⟨b, i, none⟩ with
  | some (.int _ x) => (100 + x).toNat
  | _ => 0
theorem leftUp_eq {b i : Nat} {w : World} {x : Int} (h : w.cell? ⟨b, i, none⟩ = some (.int .i64 x)) : leftUp b i w = (100 - x).toNat := by simp [leftUp, h]
theorem leftDn_eq {b i : Nat} {w : World} {x : Int} (h : w.cell? ⟨b, i, none⟩ = some (.int .i64 x)) : leftDn b i w = (100 + x).toNat := by simp [leftDn, h]
theorem dn_in {f : Int → Int} {k D s t : Int} (h : runDn f k (100 - (t - s).toNat) s = D) (hs : s ≤ t ∧ t - s ≤ 90) (hf : f (s - 1) = k) : runDn f k (100 - (t - (s - 1)).toNat) (s - 1) = D := by
  rw [show 100 - (t - s).toNat = (100 - (t - (s - 1)).toNat) + 1 by omega, runDn, if_pos hf] at h
  exact h
theorem dn_out {f : Int → Int} {k D s t : Int} (h : runDn f k (100 - (t - s).toNat) s = D) (hs : s ≤ t ∧ t - s ≤ 90) (hf : f (s - 1) ≠ k) : s = D := by
  rw [show 100 - (t - s).toNat = (99 - (t - s).toNat) + 1 by omega, runDn, if_neg hf] at h
  exact h
theorem up_in {f : Int → Int} {k U q t : Int} (h : runUp f k (100 - (q - t).toNat) q = U) (hq : t ≤ q ∧ q - t ≤ 90) (hf : f q = k) : runUp f k (100 - (q + 1 - t).toNat) (q + 1) = U := by
  rw [show 100 - (q - t).toNat = (100 - (q + 1 - t).toNat) + 1 by omega, runUp, if_pos hf] at h
  exact h
theorem up_out {f : Int → Int} {k U q t : Int} (h : runUp f k (100 - (q - t).toNat) q = U) (hq : t ≤ q ∧ q - t ≤ 90) (hf : f q ≠ k) : q = U := by
  rw [show 100 - (q - t).toNat = (99 - (q - t).toNat) + 1 by omega, runUp, if_neg hf] at h
  exact h
/-- The box of the edge under way, and the result's. -/
structure WB (w W : World) (v : Value) (G : Gr) (x0 y0 x1 y1 : Int) : Prop where
  box : Bk W w.heap.size 70 #[.int .i64 x0, .int .i64 y0, .int .i64 x1, .int .i64 y1]
  res : Bk W (w.heap.size + 1) 70 #[.int .i64 0, .int .i64 0, .int .i64 0, .int .i64 0]
  gs : GS W 0 v G
  bel : Below w.heap.size w W
theorem GS.put {w : World} {v : Value} {G : Gr} (h : GS w 0 v G) {b : Nat} {cs : Array Value} (hb : Bk w b 70 cs) (i : Nat) (x : Value) : GS (w.setCell ⟨b, i, none⟩ x) 0 v G := by
  obtain ⟨g, c, hv, h0, hg⟩ := h
  refine ⟨g, c, hv, h0, hg.other (p := ⟨b, i, none⟩) ?_ x⟩
  obtain ⟨cs', h1, -⟩ := hg
  exact bk_two h1 hb (by decide)
theorem WB.put {w W : World} {v : Value} {G : Gr} {x0 y0 x1 y1 : Int} (h : WB w W v G x0 y0 x1 y1) (i : Nat) (z a0 b0 a1 b1 : Int) (e : (#[.int .i64 x0, .int .i64 y0, .int .i64 x1, .int .i64 y1] : Array Value).setIfInBounds i (.int .i64 z) = #[.int .i64 a0, .int .i64 b0, .int .i64 a1, .int .i64 b1]) : WB w (W.setCell ⟨w.heap.size, i, none⟩ (.int .i64 z)) v G a0 b0 a1 b1 :=
  ⟨by rw [← e]; exact h.box.store i _, h.res.other (p := ⟨w.heap.size, i, none⟩) (by simp) _, h.gs.put h.box i _, h.bel.setCell (p := ⟨w.heap.size, i, none⟩) (Nat.le_refl _) _⟩
theorem WB.start {w : World} {v : Value} {G : Gr} (hG : GS w 0 v G) (x0 y0 x1 y1 : Int) : WB w ((w.alloc (.cells #[.int .i64 x0, .int .i64 y0, .int .i64 x1, .int .i64 y1] 70)).alloc (.cells #[.int .i64 0, .int .i64 0, .int .i64 0, .int .i64 0] 70)) v G x0 y0 x1 y1 := by
  refine ⟨(Bk.new w _ _).alloc _, ?_, hG.on (((Below.refl _ _).alloc (Nat.le_refl _) _).alloc (by simp) _), ((Below.refl _ _).alloc (Nat.le_refl _) _).alloc (by simp) _⟩
  have := Bk.new (w.alloc (.cells #[.int .i64 x0, .int .i64 y0, .int .i64 x1, .int .i64 y1] 70)) 70 #[.int .i64 0, .int .i64 0, .int .i64 0, .int .i64 0]
  simpa using this


set_option maxHeartbeats 1600000 in
set_option maxRecDepth 100000 in
theorem wholeA_any (u : Value) (G : Gr) (a t : Int) (w : World) (hG : GS w 0 u G) (h : stG G false a t = 1) :
    Calls Tryz.prog 88 #[u, (Ed.mk t a (t + 1) a).val] w fun e w' => e = .returned (wholeE G false 1 a t).val ∧ Below w.heap.size w w' := by
  have hin := stG_in (G := G) (v := false) (a := a) (t := t) (by rw [h]; decide)
  obtain ⟨D, hD⟩ : ∃ D, runDn (stG G false a) 1 100 t = D := ⟨_, rfl⟩
  obtain ⟨U, hU⟩ : ∃ U, runUp (stG G false a) 1 100 (t + 1) = U := ⟨_, rfl⟩
  have HD := Lib.hid hD
  have HU := Lib.hid hU
  have hw : wholeE G false 1 a t = Ed.mk D a U a := by unfold wholeE; rw [hD, hU]; rfl
  rw [hw]
  have S0 := WB.start hG t a (t + 1) a
  have ed := Go.IntWalk.i64_in (t + 1 - t) (by omega)
  have ed2 := Go.IntWalk.i64_in (t - (t + 1)) (by omega)
  have ea := Go.IntWalk.i64_in (a - a) (by omega)
  have x1 : t + 1 - t = 1 := by omega
  have x2 : t - (t + 1) = -1 := by omega
  have x3 : a - a = 0 := by omega
  clear hG hD hU hw
  unfold Ed.val
  dsimp only
  go_enter Tryz.func88, Tryz.ntmps88
  go_wp2
  go_loopw [] (fun wx => ∃ s : Int, -40 ≤ s ∧ s ≤ t ∧ Hid (runDn (stG G false a) 1 (100 - (t - s).toNat) s = D) ∧ WB w wx u G s a (t + 1) a) (fun wx => leftDn w.heap.size 0 wx)
  case atStart => exact ⟨t, by omega, by omega, by rw [show 100 - (t - t).toNat = 100 by omega]; exact HD, S0⟩
  case round =>
    obtain ⟨s, h1, h2, HR, S⟩ := hrel
    clear S0
    obtain ⟨c0, c1, c2, c3⟩ := box4 S.box
    have fz := S.box.frozen
    have f0 := fz 0
    have f1 := fz 1
    have e1 := Go.IntWalk.i64_in (s - 1) (by omega)
    have e2 := Go.IntWalk.i64_in (s + 1) (by omega)
    have m0 := leftDn_eq c0
    have HC := Lib.hid (is_any u G (s - 1) a 1 0 wr S.gs (by omega) (by omega))
    by_cases hf : stG G false a (s - 1) = 1
    · have hs : isSide G (s - 1) a 1 0 = true := by rw [side_h1 G (s - 1) a]; simpa using hf
      have HS := Lib.hid hs
      have hrg := (by have := stG_in (G := G) (v := false) (a := a) (t := (s - 1)) (by rw [hf]; decide); omega)
      have S2 := Lib.hid ((S.put 0 ((s - 1)) (s - 1) a (t + 1) a rfl).put 1 a (s - 1) a (t + 1) a rfl)
      have fz2 := (S.put 0 ((s - 1)) (s - 1) a (t + 1) a rfl).box.frozen 1
      obtain ⟨k0, k1, k2, k3⟩ := box4 (S.put 0 ((s - 1)) (s - 1) a (t + 1) a rfl).box
      clear S hs fz
      go_wp2_with (go_at_call 87; (with_reducible refine HC.out.mono ?_); rintro e w1 ⟨he, rfl⟩; rw [HS.out] at he; subst he)
      refine ⟨⟨(s - 1), by omega, by omega, Lib.hid (dn_in HR.out (by omega) hf), S2.out⟩, ?_⟩
      have hm1 := leftDn_eq (x := (s - 1)) (S2.out.box.cell 0)
      rw [m0]
      exact Nat.lt_of_le_of_lt (Nat.le_of_eq hm1) (by omega)
    · have hs : isSide G (s - 1) a 1 0 = false := by rw [side_h1 G (s - 1) a]; simpa using hf
      have HS := Lib.hid hs
      obtain rfl : D = s := (dn_out HR.out (by omega) hf).symm
      clear hs fz
      go_wp2_with (go_at_call 87; (with_reducible refine HC.out.mono ?_); rintro e w1 ⟨he, rfl⟩; rw [HS.out] at he; subst he)
      have S9 := S
      clear S c0 c1 c2 c3 f0 f1 m0 HC HS h1 h2 HR hf
      go_loopw [] (fun wx => ∃ q : Int, t + 1 ≤ q ∧ q ≤ 40 ∧ Hid (runUp (stG G false a) 1 (100 - (q - (t + 1)).toNat) q = U) ∧ WB w wx u G D a q a) (fun wx => leftUp w.heap.size 2 wx)
      case atStart => exact ⟨t + 1, by omega, by omega, by rw [show 100 - (t + 1 - (t + 1)).toNat = 100 by omega]; exact HU, S9⟩
      case round =>
        obtain ⟨q, h1, h2, HR, S⟩ := hrel
        clear S9
        obtain ⟨c0, c1, c2, c3⟩ := box4 S.box
        have fz := S.box.frozen
        have f0 := fz 2
        have f1 := fz 3
        have e1 := Go.IntWalk.i64_in (q - 1) (by omega)
        have e2 := Go.IntWalk.i64_in (q + 1) (by omega)
        have m0 := leftUp_eq c2
        have HC := Lib.hid (is_any u G q a 1 0 wr S.gs (by omega) (by omega))
        by_cases hf : stG G false a q = 1
        · have hs : isSide G q a 1 0 = true := by rw [side_h1 G q a]; simpa using hf
          have HS := Lib.hid hs
          have hrg := (by have := stG_in (G := G) (v := false) (a := a) (t := q) (by rw [hf]; decide); omega)
          have S2 := Lib.hid ((S.put 2 ((q + 1)) D a (q + 1) a rfl).put 3 a D a (q + 1) a rfl)
          have fz2 := (S.put 2 ((q + 1)) D a (q + 1) a rfl).box.frozen 3
          obtain ⟨k0, k1, k2, k3⟩ := box4 (S.put 2 ((q + 1)) D a (q + 1) a rfl).box
          clear S hs fz
          go_wp2_with (go_at_call 87; (with_reducible refine HC.out.mono ?_); rintro e w1 ⟨he, rfl⟩; rw [HS.out] at he; subst he)
          refine ⟨⟨(q + 1), by omega, by omega, Lib.hid (up_in HR.out (by omega) hf), S2.out⟩, ?_⟩
          have hm1 := leftUp_eq (x := (q + 1)) (S2.out.box.cell 2)
          rw [m0]
          exact Nat.lt_of_le_of_lt (Nat.le_of_eq hm1) (by omega)
        · have hs : isSide G q a 1 0 = false := by rw [side_h1 G q a]; simpa using hf
          have HS := Lib.hid hs
          obtain rfl : U = q := (up_out HR.out (by omega) hf).symm
          clear hs fz
          obtain ⟨r0, r1, r2, r3⟩ := box4 S.res
          have rf := S.res.frozen
          have HB := Lib.hid S.bel
          clear S
          go_wp2_with (go_at_call 87; (with_reducible refine HC.out.mono ?_); rintro e w1 ⟨he, rfl⟩; rw [HS.out] at he; subst he)
          refine bodyPost_ret (v := .agg #[.int .i64 D, .int .i64 a, .int .i64 U, .int .i64 a]) (by simp [results, Tryz.results88, go_sem, *]) rfl ?_
          exact ⟨rfl, (((HB.out.setCell (p := ⟨w.heap.size + 1, 0, none⟩) (Nat.le_succ _) _).setCell (p := ⟨w.heap.size + 1, 1, none⟩) (Nat.le_succ _) _).setCell (p := ⟨w.heap.size + 1, 2, none⟩) (Nat.le_succ _) _).setCell (p := ⟨w.heap.size + 1, 3, none⟩) (Nat.le_succ _) _⟩

set_option maxHeartbeats 1600000 in
set_option maxRecDepth 100000 in
theorem wholeB_any (u : Value) (G : Gr) (a t : Int) (w : World) (hG : GS w 0 u G) (h : stG G false a t = (-1)) :
    Calls Tryz.prog 88 #[u, (Ed.mk (t + 1) a t a).val] w fun e w' => e = .returned (wholeE G false (-1) a t).val ∧ Below w.heap.size w w' := by
  have hin := stG_in (G := G) (v := false) (a := a) (t := t) (by rw [h]; decide)
  obtain ⟨D, hD⟩ : ∃ D, runDn (stG G false a) (-1) 100 t = D := ⟨_, rfl⟩
  obtain ⟨U, hU⟩ : ∃ U, runUp (stG G false a) (-1) 100 (t + 1) = U := ⟨_, rfl⟩
  have HD := Lib.hid hD
  have HU := Lib.hid hU
  have hw : wholeE G false (-1) a t = Ed.mk U a D a := by unfold wholeE; rw [hD, hU]; rfl
  rw [hw]
  have S0 := WB.start hG (t + 1) a t a
  have ed := Go.IntWalk.i64_in (t + 1 - t) (by omega)
  have ed2 := Go.IntWalk.i64_in (t - (t + 1)) (by omega)
  have ea := Go.IntWalk.i64_in (a - a) (by omega)
  have x1 : t + 1 - t = 1 := by omega
  have x2 : t - (t + 1) = -1 := by omega
  have x3 : a - a = 0 := by omega
  clear hG hD hU hw
  unfold Ed.val
  dsimp only
  go_enter Tryz.func88, Tryz.ntmps88
  go_wp2
  go_loopw [] (fun wx => ∃ q : Int, t + 1 ≤ q ∧ q ≤ 40 ∧ Hid (runUp (stG G false a) (-1) (100 - (q - (t + 1)).toNat) q = U) ∧ WB w wx u G q a t a) (fun wx => leftUp w.heap.size 0 wx)
  case atStart => exact ⟨t + 1, by omega, by omega, by rw [show 100 - (t + 1 - (t + 1)).toNat = 100 by omega]; exact HU, S0⟩
  case round =>
    obtain ⟨q, h1, h2, HR, S⟩ := hrel
    clear S0
    obtain ⟨c0, c1, c2, c3⟩ := box4 S.box
    have fz := S.box.frozen
    have f0 := fz 0
    have f1 := fz 1
    have e1 := Go.IntWalk.i64_in (q - 1) (by omega)
    have e2 := Go.IntWalk.i64_in (q + 1) (by omega)
    have m0 := leftUp_eq c0
    have HC := Lib.hid (is_any u G (q + 1) a (-1) 0 wr S.gs (by omega) (by omega))
    by_cases hf : stG G false a q = (-1)
    · have hs : isSide G (q + 1) a (-1) 0 = true := by rw [side_h2 G q a]; simpa using hf
      have HS := Lib.hid hs
      have hrg := (by have := stG_in (G := G) (v := false) (a := a) (t := q) (by rw [hf]; decide); omega)
      have S2 := Lib.hid ((S.put 0 ((q + 1)) (q + 1) a t a rfl).put 1 a (q + 1) a t a rfl)
      have fz2 := (S.put 0 ((q + 1)) (q + 1) a t a rfl).box.frozen 1
      obtain ⟨k0, k1, k2, k3⟩ := box4 (S.put 0 ((q + 1)) (q + 1) a t a rfl).box
      clear S hs fz
      go_wp2_with (go_at_call 87; (with_reducible refine HC.out.mono ?_); rintro e w1 ⟨he, rfl⟩; rw [HS.out] at he; subst he)
      refine ⟨⟨(q + 1), by omega, by omega, Lib.hid (up_in HR.out (by omega) hf), S2.out⟩, ?_⟩
      have hm1 := leftUp_eq (x := (q + 1)) (S2.out.box.cell 0)
      rw [m0]
      exact Nat.lt_of_le_of_lt (Nat.le_of_eq hm1) (by omega)
    · have hs : isSide G (q + 1) a (-1) 0 = false := by rw [side_h2 G q a]; simpa using hf
      have HS := Lib.hid hs
      obtain rfl : U = q := (up_out HR.out (by omega) hf).symm
      clear hs fz
      go_wp2_with (go_at_call 87; (with_reducible refine HC.out.mono ?_); rintro e w1 ⟨he, rfl⟩; rw [HS.out] at he; subst he)
      have S9 := S
      clear S c0 c1 c2 c3 f0 f1 m0 HC HS h1 h2 HR hf
      go_loopw [] (fun wx => ∃ s : Int, -40 ≤ s ∧ s ≤ t ∧ Hid (runDn (stG G false a) (-1) (100 - (t - s).toNat) s = D) ∧ WB w wx u G U a s a) (fun wx => leftDn w.heap.size 2 wx)
      case atStart => exact ⟨t, by omega, by omega, by rw [show 100 - (t - t).toNat = 100 by omega]; exact HD, S9⟩
      case round =>
        obtain ⟨s, h1, h2, HR, S⟩ := hrel
        clear S9
        obtain ⟨c0, c1, c2, c3⟩ := box4 S.box
        have fz := S.box.frozen
        have f0 := fz 2
        have f1 := fz 3
        have e1 := Go.IntWalk.i64_in (s - 1) (by omega)
        have e2 := Go.IntWalk.i64_in (s + 1) (by omega)
        have m0 := leftDn_eq c2
        have HC := Lib.hid (is_any u G s a (-1) 0 wr S.gs (by omega) (by omega))
        by_cases hf : stG G false a (s - 1) = (-1)
        · have hs : isSide G s a (-1) 0 = true := by rw [show s = s - 1 + 1 by omega]; rw [side_h2 G (s - 1) a]; simpa using hf
          have HS := Lib.hid hs
          have hrg := (by have := stG_in (G := G) (v := false) (a := a) (t := (s - 1)) (by rw [hf]; decide); omega)
          have S2 := Lib.hid ((S.put 2 ((s - 1)) U a (s - 1) a rfl).put 3 a U a (s - 1) a rfl)
          have fz2 := (S.put 2 ((s - 1)) U a (s - 1) a rfl).box.frozen 3
          obtain ⟨k0, k1, k2, k3⟩ := box4 (S.put 2 ((s - 1)) U a (s - 1) a rfl).box
          clear S hs fz
          go_wp2_with (go_at_call 87; (with_reducible refine HC.out.mono ?_); rintro e w1 ⟨he, rfl⟩; rw [HS.out] at he; subst he)
          refine ⟨⟨(s - 1), by omega, by omega, Lib.hid (dn_in HR.out (by omega) hf), S2.out⟩, ?_⟩
          have hm1 := leftDn_eq (x := (s - 1)) (S2.out.box.cell 2)
          rw [m0]
          exact Nat.lt_of_le_of_lt (Nat.le_of_eq hm1) (by omega)
        · have hs : isSide G s a (-1) 0 = false := by rw [show s = s - 1 + 1 by omega]; rw [side_h2 G (s - 1) a]; simpa using hf
          have HS := Lib.hid hs
          obtain rfl : D = s := (dn_out HR.out (by omega) hf).symm
          clear hs fz
          obtain ⟨r0, r1, r2, r3⟩ := box4 S.res
          have rf := S.res.frozen
          have HB := Lib.hid S.bel
          clear S
          go_wp2_with (go_at_call 87; (with_reducible refine HC.out.mono ?_); rintro e w1 ⟨he, rfl⟩; rw [HS.out] at he; subst he)
          refine bodyPost_ret (v := .agg #[.int .i64 U, .int .i64 a, .int .i64 D, .int .i64 a]) (by simp [results, Tryz.results88, go_sem, *]) rfl ?_
          exact ⟨rfl, (((HB.out.setCell (p := ⟨w.heap.size + 1, 0, none⟩) (Nat.le_succ _) _).setCell (p := ⟨w.heap.size + 1, 1, none⟩) (Nat.le_succ _) _).setCell (p := ⟨w.heap.size + 1, 2, none⟩) (Nat.le_succ _) _).setCell (p := ⟨w.heap.size + 1, 3, none⟩) (Nat.le_succ _) _⟩

set_option maxHeartbeats 1600000 in
set_option maxRecDepth 100000 in
theorem wholeC_any (u : Value) (G : Gr) (a t : Int) (w : World) (hG : GS w 0 u G) (h : stG G true a t = 1) :
    Calls Tryz.prog 88 #[u, (Ed.mk a (t + 1) a t).val] w fun e w' => e = .returned (wholeE G true 1 a t).val ∧ Below w.heap.size w w' := by
  have hin := stG_in (G := G) (v := true) (a := a) (t := t) (by rw [h]; decide)
  obtain ⟨D, hD⟩ : ∃ D, runDn (stG G true a) 1 100 t = D := ⟨_, rfl⟩
  obtain ⟨U, hU⟩ : ∃ U, runUp (stG G true a) 1 100 (t + 1) = U := ⟨_, rfl⟩
  have HD := Lib.hid hD
  have HU := Lib.hid hU
  have hw : wholeE G true 1 a t = Ed.mk a U a D := by unfold wholeE; rw [hD, hU]; rfl
  rw [hw]
  have S0 := WB.start hG a (t + 1) a t
  have ed := Go.IntWalk.i64_in (t + 1 - t) (by omega)
  have ed2 := Go.IntWalk.i64_in (t - (t + 1)) (by omega)
  have ea := Go.IntWalk.i64_in (a - a) (by omega)
  have x1 : t + 1 - t = 1 := by omega
  have x2 : t - (t + 1) = -1 := by omega
  have x3 : a - a = 0 := by omega
  clear hG hD hU hw
  unfold Ed.val
  dsimp only
  go_enter Tryz.func88, Tryz.ntmps88
  go_wp2
  go_loopw [] (fun wx => ∃ q : Int, t + 1 ≤ q ∧ q ≤ 40 ∧ Hid (runUp (stG G true a) 1 (100 - (q - (t + 1)).toNat) q = U) ∧ WB w wx u G a q a t) (fun wx => leftUp w.heap.size 1 wx)
  case atStart => exact ⟨t + 1, by omega, by omega, by rw [show 100 - (t + 1 - (t + 1)).toNat = 100 by omega]; exact HU, S0⟩
  case round =>
    obtain ⟨q, h1, h2, HR, S⟩ := hrel
    clear S0
    obtain ⟨c0, c1, c2, c3⟩ := box4 S.box
    have fz := S.box.frozen
    have f0 := fz 0
    have f1 := fz 1
    have e1 := Go.IntWalk.i64_in (q - 1) (by omega)
    have e2 := Go.IntWalk.i64_in (q + 1) (by omega)
    have m0 := leftUp_eq c1
    have HC := Lib.hid (is_any u G a (q + 1) 0 (-1) wr S.gs (by omega) (by omega))
    by_cases hf : stG G true a q = 1
    · have hs : isSide G a (q + 1) 0 (-1) = true := by rw [side_v1 G q a]; simpa using hf
      have HS := Lib.hid hs
      have hrg := (by have := stG_in (G := G) (v := true) (a := a) (t := q) (by rw [hf]; decide); omega)
      have S2 := Lib.hid ((S.put 0 a a q a t rfl).put 1 ((q + 1)) a (q + 1) a t rfl)
      have fz2 := (S.put 0 a a q a t rfl).box.frozen 1
      obtain ⟨k0, k1, k2, k3⟩ := box4 (S.put 0 a a q a t rfl).box
      clear S hs fz
      go_wp2_with (go_at_call 87; (with_reducible refine HC.out.mono ?_); rintro e w1 ⟨he, rfl⟩; rw [HS.out] at he; subst he)
      refine ⟨⟨(q + 1), by omega, by omega, Lib.hid (up_in HR.out (by omega) hf), S2.out⟩, ?_⟩
      have hm1 := leftUp_eq (x := (q + 1)) (S2.out.box.cell 1)
      rw [m0]
      exact Nat.lt_of_le_of_lt (Nat.le_of_eq hm1) (by omega)
    · have hs : isSide G a (q + 1) 0 (-1) = false := by rw [side_v1 G q a]; simpa using hf
      have HS := Lib.hid hs
      obtain rfl : U = q := (up_out HR.out (by omega) hf).symm
      clear hs fz
      go_wp2_with (go_at_call 87; (with_reducible refine HC.out.mono ?_); rintro e w1 ⟨he, rfl⟩; rw [HS.out] at he; subst he)
      have S9 := S
      clear S c0 c1 c2 c3 f0 f1 m0 HC HS h1 h2 HR hf
      go_loopw [] (fun wx => ∃ s : Int, -40 ≤ s ∧ s ≤ t ∧ Hid (runDn (stG G true a) 1 (100 - (t - s).toNat) s = D) ∧ WB w wx u G a U a s) (fun wx => leftDn w.heap.size 3 wx)
      case atStart => exact ⟨t, by omega, by omega, by rw [show 100 - (t - t).toNat = 100 by omega]; exact HD, S9⟩
      case round =>
        obtain ⟨s, h1, h2, HR, S⟩ := hrel
        clear S9
        obtain ⟨c0, c1, c2, c3⟩ := box4 S.box
        have fz := S.box.frozen
        have f0 := fz 2
        have f1 := fz 3
        have e1 := Go.IntWalk.i64_in (s - 1) (by omega)
        have e2 := Go.IntWalk.i64_in (s + 1) (by omega)
        have m0 := leftDn_eq c3
        have HC := Lib.hid (is_any u G a s 0 (-1) wr S.gs (by omega) (by omega))
        by_cases hf : stG G true a (s - 1) = 1
        · have hs : isSide G a s 0 (-1) = true := by rw [show s = s - 1 + 1 by omega]; rw [side_v1 G (s - 1) a]; simpa using hf
          have HS := Lib.hid hs
          have hrg := (by have := stG_in (G := G) (v := true) (a := a) (t := (s - 1)) (by rw [hf]; decide); omega)
          have S2 := Lib.hid ((S.put 2 a a U a s rfl).put 3 ((s - 1)) a U a (s - 1) rfl)
          have fz2 := (S.put 2 a a U a s rfl).box.frozen 3
          obtain ⟨k0, k1, k2, k3⟩ := box4 (S.put 2 a a U a s rfl).box
          clear S hs fz
          go_wp2_with (go_at_call 87; (with_reducible refine HC.out.mono ?_); rintro e w1 ⟨he, rfl⟩; rw [HS.out] at he; subst he)
          refine ⟨⟨(s - 1), by omega, by omega, Lib.hid (dn_in HR.out (by omega) hf), S2.out⟩, ?_⟩
          have hm1 := leftDn_eq (x := (s - 1)) (S2.out.box.cell 3)
          rw [m0]
          exact Nat.lt_of_le_of_lt (Nat.le_of_eq hm1) (by omega)
        · have hs : isSide G a s 0 (-1) = false := by rw [show s = s - 1 + 1 by omega]; rw [side_v1 G (s - 1) a]; simpa using hf
          have HS := Lib.hid hs
          obtain rfl : D = s := (dn_out HR.out (by omega) hf).symm
          clear hs fz
          obtain ⟨r0, r1, r2, r3⟩ := box4 S.res
          have rf := S.res.frozen
          have HB := Lib.hid S.bel
          clear S
          go_wp2_with (go_at_call 87; (with_reducible refine HC.out.mono ?_); rintro e w1 ⟨he, rfl⟩; rw [HS.out] at he; subst he)
          refine bodyPost_ret (v := .agg #[.int .i64 a, .int .i64 U, .int .i64 a, .int .i64 D]) (by simp [results, Tryz.results88, go_sem, *]) rfl ?_
          exact ⟨rfl, (((HB.out.setCell (p := ⟨w.heap.size + 1, 0, none⟩) (Nat.le_succ _) _).setCell (p := ⟨w.heap.size + 1, 1, none⟩) (Nat.le_succ _) _).setCell (p := ⟨w.heap.size + 1, 2, none⟩) (Nat.le_succ _) _).setCell (p := ⟨w.heap.size + 1, 3, none⟩) (Nat.le_succ _) _⟩

set_option maxHeartbeats 1600000 in
set_option maxRecDepth 100000 in
theorem wholeD_any (u : Value) (G : Gr) (a t : Int) (w : World) (hG : GS w 0 u G) (h : stG G true a t = (-1)) :
    Calls Tryz.prog 88 #[u, (Ed.mk a t a (t + 1)).val] w fun e w' => e = .returned (wholeE G true (-1) a t).val ∧ Below w.heap.size w w' := by
  have hin := stG_in (G := G) (v := true) (a := a) (t := t) (by rw [h]; decide)
  obtain ⟨D, hD⟩ : ∃ D, runDn (stG G true a) (-1) 100 t = D := ⟨_, rfl⟩
  obtain ⟨U, hU⟩ : ∃ U, runUp (stG G true a) (-1) 100 (t + 1) = U := ⟨_, rfl⟩
  have HD := Lib.hid hD
  have HU := Lib.hid hU
  have hw : wholeE G true (-1) a t = Ed.mk a D a U := by unfold wholeE; rw [hD, hU]; rfl
  rw [hw]
  have S0 := WB.start hG a t a (t + 1)
  have ed := Go.IntWalk.i64_in (t + 1 - t) (by omega)
  have ed2 := Go.IntWalk.i64_in (t - (t + 1)) (by omega)
  have ea := Go.IntWalk.i64_in (a - a) (by omega)
  have x1 : t + 1 - t = 1 := by omega
  have x2 : t - (t + 1) = -1 := by omega
  have x3 : a - a = 0 := by omega
  clear hG hD hU hw
  unfold Ed.val
  dsimp only
  go_enter Tryz.func88, Tryz.ntmps88
  go_wp2
  go_loopw [] (fun wx => ∃ s : Int, -40 ≤ s ∧ s ≤ t ∧ Hid (runDn (stG G true a) (-1) (100 - (t - s).toNat) s = D) ∧ WB w wx u G a s a (t + 1)) (fun wx => leftDn w.heap.size 1 wx)
  case atStart => exact ⟨t, by omega, by omega, by rw [show 100 - (t - t).toNat = 100 by omega]; exact HD, S0⟩
  case round =>
    obtain ⟨s, h1, h2, HR, S⟩ := hrel
    clear S0
    obtain ⟨c0, c1, c2, c3⟩ := box4 S.box
    have fz := S.box.frozen
    have f0 := fz 0
    have f1 := fz 1
    have e1 := Go.IntWalk.i64_in (s - 1) (by omega)
    have e2 := Go.IntWalk.i64_in (s + 1) (by omega)
    have m0 := leftDn_eq c1
    have HC := Lib.hid (is_any u G a (s - 1) 0 1 wr S.gs (by omega) (by omega))
    by_cases hf : stG G true a (s - 1) = (-1)
    · have hs : isSide G a (s - 1) 0 1 = true := by rw [side_v2 G (s - 1) a]; simpa using hf
      have HS := Lib.hid hs
      have hrg := (by have := stG_in (G := G) (v := true) (a := a) (t := (s - 1)) (by rw [hf]; decide); omega)
      have S2 := Lib.hid ((S.put 0 a a s a (t + 1) rfl).put 1 ((s - 1)) a (s - 1) a (t + 1) rfl)
      have fz2 := (S.put 0 a a s a (t + 1) rfl).box.frozen 1
      obtain ⟨k0, k1, k2, k3⟩ := box4 (S.put 0 a a s a (t + 1) rfl).box
      clear S hs fz
      go_wp2_with (go_at_call 87; (with_reducible refine HC.out.mono ?_); rintro e w1 ⟨he, rfl⟩; rw [HS.out] at he; subst he)
      refine ⟨⟨(s - 1), by omega, by omega, Lib.hid (dn_in HR.out (by omega) hf), S2.out⟩, ?_⟩
      have hm1 := leftDn_eq (x := (s - 1)) (S2.out.box.cell 1)
      rw [m0]
      exact Nat.lt_of_le_of_lt (Nat.le_of_eq hm1) (by omega)
    · have hs : isSide G a (s - 1) 0 1 = false := by rw [side_v2 G (s - 1) a]; simpa using hf
      have HS := Lib.hid hs
      obtain rfl : D = s := (dn_out HR.out (by omega) hf).symm
      clear hs fz
      go_wp2_with (go_at_call 87; (with_reducible refine HC.out.mono ?_); rintro e w1 ⟨he, rfl⟩; rw [HS.out] at he; subst he)
      have S9 := S
      clear S c0 c1 c2 c3 f0 f1 m0 HC HS h1 h2 HR hf
      go_loopw [] (fun wx => ∃ q : Int, t + 1 ≤ q ∧ q ≤ 40 ∧ Hid (runUp (stG G true a) (-1) (100 - (q - (t + 1)).toNat) q = U) ∧ WB w wx u G a D a q) (fun wx => leftUp w.heap.size 3 wx)
      case atStart => exact ⟨t + 1, by omega, by omega, by rw [show 100 - (t + 1 - (t + 1)).toNat = 100 by omega]; exact HU, S9⟩
      case round =>
        obtain ⟨q, h1, h2, HR, S⟩ := hrel
        clear S9
        obtain ⟨c0, c1, c2, c3⟩ := box4 S.box
        have fz := S.box.frozen
        have f0 := fz 2
        have f1 := fz 3
        have e1 := Go.IntWalk.i64_in (q - 1) (by omega)
        have e2 := Go.IntWalk.i64_in (q + 1) (by omega)
        have m0 := leftUp_eq c3
        have HC := Lib.hid (is_any u G a q 0 1 wr S.gs (by omega) (by omega))
        by_cases hf : stG G true a q = (-1)
        · have hs : isSide G a q 0 1 = true := by rw [side_v2 G q a]; simpa using hf
          have HS := Lib.hid hs
          have hrg := (by have := stG_in (G := G) (v := true) (a := a) (t := q) (by rw [hf]; decide); omega)
          have S2 := Lib.hid ((S.put 2 a a D a q rfl).put 3 ((q + 1)) a D a (q + 1) rfl)
          have fz2 := (S.put 2 a a D a q rfl).box.frozen 3
          obtain ⟨k0, k1, k2, k3⟩ := box4 (S.put 2 a a D a q rfl).box
          clear S hs fz
          go_wp2_with (go_at_call 87; (with_reducible refine HC.out.mono ?_); rintro e w1 ⟨he, rfl⟩; rw [HS.out] at he; subst he)
          refine ⟨⟨(q + 1), by omega, by omega, Lib.hid (up_in HR.out (by omega) hf), S2.out⟩, ?_⟩
          have hm1 := leftUp_eq (x := (q + 1)) (S2.out.box.cell 3)
          rw [m0]
          exact Nat.lt_of_le_of_lt (Nat.le_of_eq hm1) (by omega)
        · have hs : isSide G a q 0 1 = false := by rw [side_v2 G q a]; simpa using hf
          have HS := Lib.hid hs
          obtain rfl : U = q := (up_out HR.out (by omega) hf).symm
          clear hs fz
          obtain ⟨r0, r1, r2, r3⟩ := box4 S.res
          have rf := S.res.frozen
          have HB := Lib.hid S.bel
          clear S
          go_wp2_with (go_at_call 87; (with_reducible refine HC.out.mono ?_); rintro e w1 ⟨he, rfl⟩; rw [HS.out] at he; subst he)
          refine bodyPost_ret (v := .agg #[.int .i64 a, .int .i64 D, .int .i64 a, .int .i64 U]) (by simp [results, Tryz.results88, go_sem, *]) rfl ?_
          exact ⟨rfl, (((HB.out.setCell (p := ⟨w.heap.size + 1, 0, none⟩) (Nat.le_succ _) _).setCell (p := ⟨w.heap.size + 1, 1, none⟩) (Nat.le_succ _) _).setCell (p := ⟨w.heap.size + 1, 2, none⟩) (Nat.le_succ _) _).setCell (p := ⟨w.heap.size + 1, 3, none⟩) (Nat.le_succ _) _⟩
end Go.Proofs.YtemeegpmdhgocaaGreat

namespace Go.Proofs.YtemeegpmdhgocaaGreat
open Go.RowKit

theorem flatE_take (rs : List Ed) (m : Nat) : (flatE rs).take (m * 4) = flatE (rs.take m) := by
  induction rs generalizing m with
  | nil => simp [flatE]
  | cons r rs ih =>
    cases m with
    | zero => simp [flatE]
    | succ m =>
      have e : ∀ l, flatE (r :: l) = Value.int .i64 r.x0 :: .int .i64 r.y0 :: .int .i64 r.x1 :: .int .i64 r.y1 :: flatE l := fun l => rfl
      rw [List.take_succ_cons, e, e, show (m + 1) * 4 = m * 4 + 1 + 1 + 1 + 1 by omega]
      simp only [List.take_succ_cons, ih m]
theorem flatE_drop (rs : List Ed) (m : Nat) : (flatE rs).drop (m * 4) = flatE (rs.drop m) := by
  induction rs generalizing m with
  | nil => simp [flatE]
  | cons r rs ih =>
    cases m with
    | zero => simp
    | succ m =>
      have e : ∀ l, flatE (r :: l) = Value.int .i64 r.x0 :: .int .i64 r.y0 :: .int .i64 r.x1 :: .int .i64 r.y1 :: flatE l := fun l => rfl
      rw [List.drop_succ_cons, e, show (m + 1) * 4 = m * 4 + 1 + 1 + 1 + 1 by omega]
      simp only [List.drop_succ_cons, ih m]
theorem less_four (a b c d a' b' c' d' : Int) (w : World) : Calls Tryz.prog 91 #[.agg #[.int .i64 a, .int .i64 b, .int .i64 c, .int .i64 d], .agg #[.int .i64 a', .int .i64 b', .int .i64 c', .int .i64 d']] w fun e w' => e = .returned (.bool (edLt ⟨a, b, c, d⟩ ⟨a', b', c', d'⟩)) ∧ Below w.heap.size w w' := less_any ⟨a, b, c, d⟩ ⟨a', b', c', d'⟩ w
/-- The first m edges of a list. -/
theorem EL.cut {w : World} {B g n c : Nat} {rs : List Ed} (h : EL w B (.slice (some ⟨g, 0, none⟩) n c) rs) (m : Nat) (hm : m ≤ rs.length) : EL w B (.slice (some ⟨g, 0, none⟩) m c) (rs.take m) := by
  rcases h.2 with ⟨h', _⟩ | ⟨g', cap, cur, h', hb, hg, hnc, hcm, hcs, htk⟩
  · cases h'
  · simp only [Value.slice.injEq, Option.some.injEq, Addr.mk.injEq, and_true] at h'
    obtain ⟨rfl, rfl, rfl⟩ := h'
    refine ⟨by rw [flatE_length, List.length_take], .inr ⟨_, _, cur, by rw [List.length_take, Nat.min_eq_left hm], hb, hg, by rw [List.length_take]; omega, hcm, hcs, ?_⟩⟩
    rw [List.length_take, Nat.min_eq_left hm, ← flatE_take, ← htk, List.take_take]
    congr 1
    omega
/-- 'append(a, b...)', a a list of the call's own. -/
theorem wpList_append_EE {w : World} {ops : Array Oper} {rest : List Oper} {o : Oper} {a : Act} {Q : Exit → Act → World → Prop} (hgd : o.guard = none) (s x : Operand)
    (ho : o.op = .call { callee := .builtin .append, args := #[s, x], argTypes := #[32, 32] })
    (B B' : Nat) (v u : Value) (rs qs : List Ed) (hs : a.eval s = v) (hown : EL w B v rs) (hx : a.eval x = u) (hu : EL w B' u qs)
    (hlen : rs.length + qs.length ≤ 1000000) (hB : B ≤ w.heap.size)
    (h : ∀ v' w', EL w' B v' (rs ++ qs) → Below B w w' → wpList Tryz.prog ops Q rest (a.put o.dst v') w') :
    wpList Tryz.prog ops Q (o :: rest) a w := by
  obtain ⟨i, hi, hz, hsz, hby⟩ := info_parts infoEdge
  have hu0 := hu
  unfold EL at hu
  rcases hu.2 with ⟨hv, hn⟩ | ⟨g, cap, cur, hv, hg, hh, hnc, hcm, hcs, htake⟩
  · have hq : qs = [] := List.length_eq_zero_iff.1 hn
    subst hq
    refine wpList_append_own_none hgd s x 32 ho B 70 i 4 Tryz.underlying32 hi v rs.length (flatE rs) hs hown (hx.trans hv) ?_
    exact h v w (by rw [List.append_nil]; exact hown) (Below.refl _ _)
  · refine wpList_append_own _ hgd s x 32 ho B 70 i _ 4 32 Tryz.underlying32 hi hz hsz hby rfl (by decide) v rs.length (flatE rs) hs hown ⟨g, 0, none⟩ qs.length cap
      (flatE qs) (hx.trans hv) (flatE_length qs) ?_ ?_ (by simp only [maxLen]; omega) (by omega) hB ?_
    · intro j y hy
      rw [Addr.add_lit, Nat.zero_add, cell_of_row w g j cur _ (0, 0) hh]
      rw [← htake, List.getElem?_take] at hy
      split at hy
      · simpa using hy
      · cases hy
    · intro y hy
      simp only [flatE, List.mem_flatMap, Ed.vals] at hy
      obtain ⟨r, _, hy⟩ := hy
      simp at hy
      rcases hy with rfl | rfl | rfl | rfl <;> rfl
    · intro v' w' h1 h2 _
      refine h v' w' ?_ (below_own hown h2 hB)
      unfold EL
      rw [flatE_append, List.length_append]
      exact h1

/-- 'append(a, b[i:]...)'. -/
theorem wpList_append_ET {w : World} {ops : Array Oper} {rest : List Oper} {o : Oper} {a : Act} {Q : Exit → Act → World → Prop} (hgd : o.guard = none) (s x : Operand)
    (ho : o.op = .call { callee := .builtin .append, args := #[s, x], argTypes := #[32, 32] })
    (B B' : Nat) (v : Value) (g n c off m c' : Nat) (rs qs : List Ed) (i : Nat) (hs : a.eval s = v) (hown : EL w B v rs) (hx : a.eval x = .slice (some ⟨g, off, none⟩) m c') (hu : EL w B' (.slice (some ⟨g, 0, none⟩) n c) qs) (hi : i ≤ qs.length) (hm : m = qs.length - i) (hoff : i < qs.length → off = i * 4)
    (hlen : rs.length + qs.length ≤ 1000000) (hB : B ≤ w.heap.size)
    (h : ∀ v' w', EL w' B v' (rs ++ qs.drop i) → Below B w w' → wpList Tryz.prog ops Q rest (a.put o.dst v') w') :
    wpList Tryz.prog ops Q (o :: rest) a w := by
  obtain ⟨i0, hi0, hz, hsz, hby⟩ := info_parts infoEdge
  obtain ⟨_, _, en, -, -, -⟩ := hu.form
  simp only [Value.slice.injEq] at en
  obtain ⟨-, rfl, -⟩ := en
  subst hm
  refine wpList_append_own _ hgd s x 32 ho B 70 i0 _ 4 32 Tryz.underlying32 hi0 hz hsz hby rfl (by decide) v rs.length (flatE rs) hs hown ⟨g, off, none⟩ (qs.length - i) c'
    (flatE (qs.drop i)) hx (by rw [flatE_length, List.length_drop]) ?_ ?_ (by simp only [maxLen]; omega) (by omega) hB ?_
  · intro j y hy
    have hj := (List.getElem?_eq_some_iff.1 hy).1
    rw [flatE_length, List.length_drop] at hj
    rw [Addr.add_lit, hoff (by omega)]
    rw [← flatE_drop, List.getElem?_drop] at hy
    rw [World.ownsRow.cellAt hu (i * 4 + j) (by omega)]
    exact hy
  · intro y hy
    simp only [flatE, List.mem_flatMap, Ed.vals] at hy
    obtain ⟨r, _, hy⟩ := hy
    simp at hy
    rcases hy with rfl | rfl | rfl | rfl <;> rfl
  · intro v' w' h1 h2 _
    refine h v' w' ?_ (below_own hown h2 hB)
    unfold EL
    rw [flatE_append, List.length_append, List.length_drop]
    exact h1

set_option maxHeartbeats 3200000 in
set_option maxRecDepth 100000 in
/-- l06Put. -/
theorem put_E (g n c : Nat) (rs : List Ed) (e : Ed) (B : Nat) (w : World) (hv : EL w B (.slice (some ⟨g, 0, none⟩) n c) rs) (hB : B ≤ w.heap.size) (hl : rs.length ≤ 100000) :
    Calls Tryz.prog 53 #[.slice (some ⟨g, 0, none⟩) n c, e.val] w fun e' w' => ∃ g' n' c', e' = .returned (.slice (some ⟨g', 0, none⟩) n' c') ∧ EL w' B (.slice (some ⟨g', 0, none⟩) n' c') (putE rs e) ∧ Below w.heap.size w w' := by
  obtain ⟨x0, y0, x1, y1⟩ := e
  obtain ⟨_, _, en, hnc, hmx, -⟩ := hv.form
  simp only [Value.slice.injEq] at en
  obtain ⟨-, rfl, rfl⟩ := en
  unfold maxLen at hmx
  have b0 := (Below.refl w.heap.size w).alloc (Nat.le_refl _) (.cells #[.int .i64 x0, .int .i64 y0, .int .i64 x1, .int .i64 y1] 70)
  have z0 := Bk.new w 70 #[.int .i64 x0, .int .i64 y0, .int .i64 x1, .int .i64 y1]
  have s0 : (w.alloc (.cells #[.int .i64 x0, .int .i64 y0, .int .i64 x1, .int .i64 y1] 70)).heap.size = w.heap.size + 1 := by simp
  have HZ := Lib.hid (show ∀ W, Below (w.heap.size + 1) (w.alloc (.cells #[.int .i64 x0, .int .i64 y0, .int .i64 x1, .int .i64 y1] 70)) W → Bk W w.heap.size 70 #[.int .i64 x0, .int .i64 y0, .int .i64 x1, .int .i64 y1] ∧ EL W B (.slice (some ⟨g, 0, none⟩) rs.length c) rs from fun W hW => ⟨z0.below hW (Nat.lt_succ_self _), (hv.on b0).on (by rw [s0]; exact hW)⟩)
  have B0 := Lib.hid b0
  clear hv z0 b0
  unfold Ed.val
  dsimp only
  go_enter Tryz.func53, Tryz.ntmps53
  go_wp2
  generalize hW0 : w.alloc (.cells #[.int .i64 x0, .int .i64 y0, .int .i64 x1, .int .i64 y1] 70) = W0 at *
  go_loopw [5] (fun iv wr => ∃ i : Nat, i ≤ rs.length ∧ iv = .int .i64 i ∧ Hid (∀ j a, j < i → rs[j]? = some a → edLt a ⟨x0, y0, x1, y1⟩ = true) ∧ Below (w.heap.size + 1) W0 wr) (fun iv _ => rs.length - (intOf iv).toNat)
  case atStart => exact ⟨0, by omega, rfl, Lib.hid (fun j a h => by omega), Below.refl _ _⟩
  case round =>
    obtain ⟨i, hi, rfl, HI, hb⟩ := hrel
    obtain ⟨hbx, hrw⟩ := HZ.out _ hb
    have hszr : w.heap.size + 1 ≤ wr.heap.size := by have := hb.size; omega
    by_cases hlt : i < rs.length
    · obtain ⟨g0, u0, v0, u1, v1, hA, hr, hgl, c0, c1, c2, c3⟩ := hrw.elem hlt
      simp only [Option.some.injEq, Addr.mk.injEq, and_true] at hA
      subst hA
      obtain ⟨d0, d1, d2, d3⟩ := box4 hbx
      have Hr := Lib.hid hr
      have HC := Lib.hid (show ∀ W, Below wr.heap.size wr W → (W.cell? ⟨g, i * 4, none⟩ = some (.int .i64 u0) ∧ W.cell? ⟨g, i * 4 + 1, none⟩ = some (.int .i64 v0) ∧ W.cell? ⟨g, i * 4 + 2, none⟩ = some (.int .i64 u1) ∧ W.cell? ⟨g, i * 4 + 3, none⟩ = some (.int .i64 v1)) ∧ W.cell? ⟨w.heap.size, 0, none⟩ = some (.int .i64 x0) ∧ W.cell? ⟨w.heap.size, 1, none⟩ = some (.int .i64 y0) ∧ W.cell? ⟨w.heap.size, 2, none⟩ = some (.int .i64 x1) ∧ W.cell? ⟨w.heap.size, 3, none⟩ = some (.int .i64 y1) from fun W hW => ⟨⟨(hW.cell (p := ⟨g, _, none⟩) hgl).trans c0, (hW.cell (p := ⟨g, _, none⟩) hgl).trans c1, (hW.cell (p := ⟨g, _, none⟩) hgl).trans c2, (hW.cell (p := ⟨g, _, none⟩) hgl).trans c3⟩, box4 (hbx.on hW)⟩)
      have tc := Lib.hid (Below.refl wr.heap.size wr).drew
      clear hr hrw hbx
      cases hle : edLt ⟨u0, v0, u1, v1⟩ ⟨x0, y0, x1, y1⟩ with
      | true =>
        have HL := Lib.hid hle
        clear hle c0 c1 c2 c3 d0 d1 d2 d3
        go_wp2
        go_region_held3 (fun W => (W.cell? ⟨g, i * 4, none⟩ = some (.int .i64 u0) ∧ W.cell? ⟨g, i * 4 + 1, none⟩ = some (.int .i64 v0) ∧ W.cell? ⟨g, i * 4 + 2, none⟩ = some (.int .i64 u1) ∧ W.cell? ⟨g, i * 4 + 3, none⟩ = some (.int .i64 v1)) ∧ W.cell? ⟨w.heap.size, 0, none⟩ = some (.int .i64 x0) ∧ W.cell? ⟨w.heap.size, 1, none⟩ = some (.int .i64 y0) ∧ W.cell? ⟨w.heap.size, 2, none⟩ = some (.int .i64 x1) ∧ W.cell? ⟨w.heap.size, 3, none⟩ = some (.int .i64 y1))
          (first | with_reducible exact HC.out _ tc.out | with_reducible exact HC.out _ ty.out)
          (first | (go_at_call 91; (with_reducible refine (less_four u0 v0 u1 v1 x0 y0 x1 y1 _).mono ?_); rintro e w1 ⟨he, hb1⟩; rw [HL.out] at he; subst he; have ty := Lib.hid (tc.out.trans (hb1.mono tc.out.size))))
        all_goals
          go_wp2
          exact ⟨⟨i + 1, by omega, by go_num, Lib.hid (fun j a hj ha => by
            by_cases hji : j = i
            · subst hji
              rw [Hr.out] at ha
              rw [← Option.some.inj ha]
              exact HL.out
            · exact HI.out j a (by omega) ha), hb.trans (ty.out.mono hszr)⟩, by simp [intOf]; omega⟩
      | false =>
        have HL := Lib.hid hle
        clear hle c0 c1 c2 c3 d0 d1 d2 d3
        go_wp2
        go_region_held3 (fun W => (W.cell? ⟨g, i * 4, none⟩ = some (.int .i64 u0) ∧ W.cell? ⟨g, i * 4 + 1, none⟩ = some (.int .i64 v0) ∧ W.cell? ⟨g, i * 4 + 2, none⟩ = some (.int .i64 u1) ∧ W.cell? ⟨g, i * 4 + 3, none⟩ = some (.int .i64 v1)) ∧ W.cell? ⟨w.heap.size, 0, none⟩ = some (.int .i64 x0) ∧ W.cell? ⟨w.heap.size, 1, none⟩ = some (.int .i64 y0) ∧ W.cell? ⟨w.heap.size, 2, none⟩ = some (.int .i64 x1) ∧ W.cell? ⟨w.heap.size, 3, none⟩ = some (.int .i64 y1))
          (first | with_reducible exact HC.out _ tc.out | with_reducible exact HC.out _ ty.out)
          (first | (go_at_call 91; (with_reducible refine (less_four u0 v0 u1 v1 x0 y0 x1 y1 _).mono ?_); rintro e w1 ⟨he, hb1⟩; rw [HL.out] at he; subst he; have ty := Lib.hid (tc.out.trans (hb1.mono tc.out.size))))
        all_goals
          go_wp2
          obtain ⟨⟨c0, c1, c2, c3⟩, d0, d1, d2, d3⟩ := HC.out _ ty.out
          have hb1 := hb.trans (ty.out.mono hszr)
          have Hlt := Lib.hid hlt
          cases hq : eqEd ⟨u0, v0, u1, v1⟩ ⟨x0, y0, x1, y1⟩ with
          | true =>
            have HQ := Lib.hid hq
            go_quiet (fail)
            go_wp2
            go_ret
            refine ⟨g, _, c, rfl, ?_, B0.out.trans ((below_drewN hb1 nq).mono (Nat.le_succ _))⟩
            rw [putE_at hi HI.out (fun a ha => by rw [Hr.out] at ha; rw [← Option.some.inj ha]; exact HL.out), if_pos (by rw [Hr.out, (eqEd_iff _ _).1 HQ.out])]
            exact (HZ.out _ (below_drewN hb1 nq)).2
          | false =>
            have HQ := Lib.hid hq
            go_quiet (fail)
            clear hq c0 c1 c2 c3 d0 d1 d2 d3
            have HBt := Lib.hid (below_drewN (hb1) nq)
            generalize w1.drewN nq = WT at *
            have hszt : w.heap.size + 1 ≤ WT.heap.size := by have := HBt.out.size; omega
            have HT := Lib.hid (show EL (WT.alloc (.cells #[] 70)) WT.heap.size (.slice (some ⟨WT.heap.size, 0, none⟩) 0 0) [] from World.ownsRow_lit WT #[] 0 (Nat.le_refl _) (by simp [maxLen]) (by simp))
            have hia : i ≤ rs.length := by omega
            have HBa := Lib.hid ((Below.refl WT.heap.size WT).alloc (Nat.le_refl _) (.cells #[] 70))
            have HR9 := ((HZ.out _ HBt.out).2.on HBa.out).cut i hia
            obtain ⟨L1, hL1⟩ : ∃ L, rs.take i = L := ⟨_, rfl⟩
            obtain ⟨L2, hL2⟩ : ∃ L, L1 ++ [(⟨x0, y0, x1, y1⟩ : Ed)] = L := ⟨_, rfl⟩
            have hn1 : L1.length ≤ 100000 := by rw [← hL1, List.length_take]; omega
            have hn2 : L2.length ≤ 100001 := by rw [← hL2, List.length_append, List.length_singleton]; omega
            rw [hL1] at HR9
            have HR := Lib.hid HR9
            have HL1 := Lib.hid hL1
            have HL2 := Lib.hid hL2
            have hic : i ≤ c := by omega
            have hicz : ((i : Nat) : Int) ≤ (c : Int) := by omega
            have hicy : ((i : Nat) : Int) ≤ (rs.length : Int) := by omega
            have hlt1 : ([] : List Ed).length + L1.length ≤ 1000000 := by rw [List.length_nil]; omega
            have hlt2 : L1.length ≤ 1000000 := by omega
            have hlt3 : L2.length + rs.length ≤ 1000000 := by omega
            have hB1 : WT.heap.size ≤ (WT.alloc (.cells #[] 70)).heap.size := by simp
            have hoff : i < rs.length → i * 4 = i * 4 := fun _ => rfl
            clear HR9 hL1 hL2
            go_wp2_with (first
              | (at_builtin; refine wpList_append_EE rfl (.tmp 34) (.tmp 37) rfl WT.heap.size B _ _ [] L1 rfl HT.out rfl HR.out hlt1 hB1 ?_; intro v1 w2 k1 k2; rw [List.nil_append] at k1; obtain ⟨A1, c1, rfl, -, -, -⟩ := k1.form; have K1 := Lib.hid k1; have Hb2 := Lib.hid (HBa.out.trans k2); obtain ⟨p0, p1, p2, p3⟩ := box4 ((HZ.out _ HBt.out).1.on Hb2.out); have hs2 := Hb2.out.size; clear k1 k2)
              | (at_builtin; refine wpList_append_E rfl (.tmp 39) (.tmp 41) rfl WT.heap.size _ L1 rfl K1.out x0 y0 x1 y1 rfl hlt2 hs2 ?_; intro v2 w3 m1 m2 m3; rw [HL2.out] at m1; obtain ⟨A2, c2, rfl, -, -, -⟩ := m1.form; have M1 := Lib.hid m1; have Hb3 := Lib.hid (Hb2.out.trans m3); have HR3 := Lib.hid ((HZ.out _ HBt.out).2.on Hb3.out); have hs3 := Hb3.out.size; clear m1 m2 m3)
              | (at_builtin; refine wpList_append_ET rfl (.tmp 43) (.tmp 46) rfl WT.heap.size B _ g rs.length c _ _ _ L2 rs i rfl M1.out rfl HR3.out hia (by omega) hoff hlt3 hs3 ?_; intro v3 w4 n1 n2; have N1 := Lib.hid n1; have Hb4 := Lib.hid (Hb3.out.trans n2); clear n1 n2))
            obtain ⟨A3, c3, hv3, -, -, -⟩ := N1.out.form
            subst hv3
            obtain ⟨g3, _, _, _, _, hA3, -⟩ := N1.out.elem (k := 0) (by rw [List.length_append, ← HL2.out, List.length_append, List.length_singleton]; omega)
            subst hA3
            go_wp2_with fail
            go_ret
            refine ⟨g3, _, c3, rfl, ?_, B0.out.trans ((HBt.out.trans (Hb4.out.mono hszt)).mono (Nat.le_succ _))⟩
            rw [putE_at hi HI.out (fun a ha => by rw [Hr.out] at ha; rw [← Option.some.inj ha]; exact HL.out), if_neg (fun h9 => by rw [Hr.out, Option.some.injEq] at h9; exact (eqEd_no _ _).1 HQ.out h9), List.append_cons, HL1.out, HL2.out]
            exact N1.out.less (by omega)
    · obtain rfl : i = rs.length := by omega
      have hb9 := hb
      clear hbx hrw
      go_wp2
      go_quiet (fail)
      have HB5 := Lib.hid (below_drewN hb9 nq)
      generalize wr.drewN nq = W5 at *
      go_wp2
      go_quiet (fail)
      by_cases hcl : c = rs.length
      · subst hcl
        have HBt := Lib.hid (below_drewN HB5.out nq)
        generalize W5.drewN nq = WT at *
        have hszt : w.heap.size + 1 ≤ WT.heap.size := by have := HBt.out.size; omega
        have HT := Lib.hid (show EL (WT.alloc (.cells #[] 70)) WT.heap.size (.slice (some ⟨WT.heap.size, 0, none⟩) 0 0) [] from World.ownsRow_lit WT #[] 0 (Nat.le_refl _) (by simp [maxLen]) (by simp))
        have hia : rs.length ≤ rs.length := by omega
        have HBa := Lib.hid ((Below.refl WT.heap.size WT).alloc (Nat.le_refl _) (.cells #[] 70))
        have HR9 := ((HZ.out _ HBt.out).2.on HBa.out).cut rs.length hia
        obtain ⟨L1, hL1⟩ : ∃ L, rs.take rs.length = L := ⟨_, rfl⟩
        obtain ⟨L2, hL2⟩ : ∃ L, L1 ++ [(⟨x0, y0, x1, y1⟩ : Ed)] = L := ⟨_, rfl⟩
        have hn1 : L1.length ≤ 100000 := by rw [← hL1, List.length_take]; omega
        have hn2 : L2.length ≤ 100001 := by rw [← hL2, List.length_append, List.length_singleton]; omega
        rw [hL1] at HR9
        have HR := Lib.hid HR9
        have HL1 := Lib.hid hL1
        have HL2 := Lib.hid hL2
        have hic : rs.length ≤ rs.length := by omega
        have hicz : ((rs.length : Nat) : Int) ≤ (rs.length : Int) := by omega
        have hicy : ((rs.length : Nat) : Int) ≤ (rs.length : Int) := by omega
        have hlt1 : ([] : List Ed).length + L1.length ≤ 1000000 := by rw [List.length_nil]; omega
        have hlt2 : L1.length ≤ 1000000 := by omega
        have hlt3 : L2.length + rs.length ≤ 1000000 := by omega
        have hB1 : WT.heap.size ≤ (WT.alloc (.cells #[] 70)).heap.size := by simp
        have hoff : rs.length < rs.length → 0 = rs.length * 4 := fun h => absurd h (Nat.lt_irrefl _)
        clear HR9 hL1 hL2
        go_wp2_with (first
          | (at_builtin; refine wpList_append_EE rfl (.tmp 34) (.tmp 37) rfl WT.heap.size B _ _ [] L1 rfl HT.out rfl HR.out hlt1 hB1 ?_; intro v1 w2 k1 k2; rw [List.nil_append] at k1; obtain ⟨A1, c1, rfl, -, -, -⟩ := k1.form; have K1 := Lib.hid k1; have Hb2 := Lib.hid (HBa.out.trans k2); obtain ⟨p0, p1, p2, p3⟩ := box4 ((HZ.out _ HBt.out).1.on Hb2.out); have hs2 := Hb2.out.size; clear k1 k2)
          | (at_builtin; refine wpList_append_E rfl (.tmp 39) (.tmp 41) rfl WT.heap.size _ L1 rfl K1.out x0 y0 x1 y1 rfl hlt2 hs2 ?_; intro v2 w3 m1 m2 m3; rw [HL2.out] at m1; obtain ⟨A2, c2, rfl, -, -, -⟩ := m1.form; have M1 := Lib.hid m1; have Hb3 := Lib.hid (Hb2.out.trans m3); have HR3 := Lib.hid ((HZ.out _ HBt.out).2.on Hb3.out); have hs3 := Hb3.out.size; clear m1 m2 m3)
          | (at_builtin; refine wpList_append_ET rfl (.tmp 43) (.tmp 46) rfl WT.heap.size B _ g rs.length rs.length _ _ _ L2 rs rs.length rfl M1.out rfl HR3.out hia (by omega) hoff hlt3 hs3 ?_; intro v3 w4 n1 n2; have N1 := Lib.hid n1; have Hb4 := Lib.hid (Hb3.out.trans n2); clear n1 n2))
        obtain ⟨A3, c3, hv3, -, -, -⟩ := N1.out.form
        subst hv3
        obtain ⟨g3, _, _, _, _, hA3, -⟩ := N1.out.elem (k := 0) (by rw [List.length_append, ← HL2.out, List.length_append, List.length_singleton]; omega)
        subst hA3
        go_wp2_with fail
        go_ret
        refine ⟨g3, _, c3, rfl, ?_, B0.out.trans ((HBt.out.trans (Hb4.out.mono hszt)).mono (Nat.le_succ _))⟩
        rw [putE_at (Nat.le_refl _) HI.out (fun a ha => by rw [List.getElem?_eq_none (Nat.le_refl _)] at ha; cases ha), if_neg (fun h9 => by rw [List.getElem?_eq_none (Nat.le_refl _)] at h9; cases h9), List.append_cons, HL1.out, HL2.out]
        exact N1.out.less (by omega)
      · have hcl2 : ¬ rs.length = c := fun h => hcl h.symm
        have HBt := Lib.hid (below_drewN HB5.out nq)
        generalize W5.drewN nq = WT at *
        have hszt : w.heap.size + 1 ≤ WT.heap.size := by have := HBt.out.size; omega
        have HT := Lib.hid (show EL (WT.alloc (.cells #[] 70)) WT.heap.size (.slice (some ⟨WT.heap.size, 0, none⟩) 0 0) [] from World.ownsRow_lit WT #[] 0 (Nat.le_refl _) (by simp [maxLen]) (by simp))
        have hia : rs.length ≤ rs.length := by omega
        have HBa := Lib.hid ((Below.refl WT.heap.size WT).alloc (Nat.le_refl _) (.cells #[] 70))
        have HR9 := ((HZ.out _ HBt.out).2.on HBa.out).cut rs.length hia
        obtain ⟨L1, hL1⟩ : ∃ L, rs.take rs.length = L := ⟨_, rfl⟩
        obtain ⟨L2, hL2⟩ : ∃ L, L1 ++ [(⟨x0, y0, x1, y1⟩ : Ed)] = L := ⟨_, rfl⟩
        have hn1 : L1.length ≤ 100000 := by rw [← hL1, List.length_take]; omega
        have hn2 : L2.length ≤ 100001 := by rw [← hL2, List.length_append, List.length_singleton]; omega
        rw [hL1] at HR9
        have HR := Lib.hid HR9
        have HL1 := Lib.hid hL1
        have HL2 := Lib.hid hL2
        have hic : rs.length ≤ c := by omega
        have hicz : ((rs.length : Nat) : Int) ≤ (c : Int) := by omega
        have hicy : ((rs.length : Nat) : Int) ≤ (rs.length : Int) := by omega
        have hlt1 : ([] : List Ed).length + L1.length ≤ 1000000 := by rw [List.length_nil]; omega
        have hlt2 : L1.length ≤ 1000000 := by omega
        have hlt3 : L2.length + rs.length ≤ 1000000 := by omega
        have hB1 : WT.heap.size ≤ (WT.alloc (.cells #[] 70)).heap.size := by simp
        have hoff : rs.length < rs.length → rs.length * 4 = rs.length * 4 := fun _ => rfl
        clear HR9 hL1 hL2
        go_wp2_with (first
          | (at_builtin; refine wpList_append_EE rfl (.tmp 34) (.tmp 37) rfl WT.heap.size B _ _ [] L1 rfl HT.out rfl HR.out hlt1 hB1 ?_; intro v1 w2 k1 k2; rw [List.nil_append] at k1; obtain ⟨A1, c1, rfl, -, -, -⟩ := k1.form; have K1 := Lib.hid k1; have Hb2 := Lib.hid (HBa.out.trans k2); obtain ⟨p0, p1, p2, p3⟩ := box4 ((HZ.out _ HBt.out).1.on Hb2.out); have hs2 := Hb2.out.size; clear k1 k2)
          | (at_builtin; refine wpList_append_E rfl (.tmp 39) (.tmp 41) rfl WT.heap.size _ L1 rfl K1.out x0 y0 x1 y1 rfl hlt2 hs2 ?_; intro v2 w3 m1 m2 m3; rw [HL2.out] at m1; obtain ⟨A2, c2, rfl, -, -, -⟩ := m1.form; have M1 := Lib.hid m1; have Hb3 := Lib.hid (Hb2.out.trans m3); have HR3 := Lib.hid ((HZ.out _ HBt.out).2.on Hb3.out); have hs3 := Hb3.out.size; clear m1 m2 m3)
          | (at_builtin; refine wpList_append_ET rfl (.tmp 43) (.tmp 46) rfl WT.heap.size B _ g rs.length c _ _ _ L2 rs rs.length rfl M1.out rfl HR3.out hia (by omega) hoff hlt3 hs3 ?_; intro v3 w4 n1 n2; have N1 := Lib.hid n1; have Hb4 := Lib.hid (Hb3.out.trans n2); clear n1 n2))
        obtain ⟨A3, c3, hv3, -, -, -⟩ := N1.out.form
        subst hv3
        obtain ⟨g3, _, _, _, _, hA3, -⟩ := N1.out.elem (k := 0) (by rw [List.length_append, ← HL2.out, List.length_append, List.length_singleton]; omega)
        subst hA3
        go_wp2_with fail
        go_ret
        refine ⟨g3, _, c3, rfl, ?_, B0.out.trans ((HBt.out.trans (Hb4.out.mono hszt)).mono (Nat.le_succ _))⟩
        rw [putE_at (Nat.le_refl _) HI.out (fun a ha => by rw [List.getElem?_eq_none (Nat.le_refl _)] at ha; cases ha), if_neg (fun h9 => by rw [List.getElem?_eq_none (Nat.le_refl _)] at h9; cases h9), List.append_cons, HL1.out, HL2.out]
        exact N1.out.less (by omega)

end Go.Proofs.YtemeegpmdhgocaaGreat

namespace Go.Proofs.YtemeegpmdhgocaaGreat
open Go.RowKit

theorem data_one {v v' : Bool} {k k' a a' t t' : Int} (hk : k = 1 ∨ k = -1) (hk' : k' = 1 ∨ k' = -1) (h : edOf v k a t (t + 1) = edOf v' k' a' t' (t' + 1)) : v = v' ∧ k = k' ∧ a = a' ∧ t = t' := by
  cases v <;> cases v' <;> rcases hk with rfl | rfl <;> rcases hk' with rfl | rfl <;> simp [edOf] at h ⊢ <;> omega
/-- x is the edge that begins with the side e. -/
def Added (G : Gr) (e x : Ed) : Prop := ∃ v k a t, SideC G e v k a t ∧ FirstC G v k a t ∧ x = wholeE G v k a t
theorem added_yes {G : Gr} {e : Ed} {v : Bool} {k a t : Int} (h : SideC G e v k a t) (hf : FirstC G v k a t) (x : Ed) : Added G e x ↔ x = wholeE G v k a t := by
  constructor
  · rintro ⟨v', k', a', t', h', -, rfl⟩
    obtain ⟨rfl, rfl, rfl, rfl⟩ := data_one h.1 h'.1 (h.2.2.symm.trans h'.2.2)
    rfl
  · rintro rfl
    exact ⟨v, k, a, t, h, hf, rfl⟩
theorem added_no {G : Gr} {e : Ed} {v : Bool} {k a t : Int} (h : SideC G e v k a t) (hf : ¬ FirstC G v k a t) (x : Ed) : ¬ Added G e x := by
  rintro ⟨v', k', a', t', h', hf', rfl⟩
  obtain ⟨rfl, rfl, rfl, rfl⟩ := data_one h.1 h'.1 (h.2.2.symm.trans h'.2.2)
  exact hf hf'
theorem added_step {G : Gr} {S L L' : List Ed} {i : Nat} {e : Ed} (hL : ∀ x, x ∈ L ↔ ∃ j e, j < i ∧ S[j]? = some e ∧ Added G e x) (he : S[i]? = some e) (h : ∀ x, x ∈ L' ↔ Added G e x ∨ x ∈ L) : ∀ x, x ∈ L' ↔ ∃ j e, j < i + 1 ∧ S[j]? = some e ∧ Added G e x := by
  intro x
  rw [h, hL]
  constructor
  · rintro (h1 | ⟨j, e', h1, h2, h3⟩)
    · exact ⟨i, e, by omega, he, h1⟩
    · exact ⟨j, e', by omega, h2, h3⟩
  · rintro ⟨j, e', h1, h2, h3⟩
    by_cases hj : j = i
    · subst hj
      rw [he] at h2
      exact .inl (Option.some.inj h2 ▸ h3)
    · exact .inr ⟨j, e', by omega, h2, h3⟩
theorem edges_all {G : Gr} {L : List Ed} (h : ∀ x, x ∈ L ↔ ∃ j e, j < (sidesTo G 6400).length ∧ (sidesTo G 6400)[j]? = some e ∧ Added G e x) : EdgesOf G L := by
  intro x
  rw [h, edges_iff]
  constructor
  · rintro ⟨j, e, -, -, v, k, a, t, h1, h2, h3⟩
    exact ⟨v, k, a, t, h1.1, h1.2.1, h2, h3⟩
  · rintro ⟨v, k, a, t, hk, hs, hf, rfl⟩
    have hm : edOf v k a t (t + 1) ∈ sidesTo G 6400 := (sides_mem G _).2 ⟨v, k, a, t, hk, hs, rfl⟩
    obtain ⟨j, hj⟩ := List.getElem?_of_mem hm
    exact ⟨j, _, (List.getElem?_eq_some_iff.1 hj).1, hj, v, k, a, t, ⟨hk, hs, rfl⟩, hf, rfl⟩
theorem putE_len (l : List Ed) (e : Ed) : (putE l e).length ≤ l.length + 1 := by
  induction l with
  | nil => simp [putE]
  | cons a r ih =>
    unfold putE
    split
    · simp; omega
    · split <;> simp

set_option maxHeartbeats 6400000 in
set_option maxRecDepth 100000 in
/-- l06Edges. -/
theorem edges_any (v : Value) (G : Gr) (w : World) (hG : GS w 0 v G) :
    Calls Tryz.prog 51 #[v] w fun e w' => ∃ g n c L, e = .returned (.slice (some ⟨g, 0, none⟩) n c) ∧ EL w' w.heap.size (.slice (some ⟨g, 0, none⟩) n c) L ∧ EdS L ∧ EdgesOf G L ∧ L.length ≤ 26000 ∧ Below w.heap.size w w' := by
  have r0 : EL (w.alloc (.cells #[] 70)) w.heap.size (.slice (some ⟨w.heap.size, 0, none⟩) 0 0) [] := World.ownsRow_lit w #[] 0 (Nat.le_refl _) (by simp [maxLen]) (by simp)
  have b0 := (Below.refl w.heap.size w).alloc (Nat.le_refl _) (.cells #[] 70)
  have HV := Lib.hid (show ∀ W, Below w.heap.size w W → GS W 0 v G from fun W hW => hG.on hW)
  clear hG
  go_enter Tryz.func51, Tryz.ntmps51
  go_wp2_with fail
  refine (sides_any v G _ (HV.out _ b0)).mono ?_
  rintro e w1 ⟨u, rfl, hS, hb1⟩
  obtain ⟨S, hSe⟩ : ∃ S, sidesTo G 6400 = S := ⟨_, rfl⟩
  have hSl := sidesTo_len G 6400
  rw [hSe] at hS hSl
  have HSe := Lib.hid hSe
  obtain ⟨AS, cS, rfl, -, -, -⟩ := hS.form
  have t1 := b0.trans (hb1.mono b0.size)
  have r1 := r0.on hb1
  have HS := Lib.hid hS
  clear r0 b0 hb1 hSe hS
  go_wp2
  go_loopw [3, 5] (fun ov iv wr => ∃ (i g n c : Nat) (L : List Ed), i ≤ S.length ∧ iv = .int .i64 i ∧ ov = .slice (some ⟨g, 0, none⟩) n c ∧ EL wr w.heap.size (.slice (some ⟨g, 0, none⟩) n c) L ∧ EdS L ∧ L.length ≤ i ∧ Hid (∀ x, x ∈ L ↔ ∃ j e, j < i ∧ S[j]? = some e ∧ Added G e x) ∧ Below w1.heap.size w1 wr ∧ Below w.heap.size w wr) (fun _ iv _ => S.length - (intOf iv).toNat)
  case atStart => exact ⟨0, _, _, _, [], by omega, rfl, rfl, r1, List.Pairwise.nil, by simp, Lib.hid (fun x => by simp), Below.refl _ _, t1⟩
  case round =>
    obtain ⟨i, g, n, c, L, hi, rfl, rfl, hL, hEd, hlL, HM, hb1, hb⟩ := hrel
    clear r1 t1
    by_cases hlt : i < S.length
    · obtain ⟨gs, X0, Y0, X1, Y1, rfl, he, hgl, c0, c1, c2, c3⟩ := (HS.out.on hb1).elem hlt
      have hlti : (i : Int) < (S.length : Int) := by omega
      have hmem : (⟨X0, Y0, X1, Y1⟩ : Ed) ∈ sidesTo G 6400 := by rw [HSe.out]; exact List.mem_of_getElem? he
      obtain ⟨vv, k, a, t, hside⟩ := (sides_mem G _).1 hmem
      have hside0 := hside
      obtain ⟨hk, hs, hed⟩ := hside
      have hin := stG_in (G := G) (v := vv) (a := a) (t := t) (by rw [hs]; omega)
      have He := Lib.hid he
      have HSd := Lib.hid hside0
      have HLr := Lib.hid hL
      have HEd := Lib.hid hEd
      have bA := (Below.refl wr.heap.size wr).alloc (Nat.le_refl _) (.cells #[.int .i64 X0, .int .i64 Y0, .int .i64 X1, .int .i64 Y1] 70)
      have hsz := hb.size
      have x1 : t + 1 - t = 1 := by omega
      have x2 : t - (t + 1) = -1 := by omega
      have x3 : a - a = 0 := by omega
      have x4 : t + 1 - -1 = t + 1 + 1 := by omega
      have x5 : a - 0 = a := by omega
      have e1 := Go.IntWalk.i64_in (t + 1 - t) (by omega)
      have e2 := Go.IntWalk.i64_in (t - (t + 1)) (by omega)
      have e3 := Go.IntWalk.i64_in (a - a) (by omega)
      have e4 := Go.IntWalk.i64_in (t - 1) (by omega)
      have e5 := Go.IntWalk.i64_in (t + 1 + 1) (by omega)
      have e6 := Go.IntWalk.i64_in (t + 1 - -1) (by omega)
      clear hmem hside0 he hL hEd
      cases vv <;> rcases hk with rfl | rfl
      · obtain ⟨rfl, rfl, rfl, rfl⟩ : t = X0 ∧ a = Y0 ∧ (t + 1) = X1 ∧ a = Y1 := by simp [edOf] at hed; omega
        clear hed
        have hGA := HV.out _ (hb.trans (bA.mono hsz))
        by_cases hf : stG G false a (t - 1) = 1
        · have hI : isSide G (t - 1) a 1 0 = true := by rw [side_h1 G (t - 1) a]; simpa using hf
          have HI := Lib.hid hI
          have hno : ¬ FirstC G false 1 a t := by unfold FirstC; simp [upD]; exact hf
          have HM2 := Lib.hid (added_step HM.out He.out (L' := L) (fun x => by simp only [added_no HSd.out hno x, false_or]))
          clear hI hno hf
          go_wp2_with (go_at_call 87; (with_reducible refine (is_any v G (t - 1) a 1 0 _ (HV.out _ (hb.trans (bA.mono hsz))) (by omega) (by omega)).mono ?_); rintro e w2 ⟨he, rfl⟩; rw [HI.out] at he; subst he)
          exact ⟨⟨i + 1, g, n, c, L, by omega, by go_num, rfl, HLr.out.on bA, HEd.out, by omega, HM2, hb1.trans (bA.mono hb1.size), hb.trans (bA.mono hsz)⟩, by simp [intOf]; omega⟩
        · have hI : isSide G (t - 1) a 1 0 = false := by rw [side_h1 G (t - 1) a]; simpa using hf
          have HI := Lib.hid hI
          have hyes : FirstC G false 1 a t := by unfold FirstC; simp [upD]; exact hf
          have HM2 := Lib.hid (added_step HM.out He.out (L' := putE L (wholeE G false 1 a t)) (fun x => by rw [putE_mem, added_yes HSd.out hyes x]))
          have HW := Lib.hid (fun (W : World) (hW : GS W 0 v G) => wholeA_any v G a t W hW hs)
          have hll : L.length ≤ 100000 := by omega
          obtain ⟨E, hE⟩ : ∃ E, wholeE G false 1 a t = E := ⟨_, rfl⟩
          rw [hE] at HM2 HW
          obtain ⟨q0, q1, q2, q3⟩ := E
          unfold Ed.val at HW
          dsimp only at HW
          clear hI hyes hf hE
          have hszA := bA.size
          go_wp2_with (first
            | (go_at_call 87; (with_reducible refine (is_any v G (t - 1) a 1 0 _ (HV.out _ (hb.trans (bA.mono hsz))) (by omega) (by omega)).mono ?_); rintro e w2 ⟨he, rfl⟩; rw [HI.out] at he; subst he)
            | (go_at_call 88; (with_reducible refine (HW.out _ hGA).mono ?_); rintro e w3 ⟨rfl, hb3⟩; have bB := bA.trans (hb3.mono hszA); have hszB := bB.size; have HLB := Lib.hid (HLr.out.on bB))
            | (go_at_call 53; refine (put_E g n c L ⟨q0, q1, q2, q3⟩ w.heap.size _ HLB.out (Nat.le_trans hsz hszB) hll).mono ?_; rintro e w4 ⟨g4, n4, c4, rfl, hL4, hb4⟩; have bC := bB.trans (hb4.mono hszB)))
          exact ⟨⟨i + 1, g4, n4, c4, _, by omega, by go_num, rfl, hL4, putE_sorted _ HEd.out, by have := putE_len L ⟨q0, q1, q2, q3⟩; omega, HM2, hb1.trans (bC.mono hb1.size), hb.trans (bC.mono hsz)⟩, by simp [intOf]; omega⟩
      · obtain ⟨rfl, rfl, rfl, rfl⟩ : (t + 1) = X0 ∧ a = Y0 ∧ t = X1 ∧ a = Y1 := by simp [edOf] at hed; omega
        clear hed
        have hGA := HV.out _ (hb.trans (bA.mono hsz))
        by_cases hf : stG G false a (t + 1) = (-1)
        · have hI : isSide G (t + 1 + 1) a (-1) 0 = true := by rw [side_h2 G (t + 1) a]; simpa using hf
          have HI := Lib.hid hI
          have hno : ¬ FirstC G false (-1) a t := by unfold FirstC; simp [upD]; exact hf
          have HM2 := Lib.hid (added_step HM.out He.out (L' := L) (fun x => by simp only [added_no HSd.out hno x, false_or]))
          clear hI hno hf
          go_wp2_with (go_at_call 87; (with_reducible refine (is_any v G (t + 1 + 1) a (-1) 0 _ (HV.out _ (hb.trans (bA.mono hsz))) (by omega) (by omega)).mono ?_); rintro e w2 ⟨he, rfl⟩; rw [HI.out] at he; subst he)
          exact ⟨⟨i + 1, g, n, c, L, by omega, by go_num, rfl, HLr.out.on bA, HEd.out, by omega, HM2, hb1.trans (bA.mono hb1.size), hb.trans (bA.mono hsz)⟩, by simp [intOf]; omega⟩
        · have hI : isSide G (t + 1 + 1) a (-1) 0 = false := by rw [side_h2 G (t + 1) a]; simpa using hf
          have HI := Lib.hid hI
          have hyes : FirstC G false (-1) a t := by unfold FirstC; simp [upD]; exact hf
          have HM2 := Lib.hid (added_step HM.out He.out (L' := putE L (wholeE G false (-1) a t)) (fun x => by rw [putE_mem, added_yes HSd.out hyes x]))
          have HW := Lib.hid (fun (W : World) (hW : GS W 0 v G) => wholeB_any v G a t W hW hs)
          have hll : L.length ≤ 100000 := by omega
          obtain ⟨E, hE⟩ : ∃ E, wholeE G false (-1) a t = E := ⟨_, rfl⟩
          rw [hE] at HM2 HW
          obtain ⟨q0, q1, q2, q3⟩ := E
          unfold Ed.val at HW
          dsimp only at HW
          clear hI hyes hf hE
          have hszA := bA.size
          go_wp2_with (first
            | (go_at_call 87; (with_reducible refine (is_any v G (t + 1 + 1) a (-1) 0 _ (HV.out _ (hb.trans (bA.mono hsz))) (by omega) (by omega)).mono ?_); rintro e w2 ⟨he, rfl⟩; rw [HI.out] at he; subst he)
            | (go_at_call 88; (with_reducible refine (HW.out _ hGA).mono ?_); rintro e w3 ⟨rfl, hb3⟩; have bB := bA.trans (hb3.mono hszA); have hszB := bB.size; have HLB := Lib.hid (HLr.out.on bB))
            | (go_at_call 53; refine (put_E g n c L ⟨q0, q1, q2, q3⟩ w.heap.size _ HLB.out (Nat.le_trans hsz hszB) hll).mono ?_; rintro e w4 ⟨g4, n4, c4, rfl, hL4, hb4⟩; have bC := bB.trans (hb4.mono hszB)))
          exact ⟨⟨i + 1, g4, n4, c4, _, by omega, by go_num, rfl, hL4, putE_sorted _ HEd.out, by have := putE_len L ⟨q0, q1, q2, q3⟩; omega, HM2, hb1.trans (bC.mono hb1.size), hb.trans (bC.mono hsz)⟩, by simp [intOf]; omega⟩
      · obtain ⟨rfl, rfl, rfl, rfl⟩ : a = X0 ∧ (t + 1) = Y0 ∧ a = X1 ∧ t = Y1 := by simp [edOf] at hed; omega
        clear hed
        have hGA := HV.out _ (hb.trans (bA.mono hsz))
        by_cases hf : stG G true a (t + 1) = 1
        · have hI : isSide G a (t + 1 + 1) 0 (-1) = true := by rw [side_v1 G (t + 1) a]; simpa using hf
          have HI := Lib.hid hI
          have hno : ¬ FirstC G true 1 a t := by unfold FirstC; simp [upD]; exact hf
          have HM2 := Lib.hid (added_step HM.out He.out (L' := L) (fun x => by simp only [added_no HSd.out hno x, false_or]))
          clear hI hno hf
          go_wp2_with (go_at_call 87; (with_reducible refine (is_any v G a (t + 1 + 1) 0 (-1) _ (HV.out _ (hb.trans (bA.mono hsz))) (by omega) (by omega)).mono ?_); rintro e w2 ⟨he, rfl⟩; rw [HI.out] at he; subst he)
          exact ⟨⟨i + 1, g, n, c, L, by omega, by go_num, rfl, HLr.out.on bA, HEd.out, by omega, HM2, hb1.trans (bA.mono hb1.size), hb.trans (bA.mono hsz)⟩, by simp [intOf]; omega⟩
        · have hI : isSide G a (t + 1 + 1) 0 (-1) = false := by rw [side_v1 G (t + 1) a]; simpa using hf
          have HI := Lib.hid hI
          have hyes : FirstC G true 1 a t := by unfold FirstC; simp [upD]; exact hf
          have HM2 := Lib.hid (added_step HM.out He.out (L' := putE L (wholeE G true 1 a t)) (fun x => by rw [putE_mem, added_yes HSd.out hyes x]))
          have HW := Lib.hid (fun (W : World) (hW : GS W 0 v G) => wholeC_any v G a t W hW hs)
          have hll : L.length ≤ 100000 := by omega
          obtain ⟨E, hE⟩ : ∃ E, wholeE G true 1 a t = E := ⟨_, rfl⟩
          rw [hE] at HM2 HW
          obtain ⟨q0, q1, q2, q3⟩ := E
          unfold Ed.val at HW
          dsimp only at HW
          clear hI hyes hf hE
          have hszA := bA.size
          go_wp2_with (first
            | (go_at_call 87; (with_reducible refine (is_any v G a (t + 1 + 1) 0 (-1) _ (HV.out _ (hb.trans (bA.mono hsz))) (by omega) (by omega)).mono ?_); rintro e w2 ⟨he, rfl⟩; rw [HI.out] at he; subst he)
            | (go_at_call 88; (with_reducible refine (HW.out _ hGA).mono ?_); rintro e w3 ⟨rfl, hb3⟩; have bB := bA.trans (hb3.mono hszA); have hszB := bB.size; have HLB := Lib.hid (HLr.out.on bB))
            | (go_at_call 53; refine (put_E g n c L ⟨q0, q1, q2, q3⟩ w.heap.size _ HLB.out (Nat.le_trans hsz hszB) hll).mono ?_; rintro e w4 ⟨g4, n4, c4, rfl, hL4, hb4⟩; have bC := bB.trans (hb4.mono hszB)))
          exact ⟨⟨i + 1, g4, n4, c4, _, by omega, by go_num, rfl, hL4, putE_sorted _ HEd.out, by have := putE_len L ⟨q0, q1, q2, q3⟩; omega, HM2, hb1.trans (bC.mono hb1.size), hb.trans (bC.mono hsz)⟩, by simp [intOf]; omega⟩
      · obtain ⟨rfl, rfl, rfl, rfl⟩ : a = X0 ∧ t = Y0 ∧ a = X1 ∧ (t + 1) = Y1 := by simp [edOf] at hed; omega
        clear hed
        have hGA := HV.out _ (hb.trans (bA.mono hsz))
        by_cases hf : stG G true a (t - 1) = (-1)
        · have hI : isSide G a (t - 1) 0 1 = true := by rw [side_v2 G (t - 1) a]; simpa using hf
          have HI := Lib.hid hI
          have hno : ¬ FirstC G true (-1) a t := by unfold FirstC; simp [upD]; exact hf
          have HM2 := Lib.hid (added_step HM.out He.out (L' := L) (fun x => by simp only [added_no HSd.out hno x, false_or]))
          clear hI hno hf
          go_wp2_with (go_at_call 87; (with_reducible refine (is_any v G a (t - 1) 0 1 _ (HV.out _ (hb.trans (bA.mono hsz))) (by omega) (by omega)).mono ?_); rintro e w2 ⟨he, rfl⟩; rw [HI.out] at he; subst he)
          exact ⟨⟨i + 1, g, n, c, L, by omega, by go_num, rfl, HLr.out.on bA, HEd.out, by omega, HM2, hb1.trans (bA.mono hb1.size), hb.trans (bA.mono hsz)⟩, by simp [intOf]; omega⟩
        · have hI : isSide G a (t - 1) 0 1 = false := by rw [side_v2 G (t - 1) a]; simpa using hf
          have HI := Lib.hid hI
          have hyes : FirstC G true (-1) a t := by unfold FirstC; simp [upD]; exact hf
          have HM2 := Lib.hid (added_step HM.out He.out (L' := putE L (wholeE G true (-1) a t)) (fun x => by rw [putE_mem, added_yes HSd.out hyes x]))
          have HW := Lib.hid (fun (W : World) (hW : GS W 0 v G) => wholeD_any v G a t W hW hs)
          have hll : L.length ≤ 100000 := by omega
          obtain ⟨E, hE⟩ : ∃ E, wholeE G true (-1) a t = E := ⟨_, rfl⟩
          rw [hE] at HM2 HW
          obtain ⟨q0, q1, q2, q3⟩ := E
          unfold Ed.val at HW
          dsimp only at HW
          clear hI hyes hf hE
          have hszA := bA.size
          go_wp2_with (first
            | (go_at_call 87; (with_reducible refine (is_any v G a (t - 1) 0 1 _ (HV.out _ (hb.trans (bA.mono hsz))) (by omega) (by omega)).mono ?_); rintro e w2 ⟨he, rfl⟩; rw [HI.out] at he; subst he)
            | (go_at_call 88; (with_reducible refine (HW.out _ hGA).mono ?_); rintro e w3 ⟨rfl, hb3⟩; have bB := bA.trans (hb3.mono hszA); have hszB := bB.size; have HLB := Lib.hid (HLr.out.on bB))
            | (go_at_call 53; refine (put_E g n c L ⟨q0, q1, q2, q3⟩ w.heap.size _ HLB.out (Nat.le_trans hsz hszB) hll).mono ?_; rintro e w4 ⟨g4, n4, c4, rfl, hL4, hb4⟩; have bC := bB.trans (hb4.mono hszB)))
          exact ⟨⟨i + 1, g4, n4, c4, _, by omega, by go_num, rfl, hL4, putE_sorted _ HEd.out, by have := putE_len L ⟨q0, q1, q2, q3⟩; omega, HM2, hb1.trans (bC.mono hb1.size), hb.trans (bC.mono hsz)⟩, by simp [intOf]; omega⟩
    · obtain rfl : i = S.length := by omega
      go_wp2
      go_ret
      exact ⟨g, n, c, L, rfl, hL, hEd, edges_all (by rw [HSe.out]; exact HM.out), by omega, hb⟩

end Go.Proofs.YtemeegpmdhgocaaGreat
