/- Contracts: the reference's l10After and l10Rect. Conditions: numbers in range. Plain law of FnElements: how many occurrences there are, and what the chosen shapes give together. No conditions. -/
import Derived.Test.YtgegbgkokkdmpaaGreatQ29
import Derived.Test.YtgegbgkokkdmpaaGreatQ25

namespace Go.Proofs.YtgegbgkokkdmpaaGreat
open Go.RowKit

theorem rem4p {a : Int} (h : 0 ≤ a) : ∃ m : Nat, m ≤ 3 ∧ a % 4 = (m : Int) ∧ a.tmod 4 = (m : Int) := by
  refine ⟨(a % 4).toNat, by omega, by omega, ?_⟩
  rw [Int.tmod_eq_emod_of_nonneg h]
  omega
theorem quo4 {a : Int} (h : 0 ≤ a ∧ a ≤ 7) : ∃ m : Nat, m ≤ 1 ∧ (if 4 ≤ a then (1 : Int) else 0) = (m : Int) ∧ a.tdiv 4 = (m : Int) := by
  refine ⟨if 4 ≤ a then 1 else 0, by split <;> omega, by split <;> rfl, ?_⟩
  rw [Int.tdiv_eq_ediv_of_nonneg h.1]
  split <;> omega
set_option maxHeartbeats 3200000 in
set_option maxRecDepth 100000 in
/-- l10After. -/
theorem after_any (a b : Tf) (ha : a.small) (hb : b.small) (w : World) : Calls Tryz.prog 70 #[b.val, a.val] w fun e w' => e = .returned (compT a b).val ∧ Below w.heap.size w w' := by
  obtain ⟨p, hp, ep, ea⟩ := rem4 ha.1
  obtain ⟨q, hq, eq, eb⟩ := rem4 hb.1
  obtain ⟨s, hs, es, ed⟩ := quo4 ha.1
  have hc : compO a.o b.o = if 4 ≤ b.o then ((q : Int) + -(p : Int) + 4) % 4 + 4 * (1 - (s : Int)) else ((q : Int) + (p : Int) + 4) % 4 + 4 * (s : Int) := by
    unfold compO
    rw [eq, ep, ← es]
    split <;> split <;> omega
  have Hm := Lib.hid (fun W : World => point10_any b.o b.x b.y a.x a.y W hb.1 hb.2 ha.2)
  obtain ⟨o, x, y⟩ := a
  obtain ⟨bo, bx, bY⟩ := b
  obtain ⟨ho, hx, hy⟩ := ha
  obtain ⟨hbo, -, -⟩ := hb
  unfold Tf.val
  unfold compT
  dsimp only at ho hx hy hbo Hm hc ea eb ed ⊢
  rw [hc]
  obtain ⟨X, hX⟩ : ∃ X, X = moveX ⟨bo, bx, bY⟩ x y := ⟨_, rfl⟩
  obtain ⟨Y, hY⟩ : ∃ Y, Y = moveY ⟨bo, bx, bY⟩ x y := ⟨_, rfl⟩
  rw [← hX, ← hY] at Hm
  rw [← hX, ← hY]
  have i0 := Go.IntWalk.i64_in (-(p : Int)) (by omega)
  have i1 := Go.IntWalk.i64_in (1 - (s : Int)) (by omega)
  have i2 := Go.IntWalk.i64_in ((q : Int) + -(p : Int)) (by omega)
  have i3 := Go.IntWalk.i64_in ((q : Int) + (p : Int)) (by omega)
  have i4 := Go.IntWalk.i64_in ((q : Int) + -(p : Int) + 4) (by omega)
  have i5 := Go.IntWalk.i64_in ((q : Int) + (p : Int) + 4) (by omega)
  have i6 := Go.IntWalk.i64_in (4 * (s : Int)) (by omega)
  have i7 := Go.IntWalk.i64_in (4 * (1 - (s : Int))) (by omega)
  obtain ⟨r, hr, er, es1⟩ := rem4 (a := (q : Int) + -(p : Int) + 4) (by omega)
  obtain ⟨r', hr', er', es2⟩ := rem4p (a := (q : Int) + (p : Int) + 4) (by omega)
  rw [er, er']
  have i8 := Go.IntWalk.i64_in ((r : Int) + 4 * (1 - (s : Int))) (by omega)
  have i9 := Go.IntWalk.i64_in ((r' : Int) + 4 * (s : Int)) (by omega)
  clear hX hY hc er er' ep eq es
  have z0 := ((Bk.new w 72 #[.int .i64 bo, .int .i64 bx, .int .i64 bY]).alloc (.cells #[.int .i64 o, .int .i64 x, .int .i64 y] 72)).alloc (.cells #[.int .i64 0, .int .i64 0, .int .i64 0] 72)
  have z1 := (Bk.new (w.alloc (.cells #[.int .i64 bo, .int .i64 bx, .int .i64 bY] 72)) 72 #[.int .i64 o, .int .i64 x, .int .i64 y]).alloc (.cells #[.int .i64 0, .int .i64 0, .int .i64 0] 72)
  have z2 := Bk.new ((w.alloc (.cells #[.int .i64 bo, .int .i64 bx, .int .i64 bY] 72)).alloc (.cells #[.int .i64 o, .int .i64 x, .int .i64 y] 72)) 72 #[.int .i64 0, .int .i64 0, .int .i64 0]
  have e1 : (w.alloc (.cells #[.int .i64 bo, .int .i64 bx, .int .i64 bY] 72)).heap.size = w.heap.size + 1 := by simp
  have e2 : ((w.alloc (.cells #[.int .i64 bo, .int .i64 bx, .int .i64 bY] 72)).alloc (.cells #[.int .i64 o, .int .i64 x, .int .i64 y] 72)).heap.size = w.heap.size + 1 + 1 := by simp
  rw [e1] at z1
  rw [e2] at z2
  have tw := (((Below.refl w.heap.size w).alloc (Nat.le_refl _) (.cells #[.int .i64 bo, .int .i64 bx, .int .i64 bY] 72)).alloc (by simp) (.cells #[.int .i64 o, .int .i64 x, .int .i64 y] 72)).alloc (by rw [e2]; omega) (.cells #[.int .i64 0, .int .i64 0, .int .i64 0] 72)
  clear e1 e2
  by_cases h4 : bo ≥ 4
  · have h4' : 4 ≤ bo := h4
    go_enter Tryz.func70, Tryz.ntmps70
    go_upto_region 1 with fail
    obtain ⟨W, hW⟩ : ∃ W, W = ((w.alloc (.cells #[.int .i64 bo, .int .i64 bx, .int .i64 bY] 72)).alloc (.cells #[.int .i64 o, .int .i64 x, .int .i64 y] 72)).alloc (.cells #[.int .i64 0, .int .i64 0, .int .i64 0] 72) := ⟨_, rfl⟩
    rw [← hW] at z0 z1 z2 tw ⊢
    clear hW
    obtain ⟨c0, c1, c2⟩ := box3 z0
    obtain ⟨d0, d1, d2⟩ := box3 z1
    go_wp2_with (go_at_call 50; (with_reducible refine (Hm.out _).mono ?_); rintro e w1 ⟨rfl, hb1⟩; have y0 := (z0.on hb1).alloc (.cells #[.int .i64 X, .int .i64 Y] 107); have y2 := (z2.on hb1).alloc (.cells #[.int .i64 X, .int .i64 Y] 107); have ty := (tw.trans (hb1.mono tw.size)).alloc (Nat.le_trans tw.size hb1.size) (.cells #[.int .i64 X, .int .i64 Y] 107); obtain ⟨k0, k1, k2⟩ := box3 y0; obtain ⟨k3, k4, k5⟩ := box3 y2; have f0 := y2.frozen 0; have f1 := y2.frozen 1; have f2 := y2.frozen 2)
    refine bodyPost_ret (v := .agg #[.int .i64 ((r : Int) + 4 * (1 - (s : Int))), .int .i64 X, .int .i64 Y]) (by simp [results, Tryz.results70, go_sem, *]) rfl ?_
    exact ⟨rfl, ((ty.setCell (p := ⟨w.heap.size + 1 + 1, 0, none⟩) (by simp; omega) _).setCell (p := ⟨w.heap.size + 1 + 1, 1, none⟩) (by simp; omega) _).setCell (p := ⟨w.heap.size + 1 + 1, 2, none⟩) (by simp; omega) _⟩
  · have h4' : ¬ 4 ≤ bo := by omega
    go_enter Tryz.func70, Tryz.ntmps70
    go_upto_region 1 with fail
    obtain ⟨W, hW⟩ : ∃ W, W = ((w.alloc (.cells #[.int .i64 bo, .int .i64 bx, .int .i64 bY] 72)).alloc (.cells #[.int .i64 o, .int .i64 x, .int .i64 y] 72)).alloc (.cells #[.int .i64 0, .int .i64 0, .int .i64 0] 72) := ⟨_, rfl⟩
    rw [← hW] at z0 z1 z2 tw ⊢
    clear hW
    obtain ⟨c0, c1, c2⟩ := box3 z0
    obtain ⟨d0, d1, d2⟩ := box3 z1
    go_wp2_with (go_at_call 50; (with_reducible refine (Hm.out _).mono ?_); rintro e w1 ⟨rfl, hb1⟩; have y0 := (z0.on hb1).alloc (.cells #[.int .i64 X, .int .i64 Y] 107); have y2 := (z2.on hb1).alloc (.cells #[.int .i64 X, .int .i64 Y] 107); have ty := (tw.trans (hb1.mono tw.size)).alloc (Nat.le_trans tw.size hb1.size) (.cells #[.int .i64 X, .int .i64 Y] 107); obtain ⟨k0, k1, k2⟩ := box3 y0; obtain ⟨k3, k4, k5⟩ := box3 y2; have f0 := y2.frozen 0; have f1 := y2.frozen 1; have f2 := y2.frozen 2)
    refine bodyPost_ret (v := .agg #[.int .i64 ((r' : Int) + 4 * (s : Int)), .int .i64 X, .int .i64 Y]) (by simp [results, Tryz.results70, go_sem, *]) rfl ?_
    exact ⟨rfl, ((ty.setCell (p := ⟨w.heap.size + 1 + 1, 0, none⟩) (by simp; omega) _).setCell (p := ⟨w.heap.size + 1 + 1, 1, none⟩) (by simp; omega) _).setCell (p := ⟨w.heap.size + 1 + 1, 2, none⟩) (by simp; omega) _⟩

set_option maxHeartbeats 3200000 in
set_option maxRecDepth 100000 in
/-- l10Rect. -/
theorem rect10_any (t : Tf) (r : Rc) (ht : t.small) (hr : okRc r = true) (w : World) : Calls Tryz.prog 29 #[t.val, r.val] w fun e w' => e = .returned (.agg #[.int .i64 (moveR t r).x0, .int .i64 (moveR t r).y0, .int .i64 (moveR t r).x1, .int .i64 (moveR t r).y1]) ∧ Below w.heap.size w w' := by
  have hb := (okRc_iff r).1 hr
  obtain ⟨a, b, p, q⟩ := r
  dsimp only at hb
  have h1 : (-5000 ≤ a ∧ a ≤ 5000) ∧ (-5000 ≤ b ∧ b ≤ 5000) := by omega
  have h2 : (-5000 ≤ p ∧ p ≤ 5000) ∧ (-5000 ≤ q ∧ q ≤ 5000) := by omega
  have m1 := Lib.hid (fun W : World => point10_any t.o t.x t.y a b W ht.1 ht.2 h1)
  have m2 := Lib.hid (fun W : World => point10_any t.o t.x t.y p q W ht.1 ht.2 h2)
  unfold moveR Rc.val
  dsimp only
  obtain ⟨o, tx, ty⟩ := t
  unfold Tf.val
  dsimp only at m1 m2 ⊢
  clear ht hr h1 h2 hb
  generalize moveX ⟨o, tx, ty⟩ a b = X at *
  generalize moveY ⟨o, tx, ty⟩ a b = Y at *
  generalize moveX ⟨o, tx, ty⟩ p q = U at *
  generalize moveY ⟨o, tx, ty⟩ p q = V at *
  have z0 := ((Bk.new w 72 #[.int .i64 o, .int .i64 tx, .int .i64 ty]).alloc (.cells #[.int .i64 a, .int .i64 b, .int .i64 p, .int .i64 q] 60)).alloc (.cells #[.int .i64 0, .int .i64 0, .int .i64 0, .int .i64 0] 60)
  have z1 := (Bk.new (w.alloc (.cells #[.int .i64 o, .int .i64 tx, .int .i64 ty] 72)) 60 #[.int .i64 a, .int .i64 b, .int .i64 p, .int .i64 q]).alloc (.cells #[.int .i64 0, .int .i64 0, .int .i64 0, .int .i64 0] 60)
  have z2 := Bk.new ((w.alloc (.cells #[.int .i64 o, .int .i64 tx, .int .i64 ty] 72)).alloc (.cells #[.int .i64 a, .int .i64 b, .int .i64 p, .int .i64 q] 60)) 60 #[.int .i64 0, .int .i64 0, .int .i64 0, .int .i64 0]
  have e1 : (w.alloc (.cells #[.int .i64 o, .int .i64 tx, .int .i64 ty] 72)).heap.size = w.heap.size + 1 := by simp
  have e2 : ((w.alloc (.cells #[.int .i64 o, .int .i64 tx, .int .i64 ty] 72)).alloc (.cells #[.int .i64 a, .int .i64 b, .int .i64 p, .int .i64 q] 60)).heap.size = w.heap.size + 1 + 1 := by simp
  rw [e1] at z1
  rw [e2] at z2
  have tw := (((Below.refl w.heap.size w).alloc (Nat.le_refl _) (.cells #[.int .i64 o, .int .i64 tx, .int .i64 ty] 72)).alloc (by simp) (.cells #[.int .i64 a, .int .i64 b, .int .i64 p, .int .i64 q] 60)).alloc (by rw [e2]; omega) (.cells #[.int .i64 0, .int .i64 0, .int .i64 0, .int .i64 0] 60)
  clear e1 e2
  go_enter Tryz.func29, Tryz.ntmps29
  go_upto_region 1 with fail
  obtain ⟨W, hW⟩ : ∃ W, W = ((w.alloc (.cells #[.int .i64 o, .int .i64 tx, .int .i64 ty] 72)).alloc (.cells #[.int .i64 a, .int .i64 b, .int .i64 p, .int .i64 q] 60)).alloc (.cells #[.int .i64 0, .int .i64 0, .int .i64 0, .int .i64 0] 60) := ⟨_, rfl⟩
  rw [← hW] at z0 z1 z2 tw ⊢
  clear hW
  obtain ⟨c0, c1, c2⟩ := box3 z0
  obtain ⟨d0, d1, d2, d3⟩ := box4 z1
  go_wp2_with (first
    | (go_at_call 50; (with_reducible refine (m1.out W).mono ?_); rintro e w1 ⟨rfl, hb1⟩; have y0 := (z0.on hb1).alloc (.cells #[.int .i64 X, .int .i64 Y] 107); have y1 := (z1.on hb1).alloc (.cells #[.int .i64 X, .int .i64 Y] 107); have y2 := (z2.on hb1).alloc (.cells #[.int .i64 X, .int .i64 Y] 107); have y3 := Bk.new w1 107 #[.int .i64 X, .int .i64 Y]; have tb := (tw.trans (hb1.mono tw.size)).alloc (Nat.le_trans tw.size hb1.size) (.cells #[.int .i64 X, .int .i64 Y] 107); obtain ⟨k0, k1, k2⟩ := box3 y0; obtain ⟨k3, k4, k5, k6⟩ := box4 y1)
    | (go_at_call 50; (with_reducible refine (m2.out _).mono ?_); rintro e w2 ⟨rfl, hb2⟩; have x2 := (y2.on hb2).alloc (.cells #[.int .i64 U, .int .i64 V] 107); have x3 := (y3.on hb2).alloc (.cells #[.int .i64 U, .int .i64 V] 107); have x4 := Bk.new w2 107 #[.int .i64 U, .int .i64 V]; have tc := (tb.trans (hb2.mono tb.size)).alloc (Nat.le_trans tb.size hb2.size) (.cells #[.int .i64 U, .int .i64 V] 107); obtain ⟨n0, n1⟩ := box2 x3; obtain ⟨n2, n3⟩ := box2 x4; obtain ⟨j0, j1, j2, j3⟩ := box4 x2; have f0 := x2.frozen 0; have f1 := x2.frozen 1; have f2 := x2.frozen 2; have f3 := x2.frozen 3))
  refine bodyPost_ret (v := .agg #[.int .i64 (min X U), .int .i64 (min Y V), .int .i64 (max X U), .int .i64 (max Y V)]) (by simp [results, Tryz.results29, go_sem, *]) rfl ?_
  exact ⟨rfl, (((tc.setCell (p := ⟨w.heap.size + 1 + 1, 0, none⟩) (by simp; omega) _).setCell (p := ⟨w.heap.size + 1 + 1, 1, none⟩) (by simp; omega) _).setCell (p := ⟨w.heap.size + 1 + 1, 2, none⟩) (by simp; omega) _).setCell (p := ⟨w.heap.size + 1 + 1, 3, none⟩) (by simp; omega) _⟩

end Go.Proofs.YtgegbgkokkdmpaaGreat

namespace Go.Proofs.YtgegbgkokkdmpaaGreat

theorem fm_congr {α β : Type} {l : List α} {f g : α → List β} (h : ∀ a ∈ l, f a = g a) : l.flatMap f = l.flatMap g := by
  rw [List.flatMap_def, List.flatMap_def, List.map_congr_left h]
theorem occ_len_eq (cs : List CellD) : ∀ (f : Nat) (o o' : OcD), o.cell = o'.cell → (occ cs f o).length = (occ cs f o').length
  | 0, _, _, _ => rfl
  | f + 1, o, o', h => by
    rw [occ_succ, occ_succ, List.length_cons, List.length_cons]
    unfold below
    rw [h, List.length_flatMap, List.length_flatMap]
    congr 2
    refine List.map_congr_left fun k _ => ?_
    cases (elAt cs o'.cell)[k]? with
    | none => rfl
    | some e => exact occ_len_eq cs f _ _ rfl
theorem el_lt {cs : List CellD} (hl : libB cs = true) {k : Nat} (hk : k < cs.length) {j : Nat} {e : Int × Tf} (h : (elAt cs (k : Int))[j]? = some e) : ∃ kc : Nat, e.1 = (kc : Int) ∧ kc < k := by
  have hc := List.getElem?_eq_getElem hk
  rw [elAt_of hc] at h
  obtain ⟨h9, h10, h11, h12⟩ := (lib_facts hl).2 k _ hc
  obtain ⟨⟨e1, e2⟩, -⟩ := mem_els h12 (List.mem_of_getElem? h)
  exact ⟨e.1.toNat, by omega, by omega⟩
theorem occ_fuel {cs : List CellD} (hl : libB cs = true) : ∀ (f g k : Nat) (t : Tf) (p : List Int), k < f → k < g → k < cs.length → occ cs f ⟨k, t, p⟩ = occ cs g ⟨k, t, p⟩ := by
  intro f
  induction f with
  | zero => intro g k t p h; omega
  | succ f ih =>
    intro g k t p hf hg hk
    obtain ⟨g, rfl⟩ : ∃ g', g = g' + 1 := ⟨g - 1, by omega⟩
    rw [occ_succ, occ_succ]
    congr 1
    unfold below
    refine fm_congr fun j _ => ?_
    dsimp only
    cases he : (elAt cs (k : Int))[j]? with
    | none => rfl
    | some e =>
      obtain ⟨kc, h1, h2⟩ := el_lt hl hk he
      show occ cs f ⟨e.1, compT e.2 t, p ++ [(j : Int)]⟩ = occ cs g ⟨e.1, compT e.2 t, p ++ [(j : Int)]⟩
      rw [h1]
      exact ih g kc _ _ (by omega) (by omega) (by omega)
/-- The number of occurrences below cell k. -/
def nOcc (cs : List CellD) (k : Nat) : Int := ((occ cs (k + 1) ⟨k, ⟨0, 0, 0⟩, []⟩).length : Nat)
theorem nOcc_pos (cs : List CellD) (k : Nat) : 1 ≤ nOcc cs k := by
  unfold nOcc
  rw [occ_succ, List.length_cons]
  omega
theorem nOcc_of {cs : List CellD} (hl : libB cs = true) {f k : Nat} (hf : k < f) (hk : k < cs.length) (t : Tf) (p : List Int) : (((occ cs f ⟨k, t, p⟩).length : Nat) : Int) = nOcc cs k := by
  unfold nOcc
  rw [occ_fuel hl f (k + 1) k t p hf (by omega) hk, occ_len_eq cs (k + 1) ⟨k, t, p⟩ ⟨k, ⟨0, 0, 0⟩, []⟩ rfl]
def occS (cs : List CellD) (es : List (Int × Tf)) : Int := (es.map fun e => nOcc cs e.1.toNat).sum
theorem len_below {cs : List CellD} (hl : libB cs = true) {k f : Nat} (hk : k < cs.length) (hf : k ≤ f) (t : Tf) (p : List Int) : ∀ m, m ≤ (elAt cs (k : Int)).length → (((below cs f ⟨k, t, p⟩ m).length : Nat) : Int) = occS cs ((elAt cs (k : Int)).take m) := by
  intro m
  induction m with
  | zero => intro _; simp [below, occS]
  | succ m ih =>
    intro hm
    have he := List.getElem?_eq_getElem (show m < (elAt cs (k : Int)).length by omega)
    obtain ⟨kc, h1, h2⟩ := el_lt hl hk he
    rw [below_succ (o := ⟨k, t, p⟩) he, List.length_append, List.take_add_one, he, Option.toList_some]
    have h3 := ih (by omega)
    have h4 := nOcc_of hl (f := f) (k := kc) (by omega) (by omega) (compT ((elAt cs (k : Int))[m]'(by omega)).2 t) (p ++ [(m : Int)])
    unfold occS at h3 ⊢
    rw [List.map_append, List.sum_append, ← h3]
    simp only [List.map_cons, List.map_nil, List.sum_cons, List.sum_nil]
    unfold kid
    dsimp only
    rw [h1, Int.toNat_natCast, ← h4]
    omega
theorem nOcc_eq {cs : List CellD} (hl : libB cs = true) {k : Nat} {c : CellD} (h : cs[k]? = some c) : nOcc cs k = 1 + occS cs (elsOf c) := by
  have hk := (List.getElem?_eq_some_iff.1 h).1
  have h1 := len_below hl hk (f := k) (Nat.le_refl _) ⟨0, 0, 0⟩ [] _ (Nat.le_refl _)
  rw [List.take_length, elAt_of h] at h1
  unfold nOcc
  rw [occ_succ, List.length_cons, elAt_of h]
  omega
theorem occS_app (cs : List CellD) (a b : List (Int × Tf)) : occS cs (a ++ b) = occS cs a + occS cs b := by
  unfold occS
  rw [List.map_append, List.sum_append]
theorem occS_row (cs : List CellD) (i : InstD) (r : Nat) : ∀ n : Nat, occS cs (rowEl i r n) = n * nOcc cs i.cell.toNat
  | 0 => by simp [rowEl, occS]
  | n + 1 => by
    rw [rowEl_succ, occS_app, occS_row cs i r n]
    simp only [occS, List.map_cons, List.map_nil, List.sum_cons, List.sum_nil]
    rw [Int.natCast_add, Int.add_mul]
    omega
theorem occS_ins (cs : List CellD) (i : InstD) : ∀ n : Nat, occS cs (insEl i n) = n * (i.cols.toNat * nOcc cs i.cell.toNat)
  | 0 => by simp [insEl, occS]
  | n + 1 => by
    rw [insEl_succ, occS_app, occS_ins cs i n, occS_row, Int.natCast_add, Int.add_mul]
    omega
theorem occS_els (cs : List CellD) (is : List InstD) (cn : List Int) (hv : ∀ i ∈ is, 1 ≤ i.cols ∧ 1 ≤ i.rows ∧ cn.getD i.cell.toNat 0 = nOcc cs i.cell.toNat) : ∀ n, n ≤ is.length → occS cs (elsTo is n) = ((is.take n).map (cntI cn)).sum := by
  intro n
  induction n with
  | zero => intro _; simp [elsTo, occS]
  | succ n ih =>
    intro hn
    have hx : is[n]? = some is[n] := List.getElem?_eq_getElem (by omega)
    obtain ⟨h1, h2, h3⟩ := hv _ (List.getElem_mem (by omega : n < is.length))
    rw [elsTo_succ hx, occS_app, ih (by omega), occS_ins, List.take_add_one, hx, Option.toList_some, List.map_append, List.sum_append]
    simp only [List.map_cons, List.map_nil, List.sum_cons, List.sum_nil]
    unfold cntI
    rw [h3, show ((is[n].rows.toNat : Nat) : Int) = is[n].rows by omega, show ((is[n].cols.toNat : Nat) : Int) = is[n].cols by omega, ← Int.mul_assoc, Int.mul_comm is[n].rows is[n].cols]
    omega
theorem cntC_succ {cn : List Int} {c : CellD} {k : Nat} {i : InstD} (h : c.insts[k]? = some i) : cntC cn c (k + 1) = cntC cn c k + cntI cn i := by
  unfold cntC
  rw [List.take_add_one, h, Option.toList_some, List.map_append, List.sum_append]
  simp only [List.map_cons, List.map_nil, List.sum_cons, List.sum_nil]
  omega
theorem cntC_zero (cn : List Int) (c : CellD) : cntC cn c 0 = 1 := by simp [cntC]
theorem cntTo_succ {cs : List CellD} {n : Nat} {c : CellD} (h : cs[n]? = some c) : cntTo cs (n + 1) = cntTo cs n ++ [cntC (cntTo cs n) c c.insts.length] := by
  rw [cntTo, h]
theorem cntTo_len {cs : List CellD} : ∀ n, n ≤ cs.length → (cntTo cs n).length = n := by
  intro n
  induction n with
  | zero => intro _; rfl
  | succ n ih =>
    intro hn
    rw [cntTo_succ (List.getElem?_eq_getElem (show n < cs.length by omega)), List.length_append, ih (by omega)]
    rfl
theorem cntTo_get {cs : List CellD} (hl : libB cs = true) : ∀ n, n ≤ cs.length → ∀ k, k < n → (cntTo cs n)[k]? = some (nOcc cs k) := by
  intro n
  induction n with
  | zero => intro _ k h; omega
  | succ n ih =>
    intro hn k hk
    have hc := List.getElem?_eq_getElem (show n < cs.length by omega)
    have hlen := cntTo_len (cs := cs) n (by omega)
    rw [cntTo_succ hc]
    by_cases h : k < n
    · rw [List.getElem?_append_left (by omega)]
      exact ih (by omega) k h
    · obtain rfl : k = n := by omega
      rw [List.getElem?_append_right (by omega), hlen, Nat.sub_self]
      have h12 := ((lib_facts hl).2 k _ hc).2.2.2
      have h1 := occS_els cs (cs[k]'(by omega)).insts (cntTo cs k) (fun i hi => by
        have hf := inst_facts (h12 i hi)
        refine ⟨hf.2.2.1.1, hf.2.2.2.1.1, ?_⟩
        rw [List.getD_eq_getElem?_getD, ih (by omega) i.cell.toNat (by omega)]
        rfl) _ (Nat.le_refl _)
      rw [nOcc_eq hl hc]
      unfold elsOf cntC
      rw [h1]
      simp
theorem occS_le {cs : List CellD} {es : List (Int × Tf)} {b : Int} (hb : ∀ e, e ∈ es → nOcc cs e.1.toNat ≤ b) : occS cs es ≤ es.length * b := by
  induction es with
  | nil => simp [occS]
  | cons e es ih =>
    have h1 := hb e (List.mem_cons_self ..)
    have h2 := ih fun x hx => hb x (List.mem_cons_of_mem _ hx)
    have e1 : occS cs (e :: es) = nOcc cs e.1.toNat + occS cs es := by unfold occS; rw [List.map_cons, List.sum_cons]
    rw [e1, List.length_cons, Int.natCast_add, Int.add_mul]
    omega
theorem nOcc_le {cs : List CellD} (hl : libB cs = true) : ∀ n k, k < n → k < cs.length → nOcc cs k ≤ (129 : Int) ^ n := by
  intro n
  induction n with
  | zero => intro k h; omega
  | succ n ih =>
    intro k hk hkl
    have hc := List.getElem?_eq_getElem hkl
    obtain ⟨h9, h10, h11, h12⟩ := (lib_facts hl).2 k _ hc
    rw [nOcc_eq hl hc]
    have hlen := elsOf_len h12 h10
    have hp : (1 : Int) ≤ (129 : Int) ^ n := by have : (0 : Int) < (129 : Int) ^ n := Int.pow_pos (by omega); omega
    have h2 := occS_le (cs := cs) (es := elsOf (cs[k]'hkl)) (b := (129 : Int) ^ n) (fun e he => by
      obtain ⟨⟨e1, e2⟩, -⟩ := mem_els h12 he
      exact ih e.1.toNat (by omega) (by omega))
    have h3 : ((elsOf (cs[k]'hkl)).length : Int) * (129 : Int) ^ n ≤ 128 * (129 : Int) ^ n := Int.mul_le_mul_of_nonneg_right (by omega) (by omega)
    rw [Int.pow_succ]
    omega
/-- A count fits. -/
theorem nOcc_fit {cs : List CellD} (hl : libB cs = true) {k : Nat} (hk : k < cs.length) : 1 ≤ nOcc cs k ∧ nOcc cs k ≤ 100000000000000000 := by
  have h := nOcc_le hl 8 k (by have := (lib_facts hl).1; omega) hk
  have e : (129 : Int) ^ 8 ≤ 100000000000000000 := by decide
  exact ⟨nOcc_pos cs k, by omega⟩
/-- What the counting walks want of cell n, when its first j instances are counted. -/
theorem cnt_step {cs : List CellD} (hl : libB cs = true) {n : Nat} {c : CellD} (hc : cs[n]? = some c) {j : Nat} {i : InstD} (hi : c.insts[j]? = some i) : ∃ (kc : Nat) (x : Int), i.cell = (kc : Int) ∧ kc < n ∧ (cntTo cs n)[kc]? = some x ∧ (1 ≤ x ∧ x ≤ 100000000000000000) ∧ (1 ≤ i.cols ∧ i.cols ≤ 4) ∧ (1 ≤ i.rows ∧ i.rows ≤ 4) ∧
    (1 ≤ i.cols * i.rows ∧ i.cols * i.rows ≤ 16) ∧ (1 ≤ i.cols * i.rows * x ∧ i.cols * i.rows * x ≤ 1600000000000000000) ∧ cntC (cntTo cs n) c (j + 1) = cntC (cntTo cs n) c j + i.cols * i.rows * x := by
  have hn := (List.getElem?_eq_some_iff.1 hc).1
  have h12 := ((lib_facts hl).2 n _ hc).2.2.2
  have hf := inst_facts (h12 i (List.mem_of_getElem? hi))
  have hx := cntTo_get hl n (by omega) i.cell.toNat (by omega)
  have hfit := nOcc_fit hl (k := i.cell.toNat) (by omega)
  have m1 : 1 * 1 ≤ i.cols * i.rows := Int.mul_le_mul (by omega) (by omega) (by omega) (by omega)
  have m2 : i.cols * i.rows ≤ 4 * 4 := Int.mul_le_mul (by omega) (by omega) (by omega) (by omega)
  have m3 : 1 * 1 ≤ i.cols * i.rows * nOcc cs i.cell.toNat := Int.mul_le_mul (by omega) (by omega) (by omega) (by omega)
  have m4 : i.cols * i.rows * nOcc cs i.cell.toNat ≤ 16 * 100000000000000000 := Int.mul_le_mul (by omega) (by omega) (by omega) (by omega)
  refine ⟨i.cell.toNat, nOcc cs i.cell.toNat, by omega, by omega, hx, hfit, hf.2.2.1, hf.2.2.2.1, ⟨by omega, by omega⟩, ⟨by omega, by omega⟩, ?_⟩
  rw [cntC_succ hi]
  unfold cntI
  rw [List.getD_eq_getElem?_getD, hx]
  rfl
theorem cntC_fit {cs : List CellD} (hl : libB cs = true) {n : Nat} {c : CellD} (hc : cs[n]? = some c) : ∀ j, j ≤ c.insts.length → 1 ≤ cntC (cntTo cs n) c j ∧ cntC (cntTo cs n) c j ≤ 100000000000000000 := by
  have hn := (List.getElem?_eq_some_iff.1 hc).1
  have hlast : cntC (cntTo cs n) c c.insts.length = nOcc cs n := by
    have h := cntTo_get hl (n + 1) (by omega) n (by omega)
    have hlen := cntTo_len (cs := cs) n (by omega)
    rw [cntTo_succ hc, List.getElem?_append_right (by omega), hlen, Nat.sub_self] at h
    simpa using h
  have mono : ∀ d j, j + d = c.insts.length → cntC (cntTo cs n) c j ≤ nOcc cs n := by
    intro d
    induction d with
    | zero => intro j h; rw [← hlast, show j = c.insts.length by omega]; exact Int.le_refl _
    | succ d ih =>
      intro j h
      have hi := List.getElem?_eq_getElem (show j < c.insts.length by omega)
      obtain ⟨kc, x, -, -, -, -, -, -, -, h8, h9⟩ := cnt_step hl hc hi
      have := ih (j + 1) (by omega)
      omega
  have low : ∀ j, j ≤ c.insts.length → 1 ≤ cntC (cntTo cs n) c j := by
    intro j
    induction j with
    | zero => intro _; rw [cntC_zero]; omega
    | succ j ih =>
      intro h
      have hi := List.getElem?_eq_getElem (show j < c.insts.length by omega)
      obtain ⟨kc, x, -, -, -, -, -, -, -, h8, h9⟩ := cnt_step hl hc hi
      have := ih (by omega)
      omega
  intro j hj
  have h1 := mono (c.insts.length - j) j (by omega)
  have h2 := nOcc_fit hl hn
  exact ⟨low j hj, by omega⟩

/-! What the chosen shapes give together. -/
theorem layG_iff (l : List ShapeD) (k : Int) (q : Nat) : layG l k q = true ↔ ∃ s ∈ l, s.layer = k ∧ inR s.box q = true := by
  unfold layG cellsG
  rw [List.any_eq_true]
  constructor
  · rintro ⟨r, hr, h⟩
    obtain ⟨s, hs, rfl⟩ := List.mem_map.1 hr
    rw [List.mem_filter] at hs
    exact ⟨s, hs.1, of_decide_eq_true hs.2, h⟩
  · rintro ⟨s, hs, hk, h⟩
    exact ⟨s.box, List.mem_map.2 ⟨s, List.mem_filter.2 ⟨hs, decide_eq_true hk⟩, rfl⟩, h⟩
theorem mem_pick {p : Int → Bool} {xs : List (Int × ShapeD)} {s : ShapeD} : s ∈ pick p xs ↔ ∃ x ∈ xs, p x.1 = true ∧ x.2 = s := by
  unfold pick
  rw [List.mem_map]
  constructor
  · rintro ⟨x, hx, rfl⟩
    rw [List.mem_filter] at hx
    exact ⟨x, hx.1, hx.2, rfl⟩
  · rintro ⟨x, hx, hp, rfl⟩
    exact ⟨x, List.mem_filter.2 ⟨hx, hp⟩, rfl⟩
/-- The rest and the first n elements, cell by cell. -/
def mixG (xs : List (Int × ShapeD)) (m : Nat) (k : Int) (n : Nat) : Gr := fun q => layG (pick (fun r => decide ¬(0 ≤ r ∧ r < (m : Int))) xs) k q || (List.range n).any fun e => layG (pick (fun r => decide (r = (e : Int))) xs) k q
theorem mixG_zero (xs : List (Int × ShapeD)) (m : Nat) (k : Int) : mixG xs m k 0 = layG (pick (fun r => decide ¬(0 ≤ r ∧ r < (m : Int))) xs) k := by
  funext q
  simp [mixG]
theorem mixG_succ (xs : List (Int × ShapeD)) (m : Nat) (k : Int) (n : Nat) : mixG xs m k (n + 1) = fun q => mixG xs m k n q || layG (pick (fun r => decide (r = (n : Int))) xs) k q := by
  funext q
  simp [mixG, List.range_succ, Bool.or_assoc]
theorem mixG_all (xs : List (Int × ShapeD)) (m : Nat) (k : Int) : mixG xs m k m = layG (xs.map Prod.snd) k := by
  funext q
  rw [Bool.eq_iff_iff]
  unfold mixG
  rw [Bool.or_eq_true, layG_iff, layG_iff, List.any_eq_true]
  constructor
  · rintro (⟨s, hs, h⟩ | ⟨e, -, h⟩)
    · obtain ⟨x, hx, -, rfl⟩ := mem_pick.1 hs
      exact ⟨x.2, List.mem_map_of_mem hx, h⟩
    · obtain ⟨s, hs, h⟩ := (layG_iff _ _ _).1 h
      obtain ⟨x, hx, -, rfl⟩ := mem_pick.1 hs
      exact ⟨x.2, List.mem_map_of_mem hx, h⟩
  · rintro ⟨s, hs, h⟩
    obtain ⟨x, hx, rfl⟩ := List.mem_map.1 hs
    by_cases h0 : 0 ≤ x.1 ∧ x.1 < (m : Int)
    · refine .inr ⟨x.1.toNat, List.mem_range.2 (by omega), (layG_iff _ _ _).2 ⟨x.2, mem_pick.2 ⟨x, hx, decide_eq_true (by omega), rfl⟩, h⟩⟩
    · exact .inl ⟨x.2, mem_pick.2 ⟨x, hx, decide_eq_true h0, rfl⟩, h⟩

end Go.Proofs.YtgegbgkokkdmpaaGreat
