/- Contracts: l06PairLess, l06PutPair. Condition: a list of pairs of edges in memory. -/
import Derived.Test.YtjiljodchebniaaGreatQ16
import Derived.Test.YtjiljodchebniaaGreatQ18
import Derived.Deep.RegionHeld3
import Derived.Laws.AppendOwnNone
import Derived.Deep.QuietTactic
import Derived.BigQuiet

namespace Go.Proofs.YtjiljodchebniaaGreat
open Go.RowKit

theorem flatPE_take (rs : List EP) (m : Nat) : (flatPE rs).take (m * 9) = flatPE (rs.take m) := by
  induction rs generalizing m with
  | nil => simp [flatPE]
  | cons r rs ih =>
    cases m with
    | zero => simp [flatPE]
    | succ m =>
      have e : ∀ l, flatPE (r :: l) = r.vals ++ flatPE l := fun l => rfl
      have e9 : r.vals.length = 9 := rfl
      rw [List.take_succ_cons, e, e, show (m + 1) * 9 = r.vals.length + m * 9 by rw [e9]; omega, List.take_length_add_append, ih m]
theorem flatPE_drop (rs : List EP) (m : Nat) : (flatPE rs).drop (m * 9) = flatPE (rs.drop m) := by
  induction rs generalizing m with
  | nil => simp [flatPE]
  | cons r rs ih =>
    cases m with
    | zero => simp
    | succ m =>
      have e : ∀ l, flatPE (r :: l) = r.vals ++ flatPE l := fun l => rfl
      have e9 : r.vals.length = 9 := rfl
      rw [List.drop_succ_cons, e, show (m + 1) * 9 = r.vals.length + m * 9 by rw [e9]; omega, List.drop_length_add_append, ih m]
/-- The first m pairs of a list. -/
theorem PEL.cut {w : World} {B g n c : Nat} {rs : List EP} (h : PEL w B (.slice (some ⟨g, 0, none⟩) n c) rs) (m : Nat) (hm : m ≤ rs.length) : PEL w B (.slice (some ⟨g, 0, none⟩) m c) (rs.take m) := by
  rcases h.2 with ⟨h', _⟩ | ⟨g', cap, cur, h', hb, hg, hnc, hcm, hcs, htk⟩
  · cases h'
  · simp only [Value.slice.injEq, Option.some.injEq, Addr.mk.injEq, and_true] at h'
    obtain ⟨rfl, rfl, rfl⟩ := h'
    refine ⟨by rw [flatPE_length, List.length_take], .inr ⟨_, _, cur, by rw [List.length_take, Nat.min_eq_left hm], hb, hg, by rw [List.length_take]; omega, hcm, hcs, ?_⟩⟩
    rw [List.length_take, Nat.min_eq_left hm, ← flatPE_take, ← htk, List.take_take]
    congr 1
    omega
/-- 'append(a, b...)', a a list of the call's own. -/
theorem wpList_append_PP {w : World} {ops : Array Oper} {rest : List Oper} {o : Oper} {a : Act} {Q : Exit → Act → World → Prop} (hgd : o.guard = none) (s x : Operand)
    (ho : o.op = .call { callee := .builtin .append, args := #[s, x], argTypes := #[39, 39] })
    (B B' : Nat) (v u : Value) (rs qs : List EP) (hs : a.eval s = v) (hown : PEL w B v rs) (hx : a.eval x = u) (hu : PEL w B' u qs)
    (hlen : rs.length + qs.length ≤ 1000000) (hB : B ≤ w.heap.size)
    (h : ∀ v' w', PEL w' B v' (rs ++ qs) → Below B w w' → wpList Tryz.prog ops Q rest (a.put o.dst v') w') :
    wpList Tryz.prog ops Q (o :: rest) a w := by
  obtain ⟨i, hi, hz, hsz, hby⟩ := info_parts infoEP
  have hu0 := hu
  unfold PEL at hu
  rcases hu.2 with ⟨hv, hn⟩ | ⟨g, cap, cur, hv, hg, hh, hnc, hcm, hcs, htake⟩
  · have hq : qs = [] := List.length_eq_zero_iff.1 hn
    subst hq
    refine wpList_append_own_none hgd s x 39 ho B 50 i 9 Tryz.underlying39 hi v rs.length (flatPE rs) hs hown (hx.trans hv) ?_
    exact h v w (by rw [List.append_nil]; exact hown) (Below.refl _ _)
  · refine wpList_append_own _ hgd s x 39 ho B 50 i _ 9 72 Tryz.underlying39 hi hz hsz hby rfl (by decide) v rs.length (flatPE rs) hs hown ⟨g, 0, none⟩ qs.length cap
      (flatPE qs) (hx.trans hv) (flatPE_length qs) ?_ ?_ (by simp only [maxLen]; omega) (by omega) hB ?_
    · intro j y hy
      rw [Addr.add_lit, Nat.zero_add, cell_of_row w g j cur _ (0, 0) hh]
      rw [← htake, List.getElem?_take] at hy
      split at hy
      · simpa using hy
      · cases hy
    · intro y hy
      simp only [flatPE, List.mem_flatMap, EP.vals] at hy
      obtain ⟨r, _, hy⟩ := hy
      simp at hy
      rcases hy with rfl | rfl | rfl | rfl | rfl | rfl | rfl | rfl | rfl <;> rfl
    · intro v' w' h1 h2 _
      refine h v' w' ?_ (below_own hown h2 hB)
      unfold PEL
      rw [flatPE_append, List.length_append]
      exact h1

/-- 'append(a, b[i:]...)'. -/
theorem wpList_append_PT {w : World} {ops : Array Oper} {rest : List Oper} {o : Oper} {a : Act} {Q : Exit → Act → World → Prop} (hgd : o.guard = none) (s x : Operand)
    (ho : o.op = .call { callee := .builtin .append, args := #[s, x], argTypes := #[39, 39] })
    (B B' : Nat) (v : Value) (g n c off m c' : Nat) (rs qs : List EP) (i : Nat) (hs : a.eval s = v) (hown : PEL w B v rs) (hx : a.eval x = .slice (some ⟨g, off, none⟩) m c') (hu : PEL w B' (.slice (some ⟨g, 0, none⟩) n c) qs) (hi : i ≤ qs.length) (hm : m = qs.length - i) (hoff : i < qs.length → off = i * 9)
    (hlen : rs.length + qs.length ≤ 1000000) (hB : B ≤ w.heap.size)
    (h : ∀ v' w', PEL w' B v' (rs ++ qs.drop i) → Below B w w' → wpList Tryz.prog ops Q rest (a.put o.dst v') w') :
    wpList Tryz.prog ops Q (o :: rest) a w := by
  obtain ⟨i0, hi0, hz, hsz, hby⟩ := info_parts infoEP
  obtain ⟨_, _, en, -, -, -⟩ := hu.form
  simp only [Value.slice.injEq] at en
  obtain ⟨-, rfl, -⟩ := en
  subst hm
  refine wpList_append_own _ hgd s x 39 ho B 50 i0 _ 9 72 Tryz.underlying39 hi0 hz hsz hby rfl (by decide) v rs.length (flatPE rs) hs hown ⟨g, off, none⟩ (qs.length - i) c'
    (flatPE (qs.drop i)) hx (by rw [flatPE_length, List.length_drop]) ?_ ?_ (by simp only [maxLen]; omega) (by omega) hB ?_
  · intro j y hy
    have hj := (List.getElem?_eq_some_iff.1 hy).1
    rw [flatPE_length, List.length_drop] at hj
    rw [Addr.add_lit, hoff (by omega)]
    rw [← flatPE_drop, List.getElem?_drop] at hy
    rw [World.ownsRow.cellAt hu (i * 9 + j) (by omega)]
    exact hy
  · intro y hy
    simp only [flatPE, List.mem_flatMap, EP.vals] at hy
    obtain ⟨r, _, hy⟩ := hy
    simp at hy
    rcases hy with rfl | rfl | rfl | rfl | rfl | rfl | rfl | rfl | rfl <;> rfl
  · intro v' w' h1 h2 _
    refine h v' w' ?_ (below_own hown h2 hB)
    unfold PEL
    rw [flatPE_append, List.length_append, List.length_drop]
    exact h1

set_option maxHeartbeats 1600000 in
set_option maxRecDepth 100000 in
/-- l06PairLess. -/
theorem pairLess_any (x0 x1 x2 x3 x4 x5 x6 x7 xd u0 u1 u2 u3 u4 u5 u6 u7 ud : Int) (w : World) : Calls Tryz.prog 104 #[.agg #[.int .i64 x0, .int .i64 x1, .int .i64 x2, .int .i64 x3, .int .i64 x4, .int .i64 x5, .int .i64 x6, .int .i64 x7, .int .i64 xd], .agg #[.int .i64 u0, .int .i64 u1, .int .i64 u2, .int .i64 u3, .int .i64 u4, .int .i64 u5, .int .i64 u6, .int .i64 u7, .int .i64 ud]] w fun e w' => e = .returned (.bool (epLt ⟨⟨x0, x1, x2, x3⟩, ⟨x4, x5, x6, x7⟩⟩ ⟨⟨u0, u1, u2, u3⟩, ⟨u4, u5, u6, u7⟩⟩)) ∧ Below w.heap.size w w' := by
  have z0 := (Bk.new w 50 #[.int .i64 x0, .int .i64 x1, .int .i64 x2, .int .i64 x3, .int .i64 x4, .int .i64 x5, .int .i64 x6, .int .i64 x7, .int .i64 xd]).alloc (.cells #[.int .i64 u0, .int .i64 u1, .int .i64 u2, .int .i64 u3, .int .i64 u4, .int .i64 u5, .int .i64 u6, .int .i64 u7, .int .i64 ud] 50)
  have z1 := Bk.new (w.alloc (.cells #[.int .i64 x0, .int .i64 x1, .int .i64 x2, .int .i64 x3, .int .i64 x4, .int .i64 x5, .int .i64 x6, .int .i64 x7, .int .i64 xd] 50)) 50 #[.int .i64 u0, .int .i64 u1, .int .i64 u2, .int .i64 u3, .int .i64 u4, .int .i64 u5, .int .i64 u6, .int .i64 u7, .int .i64 ud]
  have ez : (w.alloc (.cells #[.int .i64 x0, .int .i64 x1, .int .i64 x2, .int .i64 x3, .int .i64 x4, .int .i64 x5, .int .i64 x6, .int .i64 x7, .int .i64 xd] 50)).heap.size = w.heap.size + 1 := by simp
  rw [ez] at z1
  have bb : Below w.heap.size w ((w.alloc (.cells #[.int .i64 x0, .int .i64 x1, .int .i64 x2, .int .i64 x3, .int .i64 x4, .int .i64 x5, .int .i64 x6, .int .i64 x7, .int .i64 xd] 50)).alloc (.cells #[.int .i64 u0, .int .i64 u1, .int .i64 u2, .int .i64 u3, .int .i64 u4, .int .i64 u5, .int .i64 u6, .int .i64 u7, .int .i64 ud] 50)) := ((Below.refl _ _).alloc (Nat.le_refl _) _).alloc (by simp) _
  clear ez
  obtain ⟨p0, p1, p2, p3, p4, p5, p6, p7, p8⟩ := box9 z0
  obtain ⟨q0, q1, q2, q3, q4, q5, q6, q7, q8⟩ := box9 z1
  clear z0 z1
  unfold epLt
  dsimp only
  go_enter Tryz.func104, Tryz.ntmps104
  cases hq : eqEd ⟨x0, x1, x2, x3⟩ ⟨u0, u1, u2, u3⟩ with
  | false =>
    rw [if_neg ((eqEd_no _ _).1 hq)]
    go_wp2_with (go_at_call 136; (with_reducible refine (less_four x0 x1 x2 x3 u0 u1 u2 u3 _).mono ?_); rintro e w1 ⟨rfl, hb1⟩)
    go_ret
    exact ⟨rfl, bb.trans (hb1.mono bb.size)⟩
  | true =>
    rw [if_pos ((eqEd_iff _ _).1 hq)]
    go_wp2_with (go_at_call 136; (with_reducible refine (less_four x4 x5 x6 x7 u4 u5 u6 u7 _).mono ?_); rintro e w1 ⟨rfl, hb1⟩)
    go_ret
    exact ⟨rfl, bb.trans (hb1.mono bb.size)⟩

set_option maxHeartbeats 3200000 in
set_option maxRecDepth 100000 in
/-- l06PutPair. -/
theorem put_P (g n c : Nat) (rs : List EP) (x0 x1 x2 x3 x4 x5 x6 x7 xd : Int) (hxd : EP.d ⟨⟨x0, x1, x2, x3⟩, ⟨x4, x5, x6, x7⟩⟩ = xd) (B : Nat) (w : World) (hv : PEL w B (.slice (some ⟨g, 0, none⟩) n c) rs) (hB : B ≤ w.heap.size) (hl : rs.length ≤ 100000) :
    Calls Tryz.prog 75 #[.slice (some ⟨g, 0, none⟩) n c, .agg #[.int .i64 x0, .int .i64 x1, .int .i64 x2, .int .i64 x3, .int .i64 x4, .int .i64 x5, .int .i64 x6, .int .i64 x7, .int .i64 xd]] w fun e' w' => ∃ g' n' c', e' = .returned (.slice (some ⟨g', 0, none⟩) n' c') ∧ PEL w' B (.slice (some ⟨g', 0, none⟩) n' c') (putP rs ⟨⟨x0, x1, x2, x3⟩, ⟨x4, x5, x6, x7⟩⟩) ∧ Below w.heap.size w w' := by
  have HXD := Lib.hid hxd
  clear hxd
  obtain ⟨_, _, en, hnc, hmx, -⟩ := hv.form
  simp only [Value.slice.injEq] at en
  obtain ⟨-, rfl, rfl⟩ := en
  unfold maxLen at hmx
  have b0 := (Below.refl w.heap.size w).alloc (Nat.le_refl _) (.cells #[.int .i64 x0, .int .i64 x1, .int .i64 x2, .int .i64 x3, .int .i64 x4, .int .i64 x5, .int .i64 x6, .int .i64 x7, .int .i64 xd] 50)
  have z0 := Bk.new w 50 #[.int .i64 x0, .int .i64 x1, .int .i64 x2, .int .i64 x3, .int .i64 x4, .int .i64 x5, .int .i64 x6, .int .i64 x7, .int .i64 xd]
  have s0 : (w.alloc (.cells #[.int .i64 x0, .int .i64 x1, .int .i64 x2, .int .i64 x3, .int .i64 x4, .int .i64 x5, .int .i64 x6, .int .i64 x7, .int .i64 xd] 50)).heap.size = w.heap.size + 1 := by simp
  have HZ := Lib.hid (show ∀ W, Below (w.heap.size + 1) (w.alloc (.cells #[.int .i64 x0, .int .i64 x1, .int .i64 x2, .int .i64 x3, .int .i64 x4, .int .i64 x5, .int .i64 x6, .int .i64 x7, .int .i64 xd] 50)) W → Bk W w.heap.size 50 #[.int .i64 x0, .int .i64 x1, .int .i64 x2, .int .i64 x3, .int .i64 x4, .int .i64 x5, .int .i64 x6, .int .i64 x7, .int .i64 xd] ∧ PEL W B (.slice (some ⟨g, 0, none⟩) rs.length c) rs from fun W hW => ⟨z0.below hW (Nat.lt_succ_self _), (hv.on b0).on (by rw [s0]; exact hW)⟩)
  have B0 := Lib.hid b0
  clear hv z0 b0
  go_enter Tryz.func75, Tryz.ntmps75
  go_wp2
  generalize hW0 : w.alloc (.cells #[.int .i64 x0, .int .i64 x1, .int .i64 x2, .int .i64 x3, .int .i64 x4, .int .i64 x5, .int .i64 x6, .int .i64 x7, .int .i64 xd] 50) = W0 at *
  go_loopw [5] (fun iv wr => ∃ i : Nat, i ≤ rs.length ∧ iv = .int .i64 i ∧ Hid (∀ j a, j < i → rs[j]? = some a → epLt a ⟨⟨x0, x1, x2, x3⟩, ⟨x4, x5, x6, x7⟩⟩ = true) ∧ Below (w.heap.size + 1) W0 wr) (fun iv _ => rs.length - (intOf iv).toNat)
  case atStart => exact ⟨0, by omega, rfl, Lib.hid (fun j a h => by omega), Below.refl _ _⟩
  case round =>
    obtain ⟨i, hi, rfl, HI, hb⟩ := hrel
    obtain ⟨hbx, hrw⟩ := HZ.out _ hb
    have hszr : w.heap.size + 1 ≤ wr.heap.size := by have := hb.size; omega
    by_cases hlt : i < rs.length
    · obtain ⟨g0, r, hA, hr, hB0, hgl, c0, c1, c2, c3, c4, c5, c6, c7, c8⟩ := hrw.elem hlt
      obtain ⟨⟨u0, u1, u2, u3⟩, ⟨u4, u5, u6, u7⟩⟩ := r
      dsimp only at c0 c1 c2 c3 c4 c5 c6 c7 c8
      obtain ⟨ud, hud⟩ : ∃ z, EP.d ⟨⟨u0, u1, u2, u3⟩, ⟨u4, u5, u6, u7⟩⟩ = z := ⟨_, rfl⟩
      rw [hud] at c8
      have HUD := Lib.hid hud
      clear hud
      simp only [Option.some.injEq, Addr.mk.injEq, and_true] at hA
      subst hA
      obtain ⟨d0, d1, d2, d3, d4, d5, d6, d7, d8⟩ := box9 hbx
      have Hr := Lib.hid hr
      have HC := Lib.hid (show ∀ W, Below wr.heap.size wr W → (W.cell? ⟨g, i * 9, none⟩ = some (.int .i64 u0) ∧ W.cell? ⟨g, i * 9 + 1, none⟩ = some (.int .i64 u1) ∧ W.cell? ⟨g, i * 9 + 2, none⟩ = some (.int .i64 u2) ∧ W.cell? ⟨g, i * 9 + 3, none⟩ = some (.int .i64 u3) ∧ W.cell? ⟨g, i * 9 + 4, none⟩ = some (.int .i64 u4) ∧ W.cell? ⟨g, i * 9 + 5, none⟩ = some (.int .i64 u5) ∧ W.cell? ⟨g, i * 9 + 6, none⟩ = some (.int .i64 u6) ∧ W.cell? ⟨g, i * 9 + 7, none⟩ = some (.int .i64 u7) ∧ W.cell? ⟨g, i * 9 + 8, none⟩ = some (.int .i64 ud)) ∧ W.cell? ⟨w.heap.size, 0, none⟩ = some (.int .i64 x0) ∧ W.cell? ⟨w.heap.size, 1, none⟩ = some (.int .i64 x1) ∧ W.cell? ⟨w.heap.size, 2, none⟩ = some (.int .i64 x2) ∧ W.cell? ⟨w.heap.size, 3, none⟩ = some (.int .i64 x3) ∧ W.cell? ⟨w.heap.size, 4, none⟩ = some (.int .i64 x4) ∧ W.cell? ⟨w.heap.size, 5, none⟩ = some (.int .i64 x5) ∧ W.cell? ⟨w.heap.size, 6, none⟩ = some (.int .i64 x6) ∧ W.cell? ⟨w.heap.size, 7, none⟩ = some (.int .i64 x7) ∧ W.cell? ⟨w.heap.size, 8, none⟩ = some (.int .i64 xd) from fun W hW => ⟨⟨(hW.cell (p := ⟨g, _, none⟩) hgl).trans c0, (hW.cell (p := ⟨g, _, none⟩) hgl).trans c1, (hW.cell (p := ⟨g, _, none⟩) hgl).trans c2, (hW.cell (p := ⟨g, _, none⟩) hgl).trans c3, (hW.cell (p := ⟨g, _, none⟩) hgl).trans c4, (hW.cell (p := ⟨g, _, none⟩) hgl).trans c5, (hW.cell (p := ⟨g, _, none⟩) hgl).trans c6, (hW.cell (p := ⟨g, _, none⟩) hgl).trans c7, (hW.cell (p := ⟨g, _, none⟩) hgl).trans c8⟩, box9 (hbx.on hW)⟩)
      have tc := Lib.hid (Below.refl wr.heap.size wr).drew
      clear hr hrw hbx
      cases hle : epLt ⟨⟨u0, u1, u2, u3⟩, ⟨u4, u5, u6, u7⟩⟩ ⟨⟨x0, x1, x2, x3⟩, ⟨x4, x5, x6, x7⟩⟩ with
      | true =>
        have HL := Lib.hid hle
        clear hle c0 c1 c2 c3 c4 c5 c6 c7 c8 d0 d1 d2 d3 d4 d5 d6 d7 d8
        go_wp2
        go_region_held3 (fun W => (W.cell? ⟨g, i * 9, none⟩ = some (.int .i64 u0) ∧ W.cell? ⟨g, i * 9 + 1, none⟩ = some (.int .i64 u1) ∧ W.cell? ⟨g, i * 9 + 2, none⟩ = some (.int .i64 u2) ∧ W.cell? ⟨g, i * 9 + 3, none⟩ = some (.int .i64 u3) ∧ W.cell? ⟨g, i * 9 + 4, none⟩ = some (.int .i64 u4) ∧ W.cell? ⟨g, i * 9 + 5, none⟩ = some (.int .i64 u5) ∧ W.cell? ⟨g, i * 9 + 6, none⟩ = some (.int .i64 u6) ∧ W.cell? ⟨g, i * 9 + 7, none⟩ = some (.int .i64 u7) ∧ W.cell? ⟨g, i * 9 + 8, none⟩ = some (.int .i64 ud)) ∧ W.cell? ⟨w.heap.size, 0, none⟩ = some (.int .i64 x0) ∧ W.cell? ⟨w.heap.size, 1, none⟩ = some (.int .i64 x1) ∧ W.cell? ⟨w.heap.size, 2, none⟩ = some (.int .i64 x2) ∧ W.cell? ⟨w.heap.size, 3, none⟩ = some (.int .i64 x3) ∧ W.cell? ⟨w.heap.size, 4, none⟩ = some (.int .i64 x4) ∧ W.cell? ⟨w.heap.size, 5, none⟩ = some (.int .i64 x5) ∧ W.cell? ⟨w.heap.size, 6, none⟩ = some (.int .i64 x6) ∧ W.cell? ⟨w.heap.size, 7, none⟩ = some (.int .i64 x7) ∧ W.cell? ⟨w.heap.size, 8, none⟩ = some (.int .i64 xd))
          (first | with_reducible exact HC.out _ tc.out | with_reducible exact HC.out _ ty.out)
          (first | (go_at_call 104; (with_reducible refine (pairLess_any u0 u1 u2 u3 u4 u5 u6 u7 ud x0 x1 x2 x3 x4 x5 x6 x7 xd _).mono ?_); rintro e w1 ⟨he, hb1⟩; rw [HL.out] at he; subst he; have ty := Lib.hid (tc.out.trans (hb1.mono tc.out.size))))
        all_goals
          go_wp2
          exact ⟨⟨i + 1, by omega, by go_num, Lib.hid (fun j a hj ha => by
            by_cases hji : j = i
            · subst hji
              rw [Hr.out] at ha
              rw [← Option.some.inj ha]
              exact HL.out
            · exact HI.out j a (by omega) ha), hb.trans (ty.out.mono hszr)⟩, by simp [intOf]; omega⟩
      | false =>
        have HL := Lib.hid hle
        clear hle c0 c1 c2 c3 c4 c5 c6 c7 c8 d0 d1 d2 d3 d4 d5 d6 d7 d8
        go_wp2
        go_region_held3 (fun W => (W.cell? ⟨g, i * 9, none⟩ = some (.int .i64 u0) ∧ W.cell? ⟨g, i * 9 + 1, none⟩ = some (.int .i64 u1) ∧ W.cell? ⟨g, i * 9 + 2, none⟩ = some (.int .i64 u2) ∧ W.cell? ⟨g, i * 9 + 3, none⟩ = some (.int .i64 u3) ∧ W.cell? ⟨g, i * 9 + 4, none⟩ = some (.int .i64 u4) ∧ W.cell? ⟨g, i * 9 + 5, none⟩ = some (.int .i64 u5) ∧ W.cell? ⟨g, i * 9 + 6, none⟩ = some (.int .i64 u6) ∧ W.cell? ⟨g, i * 9 + 7, none⟩ = some (.int .i64 u7) ∧ W.cell? ⟨g, i * 9 + 8, none⟩ = some (.int .i64 ud)) ∧ W.cell? ⟨w.heap.size, 0, none⟩ = some (.int .i64 x0) ∧ W.cell? ⟨w.heap.size, 1, none⟩ = some (.int .i64 x1) ∧ W.cell? ⟨w.heap.size, 2, none⟩ = some (.int .i64 x2) ∧ W.cell? ⟨w.heap.size, 3, none⟩ = some (.int .i64 x3) ∧ W.cell? ⟨w.heap.size, 4, none⟩ = some (.int .i64 x4) ∧ W.cell? ⟨w.heap.size, 5, none⟩ = some (.int .i64 x5) ∧ W.cell? ⟨w.heap.size, 6, none⟩ = some (.int .i64 x6) ∧ W.cell? ⟨w.heap.size, 7, none⟩ = some (.int .i64 x7) ∧ W.cell? ⟨w.heap.size, 8, none⟩ = some (.int .i64 xd))
          (first | with_reducible exact HC.out _ tc.out | with_reducible exact HC.out _ ty.out)
          (first | (go_at_call 104; (with_reducible refine (pairLess_any u0 u1 u2 u3 u4 u5 u6 u7 ud x0 x1 x2 x3 x4 x5 x6 x7 xd _).mono ?_); rintro e w1 ⟨he, hb1⟩; rw [HL.out] at he; subst he; have ty := Lib.hid (tc.out.trans (hb1.mono tc.out.size))))
        all_goals
          go_wp2
          obtain ⟨⟨c0, c1, c2, c3, c4, c5, c6, c7, c8⟩, d0, d1, d2, d3, d4, d5, d6, d7, d8⟩ := HC.out _ ty.out
          have hb1 := hb.trans (ty.out.mono hszr)
          have Hlt := Lib.hid hlt
          cases hq9 : eq9 u0 u1 u2 u3 u4 u5 u6 u7 ud x0 x1 x2 x3 x4 x5 x6 x7 xd with
          | true =>
            have HQ := Lib.hid hq9
            go_quiet (fail)
            go_wp2
            go_ret
            refine ⟨g, _, c, rfl, ?_, B0.out.trans ((below_drewN hb1 nq).mono (Nat.le_succ _))⟩
            rw [putP_at hi HI.out (fun a ha => by rw [Hr.out] at ha; rw [← Option.some.inj ha]; exact HL.out), if_pos (by rw [Hr.out, (eq9_iff HUD.out HXD.out).1 HQ.out])]
            exact (HZ.out _ (below_drewN hb1 nq)).2
          | false =>
            go_quiet (fail)
            clear c0 c1 c2 c3 c4 c5 c6 c7 c8 d0 d1 d2 d3 d4 d5 d6 d7 d8
            have HBt := Lib.hid (below_drewN (hb1) nq)
            generalize w1.drewN nq = WT at *
            have hszt : w.heap.size + 1 ≤ WT.heap.size := by have := HBt.out.size; omega
            have HT := Lib.hid (show PEL (WT.alloc (.cells #[] 50)) WT.heap.size (.slice (some ⟨WT.heap.size, 0, none⟩) 0 0) [] from World.ownsRow_lit WT #[] 0 (Nat.le_refl _) (by simp [maxLen]) (by simp))
            have hia : i ≤ rs.length := by omega
            have HBa := Lib.hid ((Below.refl WT.heap.size WT).alloc (Nat.le_refl _) (.cells #[] 50))
            have HR9 := ((HZ.out _ HBt.out).2.on HBa.out).cut i hia
            obtain ⟨L1, hL1⟩ : ∃ L, rs.take i = L := ⟨_, rfl⟩
            obtain ⟨L2, hL2⟩ : ∃ L, L1 ++ [(⟨⟨x0, x1, x2, x3⟩, ⟨x4, x5, x6, x7⟩⟩ : EP)] = L := ⟨_, rfl⟩
            have hn1 : L1.length ≤ 100000 := by rw [← hL1, List.length_take]; omega
            have hn2 : L2.length ≤ 100001 := by rw [← hL2, List.length_append, List.length_singleton]; omega
            rw [hL1] at HR9
            have HR := Lib.hid HR9
            have HL1 := Lib.hid hL1
            have HL2 := Lib.hid hL2
            have hic : i ≤ c := by omega
            have hicz : ((i : Nat) : Int) ≤ (c : Int) := by omega
            have hicy : ((i : Nat) : Int) ≤ (rs.length : Int) := by omega
            have hlt1 : ([] : List EP).length + L1.length ≤ 1000000 := by rw [List.length_nil]; omega
            have hlt2 : L1.length ≤ 1000000 := by omega
            have hlt3 : L2.length + rs.length ≤ 1000000 := by omega
            have hB1 : WT.heap.size ≤ (WT.alloc (.cells #[] 50)).heap.size := by simp
            have hoff : i < rs.length → i * 9 = i * 9 := fun _ => rfl
            clear HR9 hL1 hL2
            go_wp2_with (first
              | (at_builtin; refine wpList_append_PP rfl (.tmp 34) (.tmp 37) rfl WT.heap.size B _ _ [] L1 rfl HT.out rfl HR.out hlt1 hB1 ?_; intro v1 w2 k1 k2; rw [List.nil_append] at k1; obtain ⟨A1, c1, rfl, -, -, -⟩ := k1.form; have K1 := Lib.hid k1; have Hb2 := Lib.hid (HBa.out.trans k2); obtain ⟨p0, p1, p2, p3, p4, p5, p6, p7, p8⟩ := box9 ((HZ.out _ HBt.out).1.on Hb2.out); have hs2 := Hb2.out.size; clear k1 k2)
              | (at_builtin; refine wpList_append_PE rfl (.tmp 39) (.tmp 41) rfl WT.heap.size _ L1 rfl K1.out x0 x1 x2 x3 x4 x5 x6 x7 xd HXD.out rfl hlt2 hs2 ?_; intro v2 w3 m1 m2 m3; rw [HL2.out] at m1; obtain ⟨A2, c2, rfl, -, -, -⟩ := m1.form; have M1 := Lib.hid m1; have Hb3 := Lib.hid (Hb2.out.trans m3); have HR3 := Lib.hid ((HZ.out _ HBt.out).2.on Hb3.out); have hs3 := Hb3.out.size; clear m1 m2 m3)
              | (at_builtin; refine wpList_append_PT rfl (.tmp 43) (.tmp 46) rfl WT.heap.size B _ g rs.length c _ _ _ L2 rs i rfl M1.out rfl HR3.out hia (by omega) hoff hlt3 hs3 ?_; intro v3 w4 n1 n2; have N1 := Lib.hid n1; have Hb4 := Lib.hid (Hb3.out.trans n2); clear n1 n2))
            obtain ⟨A3, c3, hv3, -, -, -⟩ := N1.out.form
            subst hv3
            obtain ⟨g3, _, hA3, -⟩ := N1.out.elem (k := 0) (by rw [List.length_append, ← HL2.out, List.length_append, List.length_singleton]; omega)
            subst hA3
            go_wp2_with fail
            go_ret
            refine ⟨g3, _, c3, rfl, ?_, B0.out.trans ((HBt.out.trans (Hb4.out.mono hszt)).mono (Nat.le_succ _))⟩
            rw [putP_at hi HI.out (fun a ha => by rw [Hr.out] at ha; rw [← Option.some.inj ha]; exact HL.out), if_neg (fun h9 => by rw [Hr.out, Option.some.injEq] at h9; rw [(eq9_iff HUD.out HXD.out).2 h9] at hq9; cases hq9), List.append_cons, HL1.out, HL2.out]
            exact N1.out.less (by omega)
    · obtain rfl : i = rs.length := by omega
      have hb9 := hb
      clear hbx hrw
      go_wp2
      go_quiet (fail)
      have HB5 := Lib.hid (below_drewN hb9 nq)
      generalize wr.drewN nq = W5 at *
      go_wp2
      go_quiet (fail)
      by_cases hcl : c = rs.length
      · subst hcl
        have HBt := Lib.hid (below_drewN HB5.out nq)
        generalize W5.drewN nq = WT at *
        have hszt : w.heap.size + 1 ≤ WT.heap.size := by have := HBt.out.size; omega
        have HT := Lib.hid (show PEL (WT.alloc (.cells #[] 50)) WT.heap.size (.slice (some ⟨WT.heap.size, 0, none⟩) 0 0) [] from World.ownsRow_lit WT #[] 0 (Nat.le_refl _) (by simp [maxLen]) (by simp))
        have hia : rs.length ≤ rs.length := by omega
        have HBa := Lib.hid ((Below.refl WT.heap.size WT).alloc (Nat.le_refl _) (.cells #[] 50))
        have HR9 := ((HZ.out _ HBt.out).2.on HBa.out).cut rs.length hia
        obtain ⟨L1, hL1⟩ : ∃ L, rs.take rs.length = L := ⟨_, rfl⟩
        obtain ⟨L2, hL2⟩ : ∃ L, L1 ++ [(⟨⟨x0, x1, x2, x3⟩, ⟨x4, x5, x6, x7⟩⟩ : EP)] = L := ⟨_, rfl⟩
        have hn1 : L1.length ≤ 100000 := by rw [← hL1, List.length_take]; omega
        have hn2 : L2.length ≤ 100001 := by rw [← hL2, List.length_append, List.length_singleton]; omega
        rw [hL1] at HR9
        have HR := Lib.hid HR9
        have HL1 := Lib.hid hL1
        have HL2 := Lib.hid hL2
        have hic : rs.length ≤ rs.length := by omega
        have hicz : ((rs.length : Nat) : Int) ≤ (rs.length : Int) := by omega
        have hicy : ((rs.length : Nat) : Int) ≤ (rs.length : Int) := by omega
        have hlt1 : ([] : List EP).length + L1.length ≤ 1000000 := by rw [List.length_nil]; omega
        have hlt2 : L1.length ≤ 1000000 := by omega
        have hlt3 : L2.length + rs.length ≤ 1000000 := by omega
        have hB1 : WT.heap.size ≤ (WT.alloc (.cells #[] 50)).heap.size := by simp
        have hoff : rs.length < rs.length → 0 = rs.length * 9 := fun h => absurd h (Nat.lt_irrefl _)
        clear HR9 hL1 hL2
        go_wp2_with (first
          | (at_builtin; refine wpList_append_PP rfl (.tmp 34) (.tmp 37) rfl WT.heap.size B _ _ [] L1 rfl HT.out rfl HR.out hlt1 hB1 ?_; intro v1 w2 k1 k2; rw [List.nil_append] at k1; obtain ⟨A1, c1, rfl, -, -, -⟩ := k1.form; have K1 := Lib.hid k1; have Hb2 := Lib.hid (HBa.out.trans k2); obtain ⟨p0, p1, p2, p3, p4, p5, p6, p7, p8⟩ := box9 ((HZ.out _ HBt.out).1.on Hb2.out); have hs2 := Hb2.out.size; clear k1 k2)
          | (at_builtin; refine wpList_append_PE rfl (.tmp 39) (.tmp 41) rfl WT.heap.size _ L1 rfl K1.out x0 x1 x2 x3 x4 x5 x6 x7 xd HXD.out rfl hlt2 hs2 ?_; intro v2 w3 m1 m2 m3; rw [HL2.out] at m1; obtain ⟨A2, c2, rfl, -, -, -⟩ := m1.form; have M1 := Lib.hid m1; have Hb3 := Lib.hid (Hb2.out.trans m3); have HR3 := Lib.hid ((HZ.out _ HBt.out).2.on Hb3.out); have hs3 := Hb3.out.size; clear m1 m2 m3)
          | (at_builtin; refine wpList_append_PT rfl (.tmp 43) (.tmp 46) rfl WT.heap.size B _ g rs.length rs.length _ _ _ L2 rs rs.length rfl M1.out rfl HR3.out hia (by omega) hoff hlt3 hs3 ?_; intro v3 w4 n1 n2; have N1 := Lib.hid n1; have Hb4 := Lib.hid (Hb3.out.trans n2); clear n1 n2))
        obtain ⟨A3, c3, hv3, -, -, -⟩ := N1.out.form
        subst hv3
        obtain ⟨g3, _, hA3, -⟩ := N1.out.elem (k := 0) (by rw [List.length_append, ← HL2.out, List.length_append, List.length_singleton]; omega)
        subst hA3
        go_wp2_with fail
        go_ret
        refine ⟨g3, _, c3, rfl, ?_, B0.out.trans ((HBt.out.trans (Hb4.out.mono hszt)).mono (Nat.le_succ _))⟩
        rw [putP_at (Nat.le_refl _) HI.out (fun a ha => by rw [List.getElem?_eq_none (Nat.le_refl _)] at ha; cases ha), if_neg (fun h9 => by rw [List.getElem?_eq_none (Nat.le_refl _)] at h9; cases h9), List.append_cons, HL1.out, HL2.out]
        exact N1.out.less (by omega)
      · have hcl2 : ¬ rs.length = c := fun h => hcl h.symm
        have HBt := Lib.hid (below_drewN HB5.out nq)
        generalize W5.drewN nq = WT at *
        have hszt : w.heap.size + 1 ≤ WT.heap.size := by have := HBt.out.size; omega
        have HT := Lib.hid (show PEL (WT.alloc (.cells #[] 50)) WT.heap.size (.slice (some ⟨WT.heap.size, 0, none⟩) 0 0) [] from World.ownsRow_lit WT #[] 0 (Nat.le_refl _) (by simp [maxLen]) (by simp))
        have hia : rs.length ≤ rs.length := by omega
        have HBa := Lib.hid ((Below.refl WT.heap.size WT).alloc (Nat.le_refl _) (.cells #[] 50))
        have HR9 := ((HZ.out _ HBt.out).2.on HBa.out).cut rs.length hia
        obtain ⟨L1, hL1⟩ : ∃ L, rs.take rs.length = L := ⟨_, rfl⟩
        obtain ⟨L2, hL2⟩ : ∃ L, L1 ++ [(⟨⟨x0, x1, x2, x3⟩, ⟨x4, x5, x6, x7⟩⟩ : EP)] = L := ⟨_, rfl⟩
        have hn1 : L1.length ≤ 100000 := by rw [← hL1, List.length_take]; omega
        have hn2 : L2.length ≤ 100001 := by rw [← hL2, List.length_append, List.length_singleton]; omega
        rw [hL1] at HR9
        have HR := Lib.hid HR9
        have HL1 := Lib.hid hL1
        have HL2 := Lib.hid hL2
        have hic : rs.length ≤ c := by omega
        have hicz : ((rs.length : Nat) : Int) ≤ (c : Int) := by omega
        have hicy : ((rs.length : Nat) : Int) ≤ (rs.length : Int) := by omega
        have hlt1 : ([] : List EP).length + L1.length ≤ 1000000 := by rw [List.length_nil]; omega
        have hlt2 : L1.length ≤ 1000000 := by omega
        have hlt3 : L2.length + rs.length ≤ 1000000 := by omega
        have hB1 : WT.heap.size ≤ (WT.alloc (.cells #[] 50)).heap.size := by simp
        have hoff : rs.length < rs.length → rs.length * 9 = rs.length * 9 := fun _ => rfl
        clear HR9 hL1 hL2
        go_wp2_with (first
          | (at_builtin; refine wpList_append_PP rfl (.tmp 34) (.tmp 37) rfl WT.heap.size B _ _ [] L1 rfl HT.out rfl HR.out hlt1 hB1 ?_; intro v1 w2 k1 k2; rw [List.nil_append] at k1; obtain ⟨A1, c1, rfl, -, -, -⟩ := k1.form; have K1 := Lib.hid k1; have Hb2 := Lib.hid (HBa.out.trans k2); obtain ⟨p0, p1, p2, p3, p4, p5, p6, p7, p8⟩ := box9 ((HZ.out _ HBt.out).1.on Hb2.out); have hs2 := Hb2.out.size; clear k1 k2)
          | (at_builtin; refine wpList_append_PE rfl (.tmp 39) (.tmp 41) rfl WT.heap.size _ L1 rfl K1.out x0 x1 x2 x3 x4 x5 x6 x7 xd HXD.out rfl hlt2 hs2 ?_; intro v2 w3 m1 m2 m3; rw [HL2.out] at m1; obtain ⟨A2, c2, rfl, -, -, -⟩ := m1.form; have M1 := Lib.hid m1; have Hb3 := Lib.hid (Hb2.out.trans m3); have HR3 := Lib.hid ((HZ.out _ HBt.out).2.on Hb3.out); have hs3 := Hb3.out.size; clear m1 m2 m3)
          | (at_builtin; refine wpList_append_PT rfl (.tmp 43) (.tmp 46) rfl WT.heap.size B _ g rs.length c _ _ _ L2 rs rs.length rfl M1.out rfl HR3.out hia (by omega) hoff hlt3 hs3 ?_; intro v3 w4 n1 n2; have N1 := Lib.hid n1; have Hb4 := Lib.hid (Hb3.out.trans n2); clear n1 n2))
        obtain ⟨A3, c3, hv3, -, -, -⟩ := N1.out.form
        subst hv3
        obtain ⟨g3, _, hA3, -⟩ := N1.out.elem (k := 0) (by rw [List.length_append, ← HL2.out, List.length_append, List.length_singleton]; omega)
        subst hA3
        go_wp2_with fail
        go_ret
        refine ⟨g3, _, c3, rfl, ?_, B0.out.trans ((HBt.out.trans (Hb4.out.mono hszt)).mono (Nat.le_succ _))⟩
        rw [putP_at (Nat.le_refl _) HI.out (fun a ha => by rw [List.getElem?_eq_none (Nat.le_refl _)] at ha; cases ha), if_neg (fun h9 => by rw [List.getElem?_eq_none (Nat.le_refl _)] at h9; cases h9), List.append_cons, HL1.out, HL2.out]
        exact N1.out.less (by omega)

end Go.Proofs.YtjiljodchebniaaGreat
