/- Laws for taking a line: append of a record, in a region that draws its order. No conditions. -/
import Derived.Test.YtcckamhokdodnaaGreatDoorWord
import Derived.Laws.AppendOwnNone
import Derived.Maps.AppendAt
namespace Go.Proofs.YtcckamhokdodnaaGreatDoor
open Go.RowKit

section
variable {α : Type} {t : TypeId} {n : Nat} {enc : α → List Value}
theorem FL.snoc {w : World} {B : Nat} {v : Value} {xs : List α} {x : α} (h : w.ownsRow B t n v (xs.length + 1) (xs.flatMap enc ++ enc x)) : FL t n enc w B v (xs ++ [x]) := by
  unfold FL
  rw [List.length_append, List.flatMap_append, List.flatMap_singleton]
  exact h
/-- 'out = append(out, x)' for one record, in a region that draws its order. -/
theorem step_append_F {W : World} {ops : Array Oper} {o : Oper} {a : Act} {K : Act → World → Prop} {Q : Exit → Act → World → Prop} {E : Prop} (hgd : o.guard = none) (s x : Operand) (st : TypeId) (bytes : Nat) (z : Value)
    (hinfo : (Tryz.prog.info? t).map (fun i => (i.zero, i.size, i.bytes)) = some (some z, n, bytes)) (hst : Tryz.prog.underlying st = some (.slice t)) (hzs : z.cells.size = n) (hsz : 0 < n) (hby : bytes ≤ 100)
    (ho : o.op = .call { callee := .builtin .append, args := #[s, x], argTypes := #[st, st] })
    (B : Nat) (v : Value) (xs : List α) (y : α) (hs : a.eval s = v) (hown : FL t n enc W B v xs) (hcs : (enc y).length = n) (hone : ∀ u ∈ enc y, u.oneCell' = true) (nb : Nat)
    (hx : a.eval x = .slice (some ⟨nb, 0, none⟩) 1 1) (hbk : Bk W nb t (enc y).toArray) (hlen : xs.length ≤ 1000000) (hB : B ≤ W.heap.size)
    (h : ∀ v' w', FL t n enc w' B v' (xs ++ [y]) → W.grownBy w' v.ownBlock → (v'.ownBlock = v.ownBlock ∨ v'.ownBlock = some W.heap.size) → K (a.put o.dst v') w') :
    if Region.wanted o (yielded ops a.tmps) = true then Oper.wp Tryz.prog o a W K Q else E := by
  obtain ⟨i, hi, hz, hsz', hby'⟩ := info_parts hinfo
  rw [if_pos (by simp [Region.wanted, hgd])]
  have hbytes : (xs.length + 1) * bytes ≤ 140737488355328 := by
    have : (xs.length + 1) * bytes ≤ 1000001 * 100 := Nat.mul_le_mul (by omega) hby
    omega
  obtain ⟨v', w', hr, h2, h3, h4, h5⟩ := run_append_own_at (P := Tryz.prog) W B st o.type t i z n bytes hst hi hz hsz' hby' hzs hsz v xs.length _ hown ⟨nb, 0, none⟩ 1 1 (enc y) (by rw [hcs, Nat.one_mul]) (fun j u hu => by
    rw [Addr.add_lit, Nat.zero_add, hbk.cell]
    simpa using hu) hone (by simp only [maxLen]; omega) hbytes hB
  unfold Oper.wp execOp
  simp only [ho, resolve, invoke, builtin, Sem.run_bind, Sem.run_pure, Result.andThen_ok, List.map_toArray, List.map_cons, List.map_nil, hs, hx, hr]
  exact h v' w' (FL.snoc h2) h3 h5
/-- 'append(T{}, xs...)' in a region that draws its order. -/
theorem step_append_FF {W : World} {ops : Array Oper} {o : Oper} {a : Act} {K : Act → World → Prop} {Q : Exit → Act → World → Prop} {E : Prop} (hgd : o.guard = none) (s x : Operand) (st : TypeId) (bytes : Nat) (z : Value)
    (hinfo : (Tryz.prog.info? t).map (fun i => (i.zero, i.size, i.bytes)) = some (some z, n, bytes)) (hst : Tryz.prog.underlying st = some (.slice t)) (hzs : z.cells.size = n) (hsz : 0 < n) (hby : bytes ≤ 100)
    (ho : o.op = .call { callee := .builtin .append, args := #[s, x], argTypes := #[st, st] })
    (B B' : Nat) (v u : Value) (xs : List α) (hs : a.eval s = v) (hown : FL t n enc W B v []) (he : ∀ x, (enc x).length = n) (hone : ∀ x ∈ xs, ∀ u ∈ enc x, u.oneCell' = true)
    (hx : a.eval x = u) (hu : FL t n enc W B' u xs) (hlen : xs.length ≤ 1000000) (hB : B ≤ W.heap.size)
    (h : ∀ v' w', FL t n enc w' B v' xs → W.grownBy w' v.ownBlock → Below B W w' → K (a.put o.dst v') w') :
    if Region.wanted o (yielded ops a.tmps) = true then Oper.wp Tryz.prog o a W K Q else E := by
  obtain ⟨i, hi, hz, hsz', hby'⟩ := info_parts hinfo
  rw [if_pos (by simp [Region.wanted, hgd])]
  rcases hu.2 with ⟨rfl, hn0⟩ | ⟨g, cap, cur, rfl, hb, hg, hnc, hm, hsz2, htk⟩
  · obtain rfl : xs = [] := List.eq_nil_of_length_eq_zero hn0
    have hrun := run_append_owned_none (P := Tryz.prog) (w := W) B st o.type t i n hst hi v 0 [] hown
    unfold Oper.wp
    simp [execOp, ho, resolve, invoke, builtin, hs, hx, hrun, Result.andThen]
    exact h _ _ hown ⟨rfl, rfl, rfl, Nat.le_refl _, fun _ _ _ => rfl⟩ (Below.refl _ _)
  · refine wp_append_own _ s x st ho B t i z n bytes hst hi hz hsz' hby' hzs hsz v 0 [] hs hown ⟨g, 0, none⟩ xs.length cap (xs.flatMap enc) hx (flat_len he xs) ?_ ?_ (by simp only [maxLen]; omega) ?_ hB ?_
    · intro j y hy
      rw [Addr.add_lit, Nat.zero_add]
      have hj : j < xs.length * n := by have := (List.getElem?_eq_some_iff.1 hy).1; rwa [flat_len he] at this
      simp only [World.cell?, hg]
      rw [← htk] at hy
      rw [List.getElem?_take, if_pos hj] at hy
      simpa using hy
    · intro y hy
      obtain ⟨x, hx1, hx2⟩ := List.mem_flatMap.1 hy
      exact hone x hx1 y hx2
    · have : (0 + xs.length) * bytes ≤ 1000000 * 100 := Nat.mul_le_mul (by omega) hby
      omega
    · intro v' w' h1 h2 _
      refine h v' w' ?_ h2 (below_own hown h2 hB)
      unfold FL
      rw [Nat.zero_add, List.nil_append] at h1
      exact h1
end
theorem FL.lit0 {α : Type} {t : TypeId} {n : Nat} {enc : α → List Value} (w : World) {B : Nat} (hB : B ≤ w.heap.size) : FL t n enc (w.alloc (.cells #[] t)) B (.slice (some ⟨w.heap.size, 0, none⟩) 0 0) [] := World.ownsRow_lit w #[] 0 hB (by simp [maxLen]) (by simp)

/-- Rows of numbers read on. -/
def KeepI (w w' : World) : Prop := ∀ (N : Nat) (v : Value) (xs : List Int), IL w N v xs → IL w' N v xs
theorem KeepI.refl (w : World) : KeepI w w := fun _ _ _ h => h
theorem KeepI.on {w W W' : World} (h : KeepI w W) (hb : Below W.heap.size W W') : KeepI w W' := fun N v xs hi => (h N v xs hi).on hb
theorem KeepI.grown {w W W' : World} {B n m : Nat} {e : TypeId} {v : Value} {xs : List Value} (h : KeepI w W) (ho : W.ownsRow B e m v n xs) (he : 2 ≠ e) (hg : W.grownBy W' v.ownBlock) : KeepI w W' := fun N u ys hi => World.ownsRow.kept (h N u ys hi) hg (own_types (h N u ys hi) ho he)
theorem KeepI.put {w W : World} {g : Nat} {t : TypeId} {cs : Array Value} (h : KeepI w W) (hb : Bk W g t cs) (ht : t ≠ 2) (i : Nat) (x : Value) : KeepI w (W.setCell ⟨g, i, none⟩ x) := fun N u ys hi => World.ownsRow.kept (h N u ys hi) (grownBy_put W g i x) (own_otherT (h N u ys hi) hb ht)
/-- A parser's block, its cells and the one that has begun. -/
structure PK (t : TypeId) (w : World) (B g : Nat) (cs : Array Value) (cv : Value) (ps : List (CellD × Sl3)) (u : Sl3) (c : CellD) (W : World) : Prop where
  bk : Bk W g t cs
  lib : CW W B cv ps
  cur : C3 W B u c
  hg : B ≤ g
  bel : Below B w W
  ints : KeepI w W
abbrev tyOk3 (t : TypeId) : Prop := t ≠ 62 ∧ t ≠ 67 ∧ t ≠ 72
abbrev tyOk (t : TypeId) : Prop := tyOk3 t ∧ t ≠ 2
section
variable {t : TypeId} {w W : World} {B g : Nat} {cs : Array Value} {cv : Value} {ps : List (CellD × Sl3)} {u : Sl3} {c : CellD}
theorem PK.put (h : PK t w B g cs cv ps u c W) (ht : tyOk t) (ht2 : t ≠ 46) (i : Nat) (x : Value) : PK t w B g (cs.setIfInBounds i x) cv ps u c (W.setCell ⟨g, i, none⟩ x) :=
  ⟨h.bk.store i x, h.lib.kept (grownBy_put W g i x) (own_otherT h.lib.own h.bk ht2) (fun p hp b hb => by
    obtain ⟨k, hk⟩ := List.getElem?_of_mem hp
    exact (h.lib.each k p hk).other h.bk ht.1 b hb), h.cur.kept (grownBy_put W g i x) (h.cur.other h.bk ht.1), h.hg, h.bel.setCell (p := ⟨g, i, none⟩) h.hg x, h.ints.put h.bk ht.2 i x⟩
theorem PK.on (h : PK t w B g cs cv ps u c W) {W' : World} (hb : Below W.heap.size W W') : PK t w B g cs cv ps u c W' := ⟨h.bk.on hb, h.lib.on hb, h.cur.on hb, h.hg, h.bel.trans (hb.mono (Nat.le_trans h.hg (Nat.le_of_lt h.bk.lt))), h.ints.on hb⟩
end
theorem C3.keptC {w w' : World} {B B' n : Nat} {u : Sl3} {c : CellD} {cv : Value} {xs : List Value} (h : C3 w B u c) (hl : w.ownsRow B' 46 4 cv n xs) (hg : w.grownBy w' cv.ownBlock) : C3 w' B u c :=
  ⟨World.ownsRow.kept h.s hg (own_types h.s hl (by decide)), World.ownsRow.kept h.l hg (own_types h.l hl (by decide)), World.ownsRow.kept h.i hg (own_types h.i hl (by decide))⟩
theorem not_row {w : World} {B g n s : Nat} {t e : TypeId} {cs : Array Value} {v : Value} {xs : List Value} (hr : w.ownsRow B e s v n xs) (hb : Bk w g t cs) (ht : t ≠ e) : (some g : Option Nat) ≠ v.ownBlock := by
  rcases own_otherT hr hb ht with h | h
  · rw [h]; simp
  · exact fun e => h e.symm
/-- The cell that has begun is put behind the others. -/
theorem PK.push {t : TypeId} {w W W' : World} {B g : Nat} {cs : Array Value} {cv v' : Value} {ps : List (CellD × Sl3)} {u : Sl3} {c : CellD} (h : PK t w B g cs cv ps u c W) (ht : t ≠ 46)
    (h1 : FL 46 4 cellV W' B v' (ps ++ [(c, u)])) (hg : W.grownBy W' cv.ownBlock) : PK t w B g cs v' (ps ++ [(c, u)]) u c W' :=
  ⟨h.bk.grown hg (not_row h.lib.own h.bk ht), ⟨h1, fun k p hp => by
    rcases Nat.lt_or_ge k ps.length with hk | hk
    · rw [List.getElem?_append_left hk] at hp
      exact (h.lib.each k p hp).keptC h.lib.own hg
    · rw [List.getElem?_append_right hk] at hp
      obtain rfl : p = (c, u) := by
        have := List.mem_of_getElem? hp
        simpa using this
      exact h.cur.keptC h.lib.own hg⟩, h.cur.keptC h.lib.own hg, h.hg, h.bel.grown hg (Nat.le_trans h.hg (Nat.le_of_lt h.bk.lt)) (fun k hk => (World.ownsRow.lt h.lib.own k hk).1), h.ints.grown h.lib.own (by decide) hg⟩
/-- The apartness of the cell that has begun, in one form. -/
theorem apart_last {us : List Sl3} {u : Sl3} : Apart3 (us ++ [u]) ↔ Apart3 us ∧ ∀ x ∈ us, ∀ b, blkOf x b → ¬ blkOf u b := by
  unfold Apart3
  rw [List.pairwise_append]
  simp
/-- One of the three slices of the cell that has begun grows. -/
theorem PK.grow {t e : TypeId} {w W W' : World} {B g n m : Nat} {cs : Array Value} {cv v v' : Value} {ps : List (CellD × Sl3)} {u u' : Sl3} {c c' : CellD} {xs : List Value} (h : PK t w B g cs cv ps u c W) (ha : Apart3 (ps.map Prod.snd ++ [u])) (ht : t ≠ e) (he : e ≠ 46 ∧ 2 ≠ e)
    (hv : ∀ b, v.ownBlock = some b → blkOf u b) (ho : W.ownsRow B e m v n xs) (hg : W.grownBy W' v.ownBlock) (hb : v'.ownBlock = v.ownBlock ∨ v'.ownBlock = some W.heap.size) (hu : ∀ b, blkOf u' b → blkOf u b ∨ v'.ownBlock = some b) (hc : C3 W' B u' c') :
    PK t w B g cs cv ps u' c' W' ∧ Apart3 (ps.map Prod.snd ++ [u']) := by
  have hne : ∀ x ∈ ps.map Prod.snd, ∀ b, blkOf x b → v.ownBlock ≠ some b := fun x hx b hxb e => (apart_last.1 ha).2 x hx b hxb (hv b e)
  refine ⟨⟨h.bk.grown hg (not_row ho h.bk ht), h.lib.kept hg (own_types h.lib.own ho (Ne.symm he.1)) (fun p hp b hpb => hne p.2 (List.mem_map_of_mem hp) b hpb), hc, h.hg, h.bel.grown hg (Nat.le_trans h.hg (Nat.le_of_lt h.bk.lt)) (fun k hk => (World.ownsRow.lt ho k hk).1), h.ints.grown ho he.2 hg⟩, ?_⟩
  refine apart_last.2 ⟨(apart_last.1 ha).1, fun x hx b hxb hub => ?_⟩
  rcases hu b hub with h1 | h1
  · exact (apart_last.1 ha).2 x hx b hxb h1
  · rcases hb with h2 | h2
    · exact hne x hx b hxb (h2.symm.trans h1)
    · rw [h2] at h1
      obtain rfl := Option.some.inj h1
      obtain ⟨p, hp, rfl⟩ := List.mem_map.1 hx
      obtain ⟨k, hk⟩ := List.getElem?_of_mem hp
      exact Nat.lt_irrefl _ ((h.lib.each k p hk).blk hxb).2
theorem PMx.pk {t : TypeId} {pv : Value → PS → Sl3 → Array Value} {w : World} {B g : Nat} {st : PS} {cv : Value} {ps : List (CellD × Sl3)} {u : Sl3} (h : PMx t pv w B g st cv ps u) : PK t w B g (pv cv st u) cv ps u st.cell w := ⟨h.bk, h.lib, h.cur, h.hg, Below.refl _ _, KeepI.refl _⟩
theorem apart_done {us : List Sl3} {v : List Sl3} (h : Apart3 (us ++ v)) : Apart3 us := (List.pairwise_append.1 h).1
abbrev nil3 : Sl3 := ⟨.slice none 0 0, .slice none 0 0, .slice none 0 0⟩
theorem nil3_blk (b : Nat) : ¬ blkOf nil3 b := by
  rintro (h | h | h) <;> cases h
theorem apart_nil {us : List Sl3} (h : Apart3 us) : Apart3 (us ++ [nil3]) := List.pairwise_append.2 ⟨h, List.pairwise_singleton _ _, fun a _ b hb => by
  rw [List.mem_singleton] at hb
  subst hb
  exact fun x _ => nil3_blk x⟩
theorem C3.nil (w : World) (B : Nat) (nm : ByteArray) : C3 w B nil3 ⟨nm, [], [], []⟩ := ⟨FL.nil w B, FL.nil w B, FL.nil w B⟩

theorem cellV_one {w : World} {B : Nat} {u : Sl3} {c : CellD} (h : C3 w B u c) : ∀ x ∈ cellV (c, u), x.oneCell' = true := by
  obtain ⟨a, b, d⟩ := u
  obtain ⟨_, _, e1, -, -⟩ := h.s.form
  obtain ⟨_, _, e2, -, -⟩ := h.l.form
  obtain ⟨_, _, e3, -, -⟩ := h.i.form
  dsimp only at e1 e2 e3
  subst e1 e2 e3
  intro x hx
  simp only [cellV, List.mem_cons, List.not_mem_nil, or_false] at hx
  rcases hx with rfl | rfl | rfl | rfl <;> rfl
theorem shapeV_one (s : ShapeD) : ∀ x ∈ s.vals, x.oneCell' = true := by
  intro x hx
  simp only [ShapeD.vals, List.mem_cons, List.not_mem_nil, or_false] at hx
  rcases hx with rfl | rfl | rfl | rfl | rfl <;> rfl
theorem labelV_one (s : LabelD) : ∀ x ∈ s.vals, x.oneCell' = true := by
  intro x hx
  simp only [LabelD.vals, List.mem_cons, List.not_mem_nil, or_false] at hx
  rcases hx with rfl | rfl | rfl | rfl <;> rfl
theorem instV_one (s : InstD) : ∀ x ∈ s.vals, x.oneCell' = true := by
  intro x hx
  simp only [InstD.vals, List.mem_cons, List.not_mem_nil, or_false] at hx
  rcases hx with rfl | rfl | rfl | rfl | rfl | rfl | rfl | rfl <;> rfl

/-- The integers of a list, in memory. -/
theorem ints_at {w : World} {B : Nat} {A : Option Addr} {n c : Nat} {xs : List Int} (h : IL w B (.slice A n c) xs) (hp : 0 < xs.length) : ∃ g, A = some ⟨g, 0, none⟩ ∧ g < w.heap.size ∧ n = xs.length ∧ ∀ (k : Nat) (x : Int), xs[k]? = some x → w.cell? ⟨g, k, none⟩ = some (.int .i64 x) := by
  obtain ⟨g, _, rfl, -, -, hg, -⟩ := h.elem (k := 0) hp
  obtain ⟨A', c', e, -, -⟩ := h.form
  simp only [Value.slice.injEq] at e
  refine ⟨g, rfl, hg, e.2.1, fun k x hx => ?_⟩
  obtain ⟨g2, y, e2, hy, -, -, hc⟩ := h.elem (k := k) (List.getElem?_eq_some_iff.1 hx).1
  simp only [Option.some.injEq, Addr.mk.injEq, and_true] at e2
  rw [hx] at hy
  rw [e2, Option.some.inj hy]
  exact hc

theorem takeV_rect_lim {st : PS} (ws : List ByteArray) (v : List Int) (h : st.cell.shapes.length = 24) : takeV st .rect ws v = (3, st) := by
  unfold takeV
  exact if_pos h
theorem takeV_rect_bad {st : PS} {ws : List ByteArray} {v : List Int} (h : ¬ st.cell.shapes.length = 24) (hb : shapeB (shapeOf v) = false) : takeV st .rect ws v = (1, st) := by
  unfold takeV
  exact (if_neg h).trans (if_neg (by rw [hb]; simp))
theorem takeV_rect_ok {st : PS} {ws : List ByteArray} {v : List Int} (h : ¬ st.cell.shapes.length = 24) (hb : shapeB (shapeOf v) = true) : takeV st .rect ws v = (0, { st with cell := { st.cell with shapes := st.cell.shapes ++ [shapeOf v] } }) := by
  unfold takeV
  exact (if_neg h).trans (if_pos hb)
theorem takeV_label_lim {st : PS} (ws : List ByteArray) (v : List Int) (h : st.cell.labels.length = 8) : takeV st .label ws v = (3, st) := by
  unfold takeV
  exact if_pos h
theorem takeV_label_bad {st : PS} {ws : List ByteArray} {v : List Int} (h : ¬ st.cell.labels.length = 8) (hb : labelB (labelOf ws v) = false) : takeV st .label ws v = (1, st) := by
  unfold takeV
  exact (if_neg h).trans (if_neg (by rw [hb]; simp))
theorem takeV_label_ok {st : PS} {ws : List ByteArray} {v : List Int} (h : ¬ st.cell.labels.length = 8) (hb : labelB (labelOf ws v) = true) : takeV st .label ws v = (0, { st with cell := { st.cell with labels := st.cell.labels ++ [labelOf ws v] } }) := by
  unfold takeV
  exact (if_neg h).trans (if_pos hb)
theorem takeV_place_lim {st : PS} (ws : List ByteArray) (v : List Int) (h : st.cell.insts.length = 8) : takeV st .place ws v = (3, st) := by
  unfold takeV
  exact if_pos h
theorem takeV_place_bad {st : PS} {ws : List ByteArray} {v : List Int} (h : ¬ st.cell.insts.length = 8) (hb : instB (instOf .place v) st.done.length = false) : takeV st .place ws v = (1, st) := by
  unfold takeV
  exact (if_neg h).trans (if_neg (by rw [hb]; simp))
theorem takeV_place_ok {st : PS} {ws : List ByteArray} {v : List Int} (h : ¬ st.cell.insts.length = 8) (hb : instB (instOf .place v) st.done.length = true) : takeV st .place ws v = (0, { st with cell := { st.cell with insts := st.cell.insts ++ [instOf .place v] } }) := by
  unfold takeV
  exact (if_neg h).trans (if_pos hb)
theorem takeV_array_lim {st : PS} (ws : List ByteArray) (v : List Int) (h : st.cell.insts.length = 8) : takeV st .array ws v = (3, st) := by
  unfold takeV
  exact if_pos h
theorem takeV_array_bad {st : PS} {ws : List ByteArray} {v : List Int} (h : ¬ st.cell.insts.length = 8) (hb : instB (instOf .array v) st.done.length = false) : takeV st .array ws v = (1, st) := by
  unfold takeV
  exact (if_neg h).trans (if_neg (by rw [hb]; simp))
theorem takeV_array_ok {st : PS} {ws : List ByteArray} {v : List Int} (h : ¬ st.cell.insts.length = 8) (hb : instB (instOf .array v) st.done.length = true) : takeV st .array ws v = (0, { st with cell := { st.cell with insts := st.cell.insts ++ [instOf .array v] } }) := by
  unfold takeV
  exact (if_neg h).trans (if_pos hb)

/-- What taking a line answers. -/
def TakeAns (t : TypeId) (pv : Value → PS → Sl3 → Array Value) (st : PS) (k : Kw) (ws : List ByteArray) (v : List Int) (B g : Nat) (w : World) (e : Ending) (w' : World) : Prop :=
  ∃ r st' cv' ps' u', e = .returned (.int .i64 r) ∧ Hid (takeV st k ws v = (r, st')) ∧ PMx t pv w' B g st' cv' ps' u' ∧ Below B w w' ∧ KeepI w w'

end Go.Proofs.YtcckamhokdodnaaGreatDoor
