/- A library under way, as the laws draw it, in memory. No conditions. -/
import Derived.Test.YtgegbgkokkdmpaaGreatQ11
import Derived.Test.YtgegbgkokkdmpaaGreatQ13

namespace Go.Proofs.YtgegbgkokkdmpaaGreat
open Go.RowKit

theorem C3.keptG {w w' : World} {g B : Nat} {u : Sl3} {c : CellD} (h : C3 w B u c) (hg : w.grownBy w' (some g)) (hB : g < B) : C3 w' B u c := ⟨own_keptG h.s hg hB, own_keptG h.l hg hB, own_keptG h.i hg hB⟩
theorem CW.keptG {w w' : World} {g B : Nat} {v : Value} {ps : List (CellD × Sl3)} (h : CW w B v ps) (hg : w.grownBy w' (some g)) (hB : g < B) : CW w' B v ps := ⟨own_keptG h.own hg hB, fun k p hp => (h.each k p hp).keptG hg hB⟩
theorem bk_ne {w : World} {a b : Nat} {t t' : TypeId} {cs cs' : Array Value} (h : Bk w a t cs) (h' : Bk w b t' cs') (ht : t ≠ t') : a ≠ b := by
  rintro rfl
  unfold Bk at h h'
  rw [h] at h'
  simp only [Option.some.injEq, Obj.cells.injEq] at h'
  exact ht h'.2.1

/-- What was drawn of a library so far: the source g, the result's block, the library's block lb. -/
structure DO (w W : World) (g lb : Nat) (cv : Value) (ps : List (CellD × Sl3)) : Prop where
  dice : Dice W g
  res : Bk W w.heap.size 26 #[.slice none 0 0]
  lib : Bk W lb 26 #[cv]
  cw : CW W w.heap.size cv ps
  apart : Apart3 (ps.map Prod.snd)
  gro : w.grownBy W (some g)
  hg : g < w.heap.size
  h1 : w.heap.size < lb
/-- .. and the cell under way, in block cb. -/
structure DL (w W : World) (g lb cb : Nat) (cv : Value) (ps : List (CellD × Sl3)) (u : Sl3) (c : CellD) : Prop where
  o : DO w W g lb cv ps
  box : Bk W cb 67 #[.string c.name, u.s, u.l, u.i]
  cur : C3 W w.heap.size u c
  apart : Apart3 (ps.map Prod.snd ++ [u])
  hcv : cv.ownBlock ≠ some cb
  h2 : w.heap.size < cb
section
variable {w W W' : World} {g lb cb : Nat} {cv : Value} {ps : List (CellD × Sl3)} {u : Sl3} {c : CellD}
theorem DO.on (h : DO w W g lb cv ps) (hb : Below W.heap.size W W') : DO w W' g lb cv ps :=
  ⟨h.dice.on hb, h.res.on hb, h.lib.on hb, h.cw.on hb, h.apart, only_above h.gro (hb.mono h.gro.size), h.hg, h.h1⟩
theorem DO.next (h : DO w W g lb cv ps) (hD : Dice W' g) (hG : W.grownBy W' (some g)) : DO w W' g lb cv ps :=
  ⟨hD, h.res.grown hG (by have := h.hg; simp; omega), h.lib.grown hG (by have := h.hg; have := h.h1; simp; omega), h.cw.keptG hG h.hg, h.apart, only_trans h.gro hG, h.hg, h.h1⟩
theorem DL.on (h : DL w W g lb cb cv ps u c) (hb : Below W.heap.size W W') : DL w W' g lb cb cv ps u c := ⟨h.o.on hb, h.box.on hb, h.cur.on hb, h.apart, h.hcv, h.h2⟩
theorem DL.next (h : DL w W g lb cb cv ps u c) (hD : Dice W' g) (hG : W.grownBy W' (some g)) : DL w W' g lb cb cv ps u c :=
  ⟨h.o.next hD hG, h.box.grown hG (by have := h.o.hg; have := h.h2; simp; omega), h.cur.keptG hG h.o.hg, h.apart, h.hcv, h.h2⟩
/-- A cell is begun. -/
theorem DO.begin (h : DO w W g lb cv ps) (nm : ByteArray) : DL w (W.alloc (.cells #[.string nm, .slice none 0 0, .slice none 0 0, .slice none 0 0] 67)) g lb W.heap.size cv ps nil3 ⟨nm, [], [], []⟩ := by
  refine ⟨h.on ((Below.refl _ _).alloc (Nat.le_refl _) _), Bk.new _ _ _, C3.nil _ _ _, apart_nil h.apart, fun e => ?_, ?_⟩
  · exact Nat.lt_irrefl _ (World.ownsRow.lt h.cw.own _ e).2
  · have := h.lib.lt
    have := h.h1
    omega
/-- A list of the cell under way grows and is stored. -/
theorem DL.grow {e : TypeId} {n m : Nat} {v v' : Value} {xs : List Value} {u' : Sl3} {c' : CellD} (h : DL w W g lb cb cv ps u c) (i : Nat) (he : 67 ≠ e ∧ 26 ≠ e)
    (hv : ∀ b, v.ownBlock = some b → blkOf u b) (ho : W.ownsRow w.heap.size e m v n xs) (hg : W.grownBy W' v.ownBlock) (hb : v'.ownBlock = v.ownBlock ∨ v'.ownBlock = some W.heap.size)
    (hu : ∀ b, blkOf u' b → blkOf u b ∨ v'.ownBlock = some b) (hc : C3 W' w.heap.size u' c') (hx : (#[.string c.name, u.s, u.l, u.i] : Array Value).setIfInBounds i v' = #[.string c'.name, u'.s, u'.l, u'.i]) :
    DL w (W'.setCell ⟨cb, i, none⟩ v') g lb cb cv ps u' c' := by
  have hgw := h.o.hg
  have hcb := h.h2
  have hne : ∀ x ∈ ps.map Prod.snd, ∀ b, blkOf x b → v.ownBlock ≠ some b := fun x hx b hxb e => (apart_last.1 h.apart).2 x hx b hxb (hv b e)
  have hrow : ∀ q, v.ownBlock = some q → w.heap.size ≤ q := fun q hq => (World.ownsRow.lt ho q hq).1
  have hd1 : Dice W' g := h.o.dice.grown hg fun q hq => by have := hrow q hq; omega
  have hg1 : w.grownBy W' (some g) := only_above h.o.gro (grown_below hg hrow h.o.gro.size)
  have hr1 := h.o.res.grown hg (not_row ho h.o.res he.2)
  have hl1 := h.o.lib.grown hg (not_row ho h.o.lib he.2)
  have hb1 := h.box.grown hg (not_row ho h.box he.1)
  have hc1 : CW W' w.heap.size cv ps := h.o.cw.kept hg (own_types h.o.cw.own ho he.1) fun p hp b hpb => hne p.2 (List.mem_map_of_mem hp) b hpb
  have hlc : lb ≠ cb := bk_ne hl1 hb1 (by decide)
  have hput := grownBy_put W' cb i v'
  obtain ⟨hd2, hg2⟩ := dg_set ⟨hd1, hg1⟩ (show g < cb by omega) (show w.heap.size ≤ cb by omega) i v'
  have hap : Apart3 (ps.map Prod.snd ++ [u']) := by
    refine apart_last.2 ⟨(apart_last.1 h.apart).1, fun x hx b hxb hub => ?_⟩
    rcases hu b hub with h1 | h1
    · exact (apart_last.1 h.apart).2 x hx b hxb h1
    · rcases hb with h2 | h2
      · exact hne x hx b hxb (h2.symm.trans h1)
      · rw [h2] at h1
        obtain rfl := Option.some.inj h1
        obtain ⟨p, hp, rfl⟩ := List.mem_map.1 hx
        obtain ⟨k, hk⟩ := List.getElem?_of_mem hp
        exact Nat.lt_irrefl _ ((h.o.cw.each k p hk).blk hxb).2
  refine ⟨⟨hd2, hr1.grown hput (by simp; omega), hl1.grown hput (by simpa using hlc), hc1.kept hput (.inr h.hcv) (fun p hp b hpb => ?_), h.o.apart, hg2, hgw, h.o.h1⟩, ?_, hc.kept hput (hc.other hb1 (by decide)), hap, h.hcv, hcb⟩
  · obtain ⟨k, hk⟩ := List.getElem?_of_mem hp
    exact (hc1.each k p hk).other hb1 (by decide) b hpb
  · rw [← hx]
    exact hb1.store i v'
/-- The cell under way is put behind the others. -/
theorem DL.push {v' : Value} (h : DL w W g lb cb cv ps u c) (h1 : FL 67 4 cellV W' w.heap.size v' (ps ++ [(c, u)])) (hg : W.grownBy W' cv.ownBlock) : DO w (W'.setCell ⟨lb, 0, none⟩ v') g lb v' (ps ++ [(c, u)]) := by
  have hgw := h.o.hg
  have hlb := h.o.h1
  have hrow : ∀ q, cv.ownBlock = some q → w.heap.size ≤ q := fun q hq => (World.ownsRow.lt h.o.cw.own q hq).1
  have hd1 : Dice W' g := h.o.dice.grown hg fun q hq => by have := hrow q hq; omega
  have hg1 : w.grownBy W' (some g) := only_above h.o.gro (grown_below hg hrow h.o.gro.size)
  have hr1 := h.o.res.grown hg (not_row h.o.cw.own h.o.res (by decide))
  have hl1 := h.o.lib.grown hg (not_row h.o.cw.own h.o.lib (by decide))
  have hc1 : CW W' w.heap.size v' (ps ++ [(c, u)]) := ⟨h1, fun k p hp => by
    rcases Nat.lt_or_ge k ps.length with hk | hk
    · rw [List.getElem?_append_left hk] at hp
      exact (h.o.cw.each k p hp).keptC h.o.cw.own hg
    · rw [List.getElem?_append_right hk] at hp
      obtain rfl : p = (c, u) := by
        have := List.mem_of_getElem? hp
        simpa using this
      exact h.cur.keptC h.o.cw.own hg⟩
  have hput := grownBy_put W' lb 0 v'
  obtain ⟨hd2, hg2⟩ := dg_set ⟨hd1, hg1⟩ (show g < lb by omega) (show w.heap.size ≤ lb by omega) 0 v'
  refine ⟨hd2, hr1.grown hput (by simp; omega), hl1.store 0 v', hc1.kept hput (own_otherT hc1.own hl1 (by decide)) (fun p hp b hpb => ?_), by rw [List.map_append]; exact h.apart, hg2, hgw, hlb⟩
  obtain ⟨k, hk⟩ := List.getElem?_of_mem hp
  exact (hc1.each k p hk).other hl1 (by decide) b hpb
theorem core_set {cs : Array Value} (ho : DO w W g lb cv ps) (hb : Bk W cb 67 cs) (hc : C3 W w.heap.size u c) (hcv : cv.ownBlock ≠ some cb) (h2 : w.heap.size < cb) (i : Nat) (x : Value) :
    DO w (W.setCell ⟨cb, i, none⟩ x) g lb cv ps ∧ Bk (W.setCell ⟨cb, i, none⟩ x) cb 67 (cs.setIfInBounds i x) ∧ C3 (W.setCell ⟨cb, i, none⟩ x) w.heap.size u c := by
  have hgw := ho.hg
  have hlc : lb ≠ cb := bk_ne ho.lib hb (by decide)
  have hput := grownBy_put W cb i x
  obtain ⟨hd2, hg2⟩ := dg_set ⟨ho.dice, ho.gro⟩ (show g < cb by omega) (show w.heap.size ≤ cb by omega) i x
  refine ⟨⟨hd2, ho.res.grown hput (by simp; omega), ho.lib.grown hput (by simpa using hlc), ho.cw.kept hput (.inr hcv) (fun p hp b hpb => ?_), ho.apart, hg2, hgw, ho.h1⟩, hb.store i x, hc.kept hput (hc.other hb (by decide))⟩
  obtain ⟨k, hk⟩ := List.getElem?_of_mem hp
  exact (ho.cw.each k p hk).other hb (by decide) b hpb
/-- The cell's name is stored, its lists being empty. -/
theorem DL.fill {nm0 : ByteArray} (h : DL w W g lb cb cv ps nil3 ⟨nm0, [], [], []⟩) (nm : ByteArray) :
    DL w ((((W.setCell ⟨cb, 0, none⟩ (.string nm)).setCell ⟨cb, 1, none⟩ (.slice none 0 0)).setCell ⟨cb, 2, none⟩ (.slice none 0 0)).setCell ⟨cb, 3, none⟩ (.slice none 0 0)) g lb cb cv ps nil3 ⟨nm, [], [], []⟩ := by
  obtain ⟨o1, b1, c1⟩ := core_set h.o h.box h.cur h.hcv h.h2 0 (.string nm)
  obtain ⟨o2, b2, c2⟩ := core_set o1 b1 c1 h.hcv h.h2 1 (.slice none 0 0)
  obtain ⟨o3, b3, c3⟩ := core_set o2 b2 c2 h.hcv h.h2 2 (.slice none 0 0)
  obtain ⟨o4, b4, c4⟩ := core_set o3 b3 c3 h.hcv h.h2 3 (.slice none 0 0)
  exact ⟨o4, by simpa using b4, ⟨c4.s, c4.l, c4.i⟩, h.apart, h.hcv, h.h2⟩
end

/-- 'out = append(out, x)' for one record. -/
theorem wpList_append_F {α : Type} {t : TypeId} {n : Nat} {enc : α → List Value} {w : World} {ops : Array Oper} {rest : List Oper} {o : Oper} {a : Act} {Q : Exit → Act → World → Prop} (hgd : o.guard = none) (s x : Operand) (st : TypeId) (bytes : Nat) (z : Value)
    (hinfo : (Tryz.prog.info? t).map (fun i => (i.zero, i.size, i.bytes)) = some (some z, n, bytes)) (hst : Tryz.prog.underlying st = some (.slice t)) (hzs : z.cells.size = n) (hsz : 0 < n) (hby : bytes ≤ 100)
    (ho : o.op = .call { callee := .builtin .append, args := #[s, x], argTypes := #[st, st] })
    (B : Nat) (v : Value) (xs : List α) (y : α) (hs : a.eval s = v) (hown : FL t n enc w B v xs) (hcs : (enc y).length = n) (hone : ∀ u ∈ enc y, u.oneCell' = true)
    (hx : a.eval x = .slice (some ⟨w.heap.size, 0, none⟩) 1 1) (hlen : xs.length ≤ 1000000) (hB : B ≤ w.heap.size)
    (h : ∀ v' w', FL t n enc w' B v' (xs ++ [y]) → (w.alloc (.cells (enc y).toArray t)).grownBy w' v.ownBlock → wpList Tryz.prog ops Q rest (a.put o.dst v') w') :
    wpList Tryz.prog ops Q (o :: rest) a (w.alloc (.cells (enc y).toArray t)) := by
  obtain ⟨i, hi, hz, hsz', hby'⟩ := info_parts hinfo
  have hbytes : (xs.length + 1) * bytes ≤ 140737488355328 := by
    have : (xs.length + 1) * bytes ≤ 1000001 * 100 := Nat.mul_le_mul (by omega) hby
    omega
  refine wpList_append_own _ hgd s x st ho B t i z n bytes hst hi hz hsz' hby' hzs hsz v xs.length _ hs (FL.alloc hown _) ⟨w.heap.size, 0, none⟩ 1 1 (enc y) hx (by rw [hcs, Nat.one_mul]) ?_ hone (by simp only [maxLen]; omega) hbytes (by simp; omega) ?_
  · intro j u hu
    rw [Addr.add_lit, World.cell?_alloc_new]
    simpa using hu
  · intro v' w' h1 h2 _
    exact h v' w' (FL.snoc h1) h2

end Go.Proofs.YtgegbgkokkdmpaaGreat
