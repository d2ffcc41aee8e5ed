/- A drawn library in memory, one of whose cells is changed in place. No conditions. -/
import Derived.Test.YtgegbgkokkdmpaaGreatQ15
import Derived.Test.YtgegbgkokkdmpaaGreatQ17

namespace Go.Proofs.YtgegbgkokkdmpaaGreat
open Go.RowKit

theorem apart_two {us : List Sl3} (h : Apart3 us) {i j : Nat} {u v : Sl3} (hi : us[i]? = some u) (hj : us[j]? = some v) (hne : i ≠ j) {b : Nat} (hu : blkOf u b) : ¬ blkOf v b := by
  unfold Apart3 at h
  rw [List.pairwise_iff_getElem] at h
  obtain ⟨hi1, rfl⟩ := List.getElem?_eq_some_iff.1 hi
  obtain ⟨hj1, rfl⟩ := List.getElem?_eq_some_iff.1 hj
  rcases Nat.lt_or_gt_of_ne hne with hlt | hgt
  · exact h i j hi1 hj1 hlt b hu
  · exact fun hv => h j i hj1 hi1 hgt b hv hu
theorem flat_set {α : Type} {n : Nat} {enc : α → List Value} (he : ∀ x, (enc x).length = n) (j : Nat) (u : Value) (hj : j < n) : ∀ (xs : List α) (k : Nat) (x y : α), xs[k]? = some x → enc y = (enc x).set j u → (xs.flatMap enc).set (k * n + j) u = (xs.set k y).flatMap enc
  | [], k, x, y, h, _ => by simp at h
  | z :: xs, 0, x, y, h, e => by
    simp only [List.getElem?_cons_zero, Option.some.injEq] at h
    subst h
    rw [List.set_cons_zero, List.flatMap_cons, List.flatMap_cons, Nat.zero_mul, Nat.zero_add, List.set_append_left _ _ (by rw [he]; exact hj), e]
  | z :: xs, k + 1, x, y, h, e => by
    have ih := flat_set he j u hj xs k x y (by simpa using h) e
    rw [List.set_cons_succ, List.flatMap_cons, List.flatMap_cons, List.set_append_right _ _ (by rw [he, Nat.succ_mul]; omega), he]
    rw [show (k + 1) * n + j - n = k * n + j by rw [Nat.succ_mul]; omega, ih]
theorem map_set_snd {ps : List (CellD × Sl3)} {k : Nat} {y : CellD × Sl3} : (ps.set k y).map Prod.snd = (ps.map Prod.snd).set k y.2 := List.map_set
theorem own_not {w : World} {B B' s n : Nat} {e t : TypeId} {v : Value} {xs : List Value} (hr : w.ownsRow B e s v n xs) {s' n' : Nat} {v' : Value} {xs' : List Value} (hb : w.ownsRow B' t s' v' n' xs') (ht : e ≠ t) : ∀ b, v.ownBlock = some b → v'.ownBlock ≠ some b := by
  intro b h1 h2
  rcases own_types hr hb ht with h | h
  · rw [h1] at h; cases h
  · exact h (h1.trans h2.symm)
theorem C3.notrow {w : World} {B B' s n : Nat} {u : Sl3} {c : CellD} {v : Value} {xs : List Value} (h : C3 w B u c) (hr : w.ownsRow B' 67 s v n xs) : ∀ b, blkOf u b → v.ownBlock ≠ some b := by
  rintro b (hb | hb | hb)
  · exact own_not h.s hr (by decide) b hb
  · exact own_not h.l hr (by decide) b hb
  · exact own_not h.i hr (by decide) b hb
/-- A field of cell k is stored. -/
theorem CW.store {w : World} {B g n c : Nat} {ps : List (CellD × Sl3)} (h : CW w B (.slice (some ⟨g, 0, none⟩) n c) ps) {k : Nat} {p : CellD × Sl3} (hk : ps[k]? = some p) (j : Nat) (hj : j < 4) (x : Value) (y : CellD × Sl3)
    (hy : cellV y = (cellV p).set j x) (hC : C3 w B y.2 y.1) : CW (w.setCell ⟨g, k * 4 + j, none⟩ x) B (.slice (some ⟨g, 0, none⟩) n c) (ps.set k y) := by
  have hrow : ∀ (q : CellD × Sl3), C3 w B q.2 q.1 → ∀ b, blkOf q.2 b → (some g : Option Nat) ≠ some b := fun q hq => C3.notrow hq h.own
  obtain ⟨_, _, e, _, _⟩ := h.own.form
  simp only [Value.slice.injEq] at e
  obtain ⟨_, rfl, _⟩ := e
  refine ⟨?_, fun i q hq => ?_⟩
  · have h1 := (World.ownsRow.stored h.own (k * 4 + j) x).1
    rw [flat_set cellV_len j x hj ps k p y hk hy] at h1
    unfold FL
    rw [List.length_set]
    exact h1
  · by_cases hik : i = k
    · subst hik
      rw [List.getElem?_set_self (List.getElem?_eq_some_iff.1 hk).1, Option.some.injEq] at hq
      subst hq
      exact hC.kept (grownBy_put w g _ x) (hrow _ hC)
    · rw [List.getElem?_set_ne (by omega)] at hq
      have h2 := h.each i q hq
      exact h2.kept (grownBy_put w g _ x) (hrow _ h2)
/-- One of the three lists of cell k grows (the list of cells itself being left alone). -/
theorem CW.others {w W : World} {B g n c s m : Nat} {e : TypeId} {v : Value} {xs : List Value} {ps : List (CellD × Sl3)} (h : CW w B (.slice (some ⟨g, 0, none⟩) n c) ps) (ha : Apart3 (ps.map Prod.snd)) {k : Nat} {p : CellD × Sl3} (hk : ps[k]? = some p)
    (hv : ∀ b, v.ownBlock = some b → blkOf p.2 b) (hr : w.ownsRow B e s v m xs) (he : 67 ≠ e) (hg : w.grownBy W v.ownBlock) :
    FL 67 4 cellV W B (.slice (some ⟨g, 0, none⟩) n c) ps ∧ ∀ i q, i ≠ k → ps[i]? = some q → C3 W B q.2 q.1 := by
  refine ⟨World.ownsRow.kept h.own hg (own_types h.own hr he), fun i q hi hq => (h.each i q hq).kept hg fun b hb hvb => ?_⟩
  exact apart_two ha (i := i) (j := k) (u := q.2) (v := p.2) (by rw [List.getElem?_map, hq]; rfl) (by rw [List.getElem?_map, hk]; rfl) hi hb (hv b hvb)
/-- .. and the grown list is stored. -/
theorem CW.grow {w W : World} {B g n c s m : Nat} {e : TypeId} {v : Value} {xs : List Value} {ps : List (CellD × Sl3)} (h : CW w B (.slice (some ⟨g, 0, none⟩) n c) ps) (ha : Apart3 (ps.map Prod.snd)) {k : Nat} {p : CellD × Sl3} (hk : ps[k]? = some p)
    (hv : ∀ b, v.ownBlock = some b → blkOf p.2 b) (hr : w.ownsRow B e s v m xs) (he : 67 ≠ e) (hg : w.grownBy W v.ownBlock) (j : Nat) (hj : j < 4) (x : Value) (y : CellD × Sl3) (hy : cellV y = (cellV p).set j x) (hC : C3 W B y.2 y.1)
    (hx : x.ownBlock = v.ownBlock ∨ x.ownBlock = some w.heap.size) (hu : ∀ b, blkOf y.2 b → blkOf p.2 b ∨ x.ownBlock = some b) :
    CW (W.setCell ⟨g, k * 4 + j, none⟩ x) B (.slice (some ⟨g, 0, none⟩) n c) (ps.set k y) ∧ Apart3 ((ps.set k y).map Prod.snd) := by
  obtain ⟨h1, h2⟩ := h.others ha hk hv hr he hg
  have hrow : ∀ (q : CellD × Sl3), C3 W B q.2 q.1 → ∀ b, blkOf q.2 b → (some g : Option Nat) ≠ some b := fun q hq => C3.notrow hq h1
  obtain ⟨_, _, e, _, _⟩ := h1.form
  simp only [Value.slice.injEq] at e
  obtain ⟨_, rfl, _⟩ := e
  have hkl := (List.getElem?_eq_some_iff.1 hk).1
  refine ⟨⟨?_, fun i q hq => ?_⟩, ?_⟩
  · have h3 := (World.ownsRow.stored h1 (k * 4 + j) x).1
    rw [flat_set cellV_len j x hj ps k p y hk hy] at h3
    unfold FL
    rw [List.length_set]
    exact h3
  · by_cases hik : i = k
    · subst hik
      rw [List.getElem?_set_self hkl, Option.some.injEq] at hq
      subst hq
      exact hC.kept (grownBy_put W g _ x) (hrow _ hC)
    · rw [List.getElem?_set_ne (by omega)] at hq
      have h4 := h2 i q hik hq
      exact h4.kept (grownBy_put W g _ x) (hrow _ h4)
  · unfold Apart3
    rw [map_set_snd]
    have key : ∀ i q, i ≠ k → ps[i]? = some q → ∀ b, blkOf q.2 b → ¬ blkOf y.2 b := by
      intro i q hi hq b hb hyb
      have hpq : ¬ blkOf p.2 b := apart_two ha (i := i) (j := k) (u := q.2) (v := p.2) (by rw [List.getElem?_map, hq]; rfl) (by rw [List.getElem?_map, hk]; rfl) hi hb
      rcases hu b hyb with h5 | h5
      · exact hpq h5
      · rcases hx with h6 | h6
        · exact hpq (hv b (h6.symm.trans h5))
        · rw [h6] at h5
          obtain rfl := Option.some.inj h5
          exact Nat.lt_irrefl _ ((h.each i q hq).blk hb).2
    refine List.pairwise_iff_getElem.2 fun i j hi hj hij => ?_
    simp only [List.length_set, List.length_map] at hi hj
    intro b hb hb2
    rw [List.getElem_set] at hb hb2
    by_cases hik : k = i
    · rw [if_pos hik] at hb
      rw [if_neg (by omega), List.getElem_map] at hb2
      exact key j ps[j] (by omega) (List.getElem?_eq_getElem hj) b hb2 hb
    · rw [if_neg hik, List.getElem_map] at hb
      by_cases hjk : k = j
      · rw [if_pos hjk] at hb2
        exact key i ps[i] (by omega) (List.getElem?_eq_getElem hi) b hb hb2
      · rw [if_neg hjk, List.getElem_map] at hb2
        exact apart_two ha (i := i) (j := j) (u := ps[i].2) (v := ps[j].2) (by rw [List.getElem?_map, List.getElem?_eq_getElem hi]; rfl) (by rw [List.getElem?_map, List.getElem?_eq_getElem hj]; rfl) (by omega) hb hb2

section
variable {w W W' : World} {g lb q n c : Nat} {ps : List (CellD × Sl3)} {k : Nat} {p : CellD × Sl3}
theorem DO.block (h : DO w W g lb (.slice (some ⟨q, 0, none⟩) n c) ps) : w.heap.size ≤ q ∧ q < W.heap.size ∧ q ≠ w.heap.size ∧ q ≠ lb := by
  refine ⟨h.cw.own.base.1, h.cw.own.base.2, fun e => ?_, fun e => ?_⟩
  · exact not_row h.cw.own h.res (by decide) (by rw [e]; rfl)
  · exact not_row h.cw.own h.lib (by decide) (by rw [e]; rfl)
theorem DO.putx (h : DO w W g lb (.slice (some ⟨q, 0, none⟩) n c) ps) {o : Nat} {x : Value} {ps' : List (CellD × Sl3)} (hc : CW (W.setCell ⟨q, o, none⟩ x) w.heap.size (.slice (some ⟨q, 0, none⟩) n c) ps') (ha : Apart3 (ps'.map Prod.snd)) :
    DO w (W.setCell ⟨q, o, none⟩ x) g lb (.slice (some ⟨q, 0, none⟩) n c) ps' := by
  obtain ⟨b1, b2, b3, b4⟩ := h.block
  have hgw := h.hg
  obtain ⟨hd2, hg2⟩ := dg_set ⟨h.dice, h.gro⟩ (show g < q by omega) b1 o x
  have hput := grownBy_put W q o x
  exact ⟨hd2, h.res.grown hput (by simpa using Ne.symm b3), h.lib.grown hput (by simpa using Ne.symm b4), hc, ha, hg2, hgw, h.h1⟩
/-- A row of the cells' lists grows. -/
theorem DO.core {e : TypeId} {s m : Nat} {v : Value} {xs : List Value} {cv : Value} (h : DO w W g lb cv ps) (hr : W.ownsRow w.heap.size e s v m xs) (he : 26 ≠ e) (hg : W.grownBy W' v.ownBlock) :
    Dice W' g ∧ w.grownBy W' (some g) ∧ Bk W' w.heap.size 26 #[.slice none 0 0] ∧ Bk W' lb 26 #[cv] := by
  have hgw := h.hg
  have hrow : ∀ q, v.ownBlock = some q → w.heap.size ≤ q := fun q hq => (World.ownsRow.lt hr q hq).1
  exact ⟨h.dice.grown hg fun q hq => by have := hrow q hq; omega, only_above h.gro (grown_below hg hrow h.gro.size), h.res.grown hg (not_row hr h.res he), h.lib.grown hg (not_row hr h.lib he)⟩
/-- A list of cell k grows and is stored. -/
theorem DO.grow {e : TypeId} {s m : Nat} {v : Value} {xs : List Value} (h : DO w W g lb (.slice (some ⟨q, 0, none⟩) n c) ps) (hk : ps[k]? = some p) (hv : ∀ b, v.ownBlock = some b → blkOf p.2 b) (hr : W.ownsRow w.heap.size e s v m xs) (he : 67 ≠ e ∧ 26 ≠ e)
    (hg : W.grownBy W' v.ownBlock) (j : Nat) (hj : j < 4) (x : Value) (y : CellD × Sl3) (hy : cellV y = (cellV p).set j x) (hC : C3 W' w.heap.size y.2 y.1)
    (hx : x.ownBlock = v.ownBlock ∨ x.ownBlock = some W.heap.size) (hu : ∀ b, blkOf y.2 b → blkOf p.2 b ∨ x.ownBlock = some b) :
    DO w (W'.setCell ⟨q, k * 4 + j, none⟩ x) g lb (.slice (some ⟨q, 0, none⟩) n c) (ps.set k y) := by
  obtain ⟨c1, c2, c3, c4⟩ := h.core hr he.2 hg
  obtain ⟨h1, h2⟩ := CW.grow h.cw h.apart hk hv hr he.1 hg j hj x y hy hC hx hu
  have hgw := h.hg
  have b1 := h.cw.own.base.1
  obtain ⟨_, _, b3, b4⟩ := h.block
  obtain ⟨hd2, hg2⟩ := dg_set ⟨c1, c2⟩ (show g < q by omega) b1 (k * 4 + j) x
  have hput := grownBy_put W' q (k * 4 + j) x
  exact ⟨hd2, c3.grown hput (by simpa using Ne.symm b3), c4.grown hput (by simpa using Ne.symm b4), h1, h2, hg2, hgw, h.h1⟩
/-- The name of cell k is stored. -/
theorem DO.name (h : DO w W g lb (.slice (some ⟨q, 0, none⟩) n c) ps) (hk : ps[k]? = some p) (nm : ByteArray) :
    DO w (W.setCell ⟨q, k * 4, none⟩ (.string nm)) g lb (.slice (some ⟨q, 0, none⟩) n c) (ps.set k ({ p.1 with name := nm }, p.2)) := by
  have h1 := CW.store h.cw hk 0 (by decide) (.string nm) ({ p.1 with name := nm }, p.2) rfl ⟨(h.cw.each k p hk).s, (h.cw.each k p hk).l, (h.cw.each k p hk).i⟩
  rw [Nat.add_zero] at h1
  refine h.putx h1 ?_
  rw [map_set_snd]
  have : (ps.map Prod.snd).set k p.2 = ps.map Prod.snd := by
    apply List.ext_getElem?
    intro i
    by_cases hi : k = i
    · subst hi
      rw [List.getElem?_set_self (by rw [List.length_map]; exact (List.getElem?_eq_some_iff.1 hk).1), List.getElem?_map, hk]
      rfl
    · rw [List.getElem?_set_ne hi]
  rw [this]
  exact h.apart
theorem DO.cells (h : DO w W g lb (.slice (some ⟨q, 0, none⟩) n c) ps) (hk : ps[k]? = some p) : W.cell? ⟨q, k * 4, none⟩ = some (.string p.1.name) ∧ W.cell? ⟨q, k * 4 + 1, none⟩ = some p.2.s ∧ W.cell? ⟨q, k * 4 + 2, none⟩ = some p.2.l ∧ W.cell? ⟨q, k * 4 + 3, none⟩ = some p.2.i := by
  obtain ⟨g', p', e, hp', -, h0, h1, h2, h3, -⟩ := h.cw.elem (List.getElem?_eq_some_iff.1 hk).1
  simp only [Option.some.injEq, Addr.mk.injEq, and_true] at e
  subst e
  obtain rfl : p = p' := Option.some.inj (hk.symm.trans hp')
  exact ⟨h0, h1, h2, h3⟩
end
/-- A block of the call's own is stored into. -/
theorem DO.other {w W : World} {g lb b : Nat} {cv : Value} {ps : List (CellD × Sl3)} (h : DO w W g lb cv ps) (hb : w.heap.size < b) (hlb : lb ≠ b) (hcv : cv.ownBlock ≠ some b) (hps : ∀ p ∈ ps, ∀ x, blkOf p.2 x → x ≠ b) (i : Nat) (x : Value) : DO w (W.setCell ⟨b, i, none⟩ x) g lb cv ps := by
  have hgw := h.hg
  obtain ⟨hd2, hg2⟩ := dg_set ⟨h.dice, h.gro⟩ (show g < b by omega) (show w.heap.size ≤ b by omega) i x
  have hput := grownBy_put W b i x
  exact ⟨hd2, h.res.grown hput (by simp; omega), h.lib.grown hput (by simpa using hlb), h.cw.kept hput (.inr hcv) (fun p hp y hy e => hps p hp y hy (by simpa using e.symm)), h.apart, hg2, hgw, h.h1⟩
/-- What a store asks, behind an append. -/
theorem DO.after {w W W' : World} {g lb q n c s m : Nat} {e : TypeId} {v : Value} {xs : List Value} {ps : List (CellD × Sl3)} {k : Nat} {p : CellD × Sl3} (h : DO w W g lb (.slice (some ⟨q, 0, none⟩) n c) ps) (hk : ps[k]? = some p) (hr : W.ownsRow w.heap.size e s v m xs) (he : 67 ≠ e) (hg : W.grownBy W' v.ownBlock) (j : Nat) (u : Value) (hu : (cellV p)[j]? = some u) :
    W'.cell? ⟨q, k * 4 + j, none⟩ = some u ∧ W'.frozen? ⟨q, k * 4 + j, none⟩ = false := by
  have h1 : FL 67 4 cellV W' w.heap.size (.slice (some ⟨q, 0, none⟩) n c) ps := World.ownsRow.kept h.cw.own hg (own_types h.cw.own hr he)
  obtain ⟨g', p', hq, hp', -, -, hc⟩ := h1.elem cellV_len (List.getElem?_eq_some_iff.1 hk).1
  simp only [Option.some.injEq, Addr.mk.injEq, and_true] at hq
  subst hq
  obtain rfl : p = p' := Option.some.inj (hk.symm.trans hp')
  exact ⟨hc j u hu, h1.frozen _⟩
theorem far_of {w W : World} {g lb : Nat} {cv : Value} {ps : List (CellD × Sl3)} (h : DO w W g lb cv ps) : (∀ p ∈ ps, ∀ x, blkOf p.2 x → x ≠ W.heap.size) ∧ lb ≠ W.heap.size ∧ cv.ownBlock ≠ some W.heap.size := by
  refine ⟨fun p hp x hx => ?_, ?_, fun e => ?_⟩
  · obtain ⟨k, hk⟩ := List.getElem?_of_mem hp
    have := ((h.cw.each k p hk).blk hx).2
    omega
  · have := h.lib.lt
    omega
  · have := (World.ownsRow.lt h.cw.own _ e).2
    omega
abbrev names4 : Array Value := #[.string ⟨#[]⟩, .string ⟨#[65]⟩, .string ⟨#[97, 98, 99, 100, 101, 102, 103, 104, 105]⟩, .string ⟨#[97, 32, 98]⟩]
theorem names4_get (k : Nat) (h : k < 4) : ∃ x : ByteArray, names4[k]? = some (.string x) ∧ x.size ≤ 20 := by
  have hk : k = 0 ∨ k = 1 ∨ k = 2 ∨ k = 3 := by omega
  rcases hk with rfl | rfl | rfl | rfl <;> exact ⟨_, rfl, by decide⟩
/-- Bounds on what a drawn cell holds. -/
structure Sm (c : CellD) : Prop where
  n : c.name.size ≤ 20
  l : ∀ l ∈ c.labels, l.name.size ≤ 20
  len : c.shapes.length ≤ 40 ∧ c.labels.length ≤ 40 ∧ c.insts.length ≤ 40
theorem sm_set {ps : List (CellD × Sl3)} {k : Nat} {y : CellD × Sl3} (h : ∀ p ∈ ps, Sm p.1) (hy : Sm y.1) : ∀ p ∈ ps.set k y, Sm p.1 := fun p hp => (List.mem_or_eq_of_mem_set hp).elim (h p) fun e => e ▸ hy
theorem CellV.sm {c : CellD} {k : Nat} (h : CellV c k) (hl : c.shapes.length ≤ 3 ∧ c.labels.length ≤ 3 ∧ c.insts.length ≤ 3) : Sm c := by
  obtain ⟨r, hr, -, h3⟩ := h.name
  refine ⟨?_, fun l hx => ?_, by omega, by omega, by omega⟩
  · have := congrArg List.length hr
    simp only [List.length_cons, Array.length_toList, ByteArray.size_data] at this
    omega
  · have := h.l l hx
    unfold labelB nameB at this
    simp only [Bool.and_eq_true, decide_eq_true_eq] at this
    omega
theorem Sm.nm {c : CellD} (h : Sm c) : NmOk c := ⟨by unfold maxLen; have := h.n; omega, fun l hl => by unfold maxLen; have := h.l l hl; omega⟩

end Go.Proofs.YtgegbgkokkdmpaaGreat
