/- A library that came in, opened. No conditions. Contracts: the laws' helpers on shapes, labels, instances, cells and libraries: what is left, copies, comparisons of equal ones. Conditions: few elements. Contracts: the laws' copies of cells and libraries, comparisons of equal ones. Conditions: few elements. A list of cells in memory stays, grows; append of a record. No conditions. Contract: l01Next, of one or more. Condition: a well-formed source. -/
import Derived.Test.YtgegbgkokkdmpaaGreatQ09
import Derived.Test.YtgegbgkokkdmpaaGreatQ10
import Derived.StillTailTactics
import Derived.Deep.RegionHeld3
import Derived.Maps.AppendAt
import Derived.Test.YtgegbgkokkdmpaaGreatQ08

namespace Go.Proofs.YtgegbgkokkdmpaaGreat
open Go.RowKit Go.ChangeShapes Go.WideShapes Go.Deep Go.Joins

section
variable {H : Type} {enc : TypeId × Value → H} {w : World} {base : Nat} {held : Bool} {fuel : Nat} {cs : List Value} {x : DataW H × List MemPlace}

theorem parts_of {t : TypeId} {fs : Array Field} (he : Tryz.prog.underlying t = some (.struct fs)) (h : DataW.trod enc Tryz.prog w base (fun _ => true) held fuel t cs = some x) :
    cs.length = Tryz.prog.cellsOf t ∧ ∀ (i : Nat) (f : Field), fs[i]? = some f → ∃ n y, DataW.trod enc Tryz.prog w base (fun _ => true) held n f.type ((cs.drop f.offset).take (Tryz.prog.cellsOf f.type)) = some y := by
  obtain ⟨xs, n, _, _, hlen, hxl, hf⟩ := DataW.trod_struct he h
  refine ⟨hlen, fun i f hi => ?_⟩
  have hlt : i < xs.length := by
    rw [hxl]
    exact (Array.getElem?_eq_some_iff.1 hi).1
  exact ⟨n, xs[i], (hf i f hi).trans (List.getElem?_eq_getElem hlt)⟩
theorem part_of {t : TypeId} {fs : Array Field} (he : Tryz.prog.underlying t = some (.struct fs)) (h : DataW.trod enc Tryz.prog w base (fun _ => true) held fuel t cs = some x) (i : Nat) (ty : TypeId) (off n : Nat)
    (hf : fs[i]?.map (fun f => (f.type, f.offset)) = some (ty, off)) (hc : Tryz.prog.cellsOf ty = n) : ∃ k y, DataW.trod enc Tryz.prog w base (fun _ => true) held k ty ((cs.drop off).take n) = some y := by
  obtain ⟨f, h1, h2⟩ := Option.map_eq_some_iff.1 hf
  simp only [Prod.mk.injEq] at h2
  obtain ⟨rfl, rfl⟩ := h2
  subst hc
  exact (parts_of he h).2 i f h1
theorem cI : Tryz.prog.cellsOf 2 = 1 := by kernel_rfl
theorem cS : Tryz.prog.cellsOf 9 = 1 := by kernel_rfl
/-- A list of records, from its cell. -/
theorem list_cells {α : Type} {t e : TypeId} {n : Nat} (enc' : α → List Value) (Q : α → Prop) (ht : Tryz.prog.underlying t = some (.slice e)) (hC : Tryz.prog.cellsOf e = n) (hn : 0 < n) (hlen : ∀ a, (enc' a).length = n)
    (hel : ∀ {fuel : Nat} {cs : List Value} {x : DataW H × List MemPlace}, DataW.trod enc Tryz.prog w base (fun _ => true) held fuel e cs = some x → ∃ a : α, cs = enc' a ∧ Q a)
    (h : DataW.trod enc Tryz.prog w base (fun _ => true) held fuel t cs = some x) : ∃ A m c xs, cs = [.slice A m c] ∧ m ≤ c ∧ c ≤ maxLen ∧ AL n enc' w A m xs ∧ ∀ a ∈ xs, Q a := by
  rcases open_slice ht h with ⟨hcs, _⟩ | ⟨p, l, c, m, k, D, Pl, hcs, _, hl, hm, hmm, _, hi⟩
  · exact ⟨none, 0, 0, [], hcs, Nat.le_refl _, by simp [maxLen], ⟨rfl, fun k x hx => by simp at hx⟩, by simp⟩
  · simp only [if_true] at hmm
    subst hmm
    have H : ∀ i, i < l → ∃ q : α, Q q ∧ ∀ (j : Nat) (u : Value), (enc' q)[j]? = some u → w.cell? (p.add (i * n + j)) = some u := by
      intro i hi'
      obtain ⟨cs', hc, htr⟩ := hi i (by omega)
      obtain ⟨q, hq, hQ⟩ := hel htr
      rw [hC] at hc
      obtain ⟨_, hcl, hat⟩ := World.cells?_some hc
      refine ⟨q, hQ, fun j u hu => ?_⟩
      have hj : j < n := by rw [← hlen q]; exact (List.getElem?_eq_some_iff.1 hu).1
      rw [← add_add, hat j hj, hq]
      exact hu
    obtain ⟨rs, hrl, hrs⟩ := list_of _ H
    refine ⟨some p, l, _, rs, hcs, hl, hm, ⟨hrl, fun k a ha => ?_⟩, fun a ha => ?_⟩
    · have hc := (hrs k a ha).2
      obtain ⟨b, off, spot⟩ := p
      have hcell : ∀ k' a', rs[k']? = some a' → ∃ u, w.cell? (Addr.add ⟨b, off, spot⟩ (k' * n)) = some u := fun k' a' ha' => by
        have h0 : 0 < (enc' a').length := by rw [hlen]; exact hn
        exact ⟨_, (hrs k' a' ha').2 0 _ (List.getElem?_eq_getElem h0)⟩
      have hspot : spot = none := by
        have hk' := (List.getElem?_eq_some_iff.1 ha).1
        obtain ⟨u, hu⟩ := hcell 0 _ (List.getElem?_eq_getElem (show 0 < rs.length by omega))
        simpa [Addr.add] using World.cell?_spot hu
      subst hspot
      obtain ⟨u, hu⟩ := hcell k a ha
      rw [Addr.add_lit] at hu
      refine ⟨b, off, rfl, World.block_lt_of_cell? _ _ hu, fun j v hv => ?_⟩
      have := hc j v hv
      rw [Addr.add_lit, ← Nat.add_assoc] at this
      exact this
    · obtain ⟨i, hi', hq'⟩ := List.mem_iff_getElem.1 ha
      exact (hrs i a (by rw [List.getElem?_eq_getElem hi', hq'])).1

/-- The names in it are no longer than a string may be. -/
def NamesOk (cs : List CellD) : Prop := ∀ c ∈ cs, c.name.size ≤ maxLen ∧ ∀ l ∈ c.labels, l.name.size ≤ maxLen

set_option maxRecDepth 100000 in
theorem struct_val {t : TypeId} {fs : Array Field} {r : Go.Reach} {b0 : Nat} {v : Value} (ht : Tryz.prog.underlying t = some (.struct fs)) (hv : Value.okWide Tryz.prog w r b0 t v) : ∃ cs, v = .agg cs ∧ cs.size = Tryz.prog.cellsOf t := okWide_struct ht hv
end
end Go.Proofs.YtgegbgkokkdmpaaGreat

namespace Go.Proofs.YtgegbgkokkdmpaaGreat
open Go.RowKit

theorem bcell {W w1 : World} (hb : Below W.heap.size W w1) : (∀ b o, b < W.heap.size → w1.cell? ⟨b, o, none⟩ = W.cell? ⟨b, o, none⟩) ∧ (∀ b o, b < W.heap.size → w1.frozen? ⟨b, o, none⟩ = W.frozen? ⟨b, o, none⟩) :=
  ⟨fun b o h => hb.cell (p := ⟨b, o, none⟩) h, fun b o h => hb.frozen (p := ⟨b, o, none⟩) h⟩

/-! ## What is left -/
def szV (left : Int) (total : Nat) : Int := if (total : Int) ≤ left then left - total else -1
theorem szV_yes {left : Int} {total : Nat} (h : (total : Int) ≤ left) : szV left total = left - total := if_pos h
theorem szV_no {left : Int} {total : Nat} (h : ¬ (total : Int) ≤ left) : szV left total = -1 := if_neg h
def sumN {α : Type} (f : α → Nat) (xs : List α) : Nat := (xs.map f).sum
theorem sumN_succ {α : Type} (f : α → Nat) {xs : List α} {k : Nat} {x : α} (h : xs[k]? = some x) : sumN f (xs.take (k + 1)) = sumN f (xs.take k) + f x := by
  unfold sumN
  rw [List.take_add_one, h]
  simp
theorem sumN_le {α : Type} (f : α → Nat) (xs : List α) (k : Nat) : sumN f (xs.take k) ≤ sumN f xs := by
  have e : sumN f xs = sumN f (xs.take k) + sumN f (xs.drop k) := by
    unfold sumN
    rw [← List.sum_append, ← List.map_append, List.take_append_drop]
  omega
def labTot (ls : List LabelD) : Nat := ls.length + sumN (fun l => l.name.size) ls
def cellTot (c : CellD) : Nat := c.name.size + c.shapes.length + labTot c.labels + c.insts.length
def libTot (cs : List CellD) : Nat := cs.length + sumN cellTot cs


theorem flat_zeros {α : Type} {enc : α → List Value} (z : α) (cs : Array Value) (hz : enc z = cs.toList) (hpos : 0 < cs.size) (he : ∀ x, (enc x).length = cs.size) (n : Nat) : (madeCells cs (n * cs.size)).toList = (List.replicate n z).flatMap enc := by
  apply List.ext_getElem?
  intro j
  simp only [madeCells, Array.toList_map, Array.toList_range, List.getElem?_map]
  by_cases hj : j < n * cs.size
  · rw [List.getElem?_range hj]
    have hk : j / cs.size < n := Nat.div_lt_of_lt_mul (by rw [Nat.mul_comm]; exact hj)
    have hm : j % cs.size < cs.size := Nat.mod_lt _ hpos
    have h1 : (List.replicate n z)[j / cs.size]? = some z := by rw [List.getElem?_replicate, if_pos hk]
    have h2 : (enc z)[j % cs.size]? = some cs[j % cs.size] := by rw [hz, Array.getElem?_toList, Array.getElem?_eq_getElem hm]
    have := flat_get he _ _ _ h1 _ _ h2
    rw [Nat.mul_comm, Nat.div_add_mod] at this
    rw [this]
    simp [hm]
  · rw [List.getElem?_eq_none (by simp; omega), List.getElem?_eq_none (by rw [flat_len he, List.length_replicate]; omega)]
    rfl
/-- The first k elements are laid. -/
def laidG {α : Type} (z : α) (xs : List α) (k : Nat) : List α := xs.take k ++ List.replicate (xs.length - k) z
theorem laidG_length {α : Type} (z : α) (xs : List α) (k : Nat) (h : k ≤ xs.length) : (laidG z xs k).length = xs.length := by simp [laidG]; omega
theorem laidG_step {α : Type} (z : α) {xs : List α} {k : Nat} {r : α} (h : xs[k]? = some r) : (laidG z xs k).set k r = laidG z xs (k + 1) := by
  have hk : k < xs.length := (List.getElem?_eq_some_iff.1 h).1
  have hl : (xs.take k).length = k := by rw [List.length_take]; omega
  have e : xs.length - k = (xs.length - (k + 1)) + 1 := by omega
  unfold laidG
  rw [List.set_append_right _ _ (by omega), hl, Nat.sub_self, e, List.replicate_succ, List.set_cons_zero, List.take_add_one, h, List.append_assoc]
  rfl
theorem laidG_end {α : Type} (z : α) (xs : List α) : laidG z xs xs.length = xs := by simp [laidG]
theorem laidG_zero {α : Type} (z : α) (xs : List α) : laidG z xs 0 = List.replicate xs.length z := by simp [laidG]


theorem infoShape : (Tryz.prog.info? 70).map (fun i => (i.zero, i.size, i.bytes)) = some (some (.agg #[.int .i64 0, .int .i64 0, .int .i64 0, .int .i64 0, .int .i64 0]), 5, 40) := by kernel_rfl
theorem infoLabel : (Tryz.prog.info? 121).map (fun i => (i.zero, i.size, i.bytes)) = some (some (.agg #[.int .i64 0, .int .i64 0, .int .i64 0, .string ⟨#[]⟩]), 4, 40) := by kernel_rfl
theorem infoInstance : (Tryz.prog.info? 74).map (fun i => (i.zero, i.size, i.bytes)) = some (some (.agg #[.int .i64 0, .int .i64 0, .int .i64 0, .int .i64 0, .int .i64 0, .int .i64 0, .int .i64 0, .int .i64 0]), 8, 64) := by kernel_rfl
end Go.Proofs.YtgegbgkokkdmpaaGreat

namespace Go.Proofs.YtgegbgkokkdmpaaGreat
open Go.RowKit

theorem FL.far {α : Type} {t : TypeId} {n : Nat} {enc : α → List Value} {w : World} {B : Nat} {v : Value} {xs : List α} (h : FL t n enc w B v xs) {p : Addr} (hp : p.block < B) (u : Value) : FL t n enc (w.setCell p u) B v xs :=
  own_other h (fun e => by have := (h.lt _ e).1; omega) u
theorem C3.far {w : World} {B : Nat} {u : Sl3} {c : CellD} (h : C3 w B u c) {p : Addr} (hp : p.block < B) (x : Value) : C3 (w.setCell p x) B u c := ⟨h.s.far hp x, h.l.far hp x, h.i.far hp x⟩

theorem bcell3 {W w1 : World} {n : Nat} (hb : Below W.heap.size W w1) (hn : n ≤ W.heap.size) : (∀ b o, b < n → w1.cell? ⟨b, o, none⟩ = W.cell? ⟨b, o, none⟩) ∧ (∀ b o, b < n → w1.frozen? ⟨b, o, none⟩ = W.frozen? ⟨b, o, none⟩) :=
  ⟨fun b o h => hb.cell (p := ⟨b, o, none⟩) (Nat.lt_of_lt_of_le h hn), fun b o h => hb.frozen (p := ⟨b, o, none⟩) (Nat.lt_of_lt_of_le h hn)⟩
theorem FL.out5 {α : Type} {t : TypeId} {n : Nat} {enc : α → List Value} {w : World} {B N : Nat} {v : Value} {xs : List α} (h : FL t n enc w B v xs) (hB : N + 3 ≤ B) (a b c d e : Value) :
    FL t n enc (((((w.setCell ⟨N + 1 + 1, 3, none⟩ a).setCell ⟨N + 1, 0, none⟩ b).setCell ⟨N + 1, 1, none⟩ c).setCell ⟨N + 1, 2, none⟩ d).setCell ⟨N + 1, 3, none⟩ e) N v xs :=
  (((((h.far (p := ⟨N + 1 + 1, 3, none⟩) (by dsimp only; omega) a).far (p := ⟨N + 1, 0, none⟩) (by dsimp only; omega) b).far (p := ⟨N + 1, 1, none⟩) (by dsimp only; omega) c).far (p := ⟨N + 1, 2, none⟩) (by dsimp only; omega) d).far (p := ⟨N + 1, 3, none⟩) (by dsimp only; omega) e).less (by omega)
theorem below_out5 {w u : World} {N : Nat} (h : Below N w u) (a b c d e : Value) :
    Below N w (((((u.setCell ⟨N + 1 + 1, 3, none⟩ a).setCell ⟨N + 1, 0, none⟩ b).setCell ⟨N + 1, 1, none⟩ c).setCell ⟨N + 1, 2, none⟩ d).setCell ⟨N + 1, 3, none⟩ e) :=
  ((((h.setCell (p := ⟨N + 1 + 1, 3, none⟩) (by dsimp only; omega) a).setCell (p := ⟨N + 1, 0, none⟩) (by dsimp only; omega) b).setCell (p := ⟨N + 1, 1, none⟩) (by dsimp only; omega) c).setCell (p := ⟨N + 1, 2, none⟩) (by dsimp only; omega) d).setCell (p := ⟨N + 1, 3, none⟩) (by dsimp only; omega) e
/-- A cell that was copied. -/
def IsCell (c : CellD) (w : World) (e : Ending) (w' : World) : Prop := ∃ u : Sl3, e = .returned (.agg #[.string c.name, u.s, u.l, u.i]) ∧ C3 w' w.heap.size u c ∧ Below w.heap.size w w'

theorem C3.put {w : World} {B g : Nat} {u : Sl3} {c : CellD} (us : List Value) (o : Nat) (h : C3 w B u c) (hg : g < B) : C3 (putW w g o us) B u c := by
  induction us generalizing w o with
  | nil => exact h
  | cons x us ih => exact ih (o + 1) (h.far (p := ⟨g, o, none⟩) hg x)
abbrev zeroP : CellD × Sl3 := (⟨⟨#[]⟩, [], [], []⟩, ⟨.slice none 0 0, .slice none 0 0, .slice none 0 0⟩)
theorem infoCell : (Tryz.prog.info? 67).map (fun i => (i.zero, i.size, i.bytes)) = some (some (.agg #[.string ⟨#[]⟩, .slice none 0 0, .slice none 0 0, .slice none 0 0]), 4, 88) := by kernel_rfl
theorem laid_set {α : Type} (qs : List α) (z p : α) (n : Nat) (h : qs.length < n) : (qs ++ List.replicate (n - qs.length) z).set qs.length p = (qs ++ [p]) ++ List.replicate (n - (qs ++ [p]).length) z := by
  have e : n - qs.length = (n - (qs ++ [p]).length) + 1 := by simp; omega
  rw [List.set_append_right _ _ (Nat.le_refl _), Nat.sub_self, e, List.replicate_succ, List.set_cons_zero, List.append_assoc]
  rfl
theorem cellTot_le {cs : List CellD} {k : Nat} {c : CellD} (h : cs[k]? = some c) (hT : libTot cs ≤ 1048576) : c.shapes.length ≤ 1048576 ∧ c.labels.length ≤ 1048576 ∧ c.insts.length ≤ 1048576 := by
  have h1 := sumN_succ cellTot h
  have h2 := sumN_le cellTot cs (k + 1)
  unfold libTot at hT
  have h3 : cellTot c = c.name.size + c.shapes.length + (c.labels.length + sumN (fun l => l.name.size) c.labels) + c.insts.length := rfl
  omega

/-- A library by value. -/
def LibV (w : World) (B : Nat) (v : Value) (cs : List CellD) : Prop := ∃ ps : List (CellD × Sl3), ps.map Prod.fst = cs ∧ CW w B v ps
theorem LibV.on {w w' : World} {B : Nat} {v : Value} {cs : List CellD} (h : LibV w B v cs) (hb : Below w.heap.size w w') : LibV w' B v cs := let ⟨ps, h1, h2⟩ := h; ⟨ps, h1, h2.on hb⟩
theorem LibV.less {w : World} {B B' : Nat} {v : Value} {cs : List CellD} (h : LibV w B v cs) (hB : B' ≤ B) : LibV w B' v cs := let ⟨ps, h1, h2⟩ := h; ⟨ps, h1, h2.less hB⟩
theorem LibV.form {w : World} {B : Nat} {v : Value} {cs : List CellD} (h : LibV w B v cs) : ∃ A cap, v = .slice A cs.length cap ∧ cs.length ≤ cap ∧ cap ≤ maxLen := by
  obtain ⟨ps, rfl, h2⟩ := h
  rw [List.length_map]
  exact h2.form
/-- The cell k of a library, in memory. -/
theorem LibV.elem {w : World} {B : Nat} {A : Option Addr} {m n k : Nat} {cs : List CellD} (h : LibV w B (.slice A m n) cs) (hk : k < cs.length) : ∃ (g : Nat) (c : CellD) (u : Sl3), A = some ⟨g, 0, none⟩ ∧ cs[k]? = some c ∧ g < w.heap.size ∧ w.cell? ⟨g, k * 4, none⟩ = some (.string c.name) ∧
    w.cell? ⟨g, k * 4 + 1, none⟩ = some u.s ∧ w.cell? ⟨g, k * 4 + 2, none⟩ = some u.l ∧ w.cell? ⟨g, k * 4 + 3, none⟩ = some u.i ∧ C3 w B u c := by
  obtain ⟨ps, rfl, h2⟩ := h
  obtain ⟨g, p, hA, hp, hg, c0, c1, c2, c3, h3⟩ := h2.elem (k := k) (by simpa using hk)
  exact ⟨g, p.1, p.2, hA, by rw [List.getElem?_map, hp]; rfl, hg, c0, c1, c2, c3, h3⟩
theorem CW.far {w : World} {B : Nat} {v : Value} {ps : List (CellD × Sl3)} (h : CW w B v ps) {p : Addr} (hp : p.block < B) (x : Value) : CW (w.setCell p x) B v ps := ⟨h.own.far hp x, fun k q hq => (h.each k q hq).far hp x⟩
theorem LibV.far {w : World} {B : Nat} {v : Value} {cs : List CellD} (h : LibV w B v cs) {p : Addr} (hp : p.block < B) (x : Value) : LibV (w.setCell p x) B v cs := let ⟨ps, h1, h2⟩ := h; ⟨ps, h1, h2.far hp x⟩

end Go.Proofs.YtgegbgkokkdmpaaGreat

namespace Go.Proofs.YtgegbgkokkdmpaaGreat
open Go.RowKit

def blkOf (u : Sl3) (b : Nat) : Prop := u.s.ownBlock = some b ∨ u.l.ownBlock = some b ∨ u.i.ownBlock = some b
def Apart3 (us : List Sl3) : Prop := us.Pairwise fun u v => ∀ b, blkOf u b → ¬ blkOf v b
theorem C3.blk {w : World} {B : Nat} {u : Sl3} {c : CellD} (h : C3 w B u c) {b : Nat} (hb : blkOf u b) : B ≤ b ∧ b < w.heap.size := by
  rcases hb with hb | hb | hb
  · exact World.ownsRow.lt h.s _ hb
  · exact World.ownsRow.lt h.l _ hb
  · exact World.ownsRow.lt h.i _ hb
theorem ne_row {v : Value} {row : Option Nat} (h : ∀ b, v.ownBlock = some b → row ≠ some b) : v.ownBlock = none ∨ v.ownBlock ≠ row := by
  cases e : v.ownBlock with
  | none => exact .inl rfl
  | some b => exact .inr fun h2 => h b e h2.symm
theorem C3.kept {w w' : World} {B : Nat} {u : Sl3} {c : CellD} {row : Option Nat} (h : C3 w B u c) (hg : w.grownBy w' row) (hne : ∀ b, blkOf u b → row ≠ some b) : C3 w' B u c :=
  ⟨World.ownsRow.kept h.s hg (ne_row fun b hb => hne b (.inl hb)), World.ownsRow.kept h.l hg (ne_row fun b hb => hne b (.inr (.inl hb))), World.ownsRow.kept h.i hg (ne_row fun b hb => hne b (.inr (.inr hb)))⟩
theorem grownBy_put (w : World) (g i : Nat) (u : Value) : w.grownBy (w.setCell ⟨g, i, none⟩ u) (some g) :=
  ⟨rfl, rfl, rfl, by simp [World.setCell], fun k _ hk => Below.heap_setCell _ _ _ _ (fun e => hk (by rw [e]))⟩
/-- A block of another type is none of a cell's. -/
theorem C3.other {w : World} {B : Nat} {u : Sl3} {c : CellD} (h : C3 w B u c) {g : Nat} {t : TypeId} {cs : Array Value} (hb : Bk w g t cs) (ht : t ≠ 70 ∧ t ≠ 121 ∧ t ≠ 74) : ∀ b, blkOf u b → (some g : Option Nat) ≠ some b := by
  intro b hu e
  simp only [Option.some.injEq] at e
  subst e
  have key : ∀ {e : TypeId} {s n : Nat} {v : Value} {xs : List Value}, w.ownsRow B e s v n xs → v.ownBlock = some g → t = e := by
    intro e s n v xs hr hv
    rcases hr.2 with ⟨rfl, _⟩ | ⟨g', cap, cur, rfl, _, hh, _⟩
    · simp [Value.ownBlock] at hv
    · simp [Value.ownBlock] at hv
      subst hv
      unfold Bk at hb
      rw [hb] at hh
      simp at hh
      exact hh.2
  rcases hu with hu | hu | hu
  · exact ht.1 (key h.s hu)
  · exact ht.2.1 (key h.l hu)
  · exact ht.2.2 (key h.i hu)
theorem own_otherT {w : World} {B : Nat} {e : TypeId} {s n : Nat} {v : Value} {xs : List Value} (hr : w.ownsRow B e s v n xs) {g : Nat} {t : TypeId} {cs : Array Value} (hb : Bk w g t cs) (ht : t ≠ e) : v.ownBlock = none ∨ v.ownBlock ≠ some g := by
  refine ne_row (row := some g) fun b hv e2 => ?_
  simp only [Option.some.injEq] at e2
  subst e2
  rcases hr.2 with ⟨rfl, _⟩ | ⟨g', cap, cur, rfl, _, hh, _⟩
  · simp [Value.ownBlock] at hv
  · simp [Value.ownBlock] at hv
    subst hv
    unfold Bk at hb
    rw [hb] at hh
    simp at hh
    exact ht hh.2
/-- A row of one of a cell's types is none of the blocks of a list of cells. -/
theorem CW.kept {w w' : World} {B : Nat} {v : Value} {ps : List (CellD × Sl3)} {row : Option Nat} (h : CW w B v ps) (hg : w.grownBy w' row) (h1 : v.ownBlock = none ∨ v.ownBlock ≠ row) (h2 : ∀ p ∈ ps, ∀ b, blkOf p.2 b → row ≠ some b) : CW w' B v ps :=
  ⟨World.ownsRow.kept h.own hg h1, fun k p hp => (h.each k p hp).kept hg (h2 p (List.mem_of_getElem? hp))⟩

section
variable {α : Type} {t : TypeId} {n : Nat} {enc : α → List Value}
theorem FL.snoc {w : World} {B : Nat} {v : Value} {xs : List α} {x : α} (h : w.ownsRow B t n v (xs.length + 1) (xs.flatMap enc ++ enc x)) : FL t n enc w B v (xs ++ [x]) := by
  unfold FL
  rw [List.length_append, List.flatMap_append, List.flatMap_singleton]
  exact h
/-- 'out = append(out, x)' for one record, in a region that draws its order. -/
theorem step_append_F {W : World} {ops : Array Oper} {o : Oper} {a : Act} {K : Act → World → Prop} {Q : Exit → Act → World → Prop} {E : Prop} (hgd : o.guard = none) (s x : Operand) (st : TypeId) (bytes : Nat) (z : Value)
    (hinfo : (Tryz.prog.info? t).map (fun i => (i.zero, i.size, i.bytes)) = some (some z, n, bytes)) (hst : Tryz.prog.underlying st = some (.slice t)) (hzs : z.cells.size = n) (hsz : 0 < n) (hby : bytes ≤ 100)
    (ho : o.op = .call { callee := .builtin .append, args := #[s, x], argTypes := #[st, st] })
    (B : Nat) (v : Value) (xs : List α) (y : α) (hs : a.eval s = v) (hown : FL t n enc W B v xs) (hcs : (enc y).length = n) (hone : ∀ u ∈ enc y, u.oneCell' = true) (nb : Nat)
    (hx : a.eval x = .slice (some ⟨nb, 0, none⟩) 1 1) (hbk : Bk W nb t (enc y).toArray) (hlen : xs.length ≤ 1000000) (hB : B ≤ W.heap.size)
    (h : ∀ v' w', FL t n enc w' B v' (xs ++ [y]) → W.grownBy w' v.ownBlock → (v'.ownBlock = v.ownBlock ∨ v'.ownBlock = some W.heap.size) → K (a.put o.dst v') w') :
    if Region.wanted o (yielded ops a.tmps) = true then Oper.wp Tryz.prog o a W K Q else E := by
  obtain ⟨i, hi, hz, hsz', hby'⟩ := info_parts hinfo
  rw [if_pos (by simp [Region.wanted, hgd])]
  have hbytes : (xs.length + 1) * bytes ≤ 140737488355328 := by
    have : (xs.length + 1) * bytes ≤ 1000001 * 100 := Nat.mul_le_mul (by omega) hby
    omega
  obtain ⟨v', w', hr, h2, h3, h4, h5⟩ := run_append_own_at (P := Tryz.prog) W B st o.type t i z n bytes hst hi hz hsz' hby' hzs hsz v xs.length _ hown ⟨nb, 0, none⟩ 1 1 (enc y) (by rw [hcs, Nat.one_mul]) (fun j u hu => by
    rw [Addr.add_lit, Nat.zero_add, hbk.cell]
    simpa using hu) hone (by simp only [maxLen]; omega) hbytes hB
  unfold Oper.wp execOp
  simp only [ho, resolve, invoke, builtin, Sem.run_bind, Sem.run_pure, Result.andThen_ok, List.map_toArray, List.map_cons, List.map_nil, hs, hx, hr]
  exact h v' w' (FL.snoc h2) h3 h5
end
theorem C3.keptC {w w' : World} {B B' n : Nat} {u : Sl3} {c : CellD} {cv : Value} {xs : List Value} (h : C3 w B u c) (hl : w.ownsRow B' 67 4 cv n xs) (hg : w.grownBy w' cv.ownBlock) : C3 w' B u c :=
  ⟨World.ownsRow.kept h.s hg (own_types h.s hl (by decide)), World.ownsRow.kept h.l hg (own_types h.l hl (by decide)), World.ownsRow.kept h.i hg (own_types h.i hl (by decide))⟩
theorem not_row {w : World} {B g n s : Nat} {t e : TypeId} {cs : Array Value} {v : Value} {xs : List Value} (hr : w.ownsRow B e s v n xs) (hb : Bk w g t cs) (ht : t ≠ e) : (some g : Option Nat) ≠ v.ownBlock := by
  rcases own_otherT hr hb ht with h | h
  · rw [h]; simp
  · exact fun e => h e.symm
/-- The apartness of the cell that has begun, in one form. -/
theorem apart_last {us : List Sl3} {u : Sl3} : Apart3 (us ++ [u]) ↔ Apart3 us ∧ ∀ x ∈ us, ∀ b, blkOf x b → ¬ blkOf u b := by
  unfold Apart3
  rw [List.pairwise_append]
  simp
abbrev nil3 : Sl3 := ⟨.slice none 0 0, .slice none 0 0, .slice none 0 0⟩
theorem nil3_blk (b : Nat) : ¬ blkOf nil3 b := by
  rintro (h | h | h) <;> cases h
theorem apart_nil {us : List Sl3} (h : Apart3 us) : Apart3 (us ++ [nil3]) := List.pairwise_append.2 ⟨h, List.pairwise_singleton _ _, fun a _ b hb => by
  rw [List.mem_singleton] at hb
  subst hb
  exact fun x _ => nil3_blk x⟩
theorem C3.nil (w : World) (B : Nat) (nm : ByteArray) : C3 w B nil3 ⟨nm, [], [], []⟩ := ⟨FL.nil w B, FL.nil w B, FL.nil w B⟩

theorem cellV_one {w : World} {B : Nat} {u : Sl3} {c : CellD} (h : C3 w B u c) : ∀ x ∈ cellV (c, u), x.oneCell' = true := by
  obtain ⟨a, b, d⟩ := u
  obtain ⟨_, _, e1, -, -⟩ := h.s.form
  obtain ⟨_, _, e2, -, -⟩ := h.l.form
  obtain ⟨_, _, e3, -, -⟩ := h.i.form
  dsimp only at e1 e2 e3
  subst e1 e2 e3
  intro x hx
  simp only [cellV, List.mem_cons, List.not_mem_nil, or_false] at hx
  rcases hx with rfl | rfl | rfl | rfl <;> rfl
theorem shapeV_one (s : ShapeD) : ∀ x ∈ s.vals, x.oneCell' = true := by
  intro x hx
  simp only [ShapeD.vals, List.mem_cons, List.not_mem_nil, or_false] at hx
  rcases hx with rfl | rfl | rfl | rfl | rfl <;> rfl
theorem labelV_one (s : LabelD) : ∀ x ∈ s.vals, x.oneCell' = true := by
  intro x hx
  simp only [LabelD.vals, List.mem_cons, List.not_mem_nil, or_false] at hx
  rcases hx with rfl | rfl | rfl | rfl <;> rfl
theorem instV_one (s : InstD) : ∀ x ∈ s.vals, x.oneCell' = true := by
  intro x hx
  simp only [InstD.vals, List.mem_cons, List.not_mem_nil, or_false] at hx
  rcases hx with rfl | rfl | rfl | rfl | rfl | rfl | rfl | rfl <;> rfl

theorem CW.nil (w : World) (B : Nat) : CW w B (.slice none 0 0) [] := ⟨FL.nil w B, fun k p h => by cases h⟩

end Go.Proofs.YtgegbgkokkdmpaaGreat

namespace Go.Proofs.YtgegbgkokkdmpaaGreat
open Go.RowKit

set_option maxHeartbeats 400000 in
/-- l01Next of one. -/
theorem next_one (g : Nat) (w : World) : Calls Tryz.prog 24 #[.pointer (some ⟨g, 0, none⟩), .int .i64 1] w fun e w' => e = .returned (.int .i64 0) ∧ w = w' := by
  go_enter Tryz.func24, Tryz.ntmps24
  go_wp2
  go_ret
  exact ⟨rfl, rfl⟩
theorem next_ge1 (g : Nat) (n : Int) (w : World) (hD : Dice w g) (hn : 1 ≤ n ∧ n ≤ 1000000) : Calls Tryz.prog 24 #[.pointer (some ⟨g, 0, none⟩), .int .i64 n] w fun e w' => ∃ k : Int, e = .returned (.int .i64 k) ∧ (0 ≤ k ∧ k < n) ∧ Dice w' g ∧ w.grownBy w' (some g) := by
  by_cases h : n = 1
  · subst h
    refine (next_one g w).mono ?_
    rintro e w' ⟨rfl, rfl⟩
    exact ⟨0, rfl, by omega, hD, only_refl _ _⟩
  · exact next_any g n w hD (by omega)

end Go.Proofs.YtgegbgkokkdmpaaGreat
