/- A library that came in, opened. No conditions. -/
import Derived.Test.YtfgpkhifbflnbaaGreatDoorLibM
import Derived.Test.YtfgpkhifbflnbaaGreatDoorVioA
namespace Go.Proofs.YtfgpkhifbflnbaaGreatDoor
open Go.RowKit Go.ChangeShapes Go.WideShapes Go.Deep Go.Joins

section
variable {H : Type} {enc : TypeId × Value → H} {w : World} {base : Nat} {held : Bool} {fuel : Nat} {cs : List Value} {x : DataW H × List MemPlace}

theorem parts_of {t : TypeId} {fs : Array Field} (he : Tryz.prog.underlying t = some (.struct fs)) (h : DataW.trod enc Tryz.prog w base (fun _ => true) held fuel t cs = some x) :
    cs.length = Tryz.prog.cellsOf t ∧ ∀ (i : Nat) (f : Field), fs[i]? = some f → ∃ n y, DataW.trod enc Tryz.prog w base (fun _ => true) held n f.type ((cs.drop f.offset).take (Tryz.prog.cellsOf f.type)) = some y := by
  obtain ⟨xs, n, _, _, hlen, hxl, hf⟩ := DataW.trod_struct he h
  refine ⟨hlen, fun i f hi => ?_⟩
  have hlt : i < xs.length := by
    rw [hxl]
    exact (Array.getElem?_eq_some_iff.1 hi).1
  exact ⟨n, xs[i], (hf i f hi).trans (List.getElem?_eq_getElem hlt)⟩
theorem part_of {t : TypeId} {fs : Array Field} (he : Tryz.prog.underlying t = some (.struct fs)) (h : DataW.trod enc Tryz.prog w base (fun _ => true) held fuel t cs = some x) (i : Nat) (ty : TypeId) (off n : Nat)
    (hf : fs[i]?.map (fun f => (f.type, f.offset)) = some (ty, off)) (hc : Tryz.prog.cellsOf ty = n) : ∃ k y, DataW.trod enc Tryz.prog w base (fun _ => true) held k ty ((cs.drop off).take n) = some y := by
  obtain ⟨f, h1, h2⟩ := Option.map_eq_some_iff.1 hf
  simp only [Prod.mk.injEq] at h2
  obtain ⟨rfl, rfl⟩ := h2
  subst hc
  exact (parts_of he h).2 i f h1
theorem cI : Tryz.prog.cellsOf 2 = 1 := by kernel_rfl
theorem cS : Tryz.prog.cellsOf 9 = 1 := by kernel_rfl
theorem cRectL : Tryz.prog.cellsOf 117 = 4 := by kernel_rfl
theorem cPointL : Tryz.prog.cellsOf 110 = 2 := by kernel_rfl
theorem cTransL : Tryz.prog.cellsOf 122 = 3 := by kernel_rfl
theorem cShapeL : Tryz.prog.cellsOf 119 = 5 := by kernel_rfl
theorem cLabelL : Tryz.prog.cellsOf 112 = 4 := by kernel_rfl
theorem cInstL : Tryz.prog.cellsOf 124 = 8 := by kernel_rfl
theorem cCellL : Tryz.prog.cellsOf 72 = 4 := by kernel_rfl
theorem cShapesL : Tryz.prog.cellsOf 68 = 1 := by kernel_rfl
theorem cLabelsL : Tryz.prog.cellsOf 69 = 1 := by kernel_rfl
theorem cInstsL : Tryz.prog.cellsOf 70 = 1 := by kernel_rfl
theorem cLibL : Tryz.prog.cellsOf 24 = 1 := by kernel_rfl
theorem cCellsL : Tryz.prog.cellsOf 22 = 1 := by kernel_rfl

theorem rectL_cells (h : DataW.trod enc Tryz.prog w base (fun _ => true) held fuel 117 cs = some x) : ∃ r : Rc, cs = r.vals := by
  obtain ⟨r, e, -⟩ := four_ints Tryz.underlying117 (by kernel_rfl) (by kernel_rfl) Tryz.underlying2 Tryz.underlying2 Tryz.underlying2 Tryz.underlying2 h
  exact ⟨r, e⟩
theorem shapeL_cells (h : DataW.trod enc Tryz.prog w base (fun _ => true) held fuel 119 cs = some x) : ∃ s : ShapeD, cs = s.vals := by
  have hl := (parts_of Tryz.underlying119 h).1
  obtain ⟨n0, y0, h0⟩ := part_of Tryz.underlying119 h 0 2 0 _ rfl cI
  obtain ⟨n1, y1, h1⟩ := part_of Tryz.underlying119 h 1 117 1 _ rfl cRectL
  rw [cShapeL] at hl
  match cs, hl with
  | [a, b, c, d, e], _ =>
    obtain ⟨l, e0, -, -⟩ := DataW.trod_int Tryz.underlying2 h0
    obtain ⟨r, e1⟩ := rectL_cells h1
    simp [Rc.vals] at e0 e1
    obtain ⟨rfl, rfl, rfl, rfl⟩ := e1
    subst e0
    exact ⟨⟨l, r⟩, rfl⟩
theorem labelL_cells (h : DataW.trod enc Tryz.prog w base (fun _ => true) held fuel 112 cs = some x) : ∃ s : LabelD, cs = s.vals ∧ s.name.size ≤ maxLen := by
  have hl := (parts_of Tryz.underlying112 h).1
  obtain ⟨n0, y0, h0⟩ := part_of Tryz.underlying112 h 0 2 0 _ rfl cI
  obtain ⟨n1, y1, h1⟩ := part_of Tryz.underlying112 h 1 110 1 _ rfl cPointL
  obtain ⟨n2, y2, h2⟩ := part_of Tryz.underlying112 h 2 9 3 _ rfl cS
  rw [cLabelL] at hl
  match cs, hl with
  | [a, b, c, d], _ =>
    obtain ⟨l, e0, -, -⟩ := DataW.trod_int Tryz.underlying2 h0
    obtain ⟨px, py, e1, -, -⟩ := two_ints Tryz.underlying110 (by kernel_rfl) (by kernel_rfl) Tryz.underlying2 Tryz.underlying2 h1
    obtain ⟨s, e2, -, hs⟩ := DataW.trod_string Tryz.underlying9 h2
    simp at e0 e1 e2
    obtain ⟨rfl, rfl⟩ := e1
    subst e0 e2
    exact ⟨⟨l, px, py, s⟩, rfl, hs⟩
theorem transL_cells (h : DataW.trod enc Tryz.prog w base (fun _ => true) held fuel 122 cs = some x) : ∃ a b c : Int, cs = [.int .i64 a, .int .i64 b, .int .i64 c] := by
  have hl := (parts_of Tryz.underlying122 h).1
  obtain ⟨n0, y0, h0⟩ := part_of Tryz.underlying122 h 0 2 0 _ rfl cI
  obtain ⟨n1, y1, h1⟩ := part_of Tryz.underlying122 h 1 2 1 _ rfl cI
  obtain ⟨n2, y2, h2⟩ := part_of Tryz.underlying122 h 2 2 2 _ rfl cI
  rw [cTransL] at hl
  match cs, hl with
  | [a, b, c], _ =>
    obtain ⟨i0, e0, -, -⟩ := DataW.trod_int Tryz.underlying2 h0
    obtain ⟨i1, e1, -, -⟩ := DataW.trod_int Tryz.underlying2 h1
    obtain ⟨i2, e2, -, -⟩ := DataW.trod_int Tryz.underlying2 h2
    simp at e0 e1 e2
    subst e0 e1 e2
    exact ⟨i0, i1, i2, rfl⟩
theorem instL_cells (h : DataW.trod enc Tryz.prog w base (fun _ => true) held fuel 124 cs = some x) : ∃ s : InstD, cs = s.vals := by
  have hl := (parts_of Tryz.underlying124 h).1
  obtain ⟨n0, y0, h0⟩ := part_of Tryz.underlying124 h 0 2 0 _ rfl cI
  obtain ⟨n1, y1, h1⟩ := part_of Tryz.underlying124 h 1 122 1 _ rfl cTransL
  obtain ⟨n2, y2, h2⟩ := part_of Tryz.underlying124 h 2 2 4 _ rfl cI
  obtain ⟨n3, y3, h3⟩ := part_of Tryz.underlying124 h 3 2 5 _ rfl cI
  obtain ⟨n4, y4, h4⟩ := part_of Tryz.underlying124 h 4 2 6 _ rfl cI
  obtain ⟨n5, y5, h5⟩ := part_of Tryz.underlying124 h 5 2 7 _ rfl cI
  rw [cInstL] at hl
  match cs, hl with
  | [a, b, c, d, e, f, g, i], _ =>
    obtain ⟨i0, e0, -, -⟩ := DataW.trod_int Tryz.underlying2 h0
    obtain ⟨j0, j1, j2, e1⟩ := transL_cells h1
    obtain ⟨i2, e2, -, -⟩ := DataW.trod_int Tryz.underlying2 h2
    obtain ⟨i3, e3, -, -⟩ := DataW.trod_int Tryz.underlying2 h3
    obtain ⟨i4, e4, -, -⟩ := DataW.trod_int Tryz.underlying2 h4
    obtain ⟨i5, e5, -, -⟩ := DataW.trod_int Tryz.underlying2 h5
    simp at e0 e1 e2 e3 e4 e5
    obtain ⟨rfl, rfl, rfl⟩ := e1
    subst e0 e2 e3 e4 e5
    exact ⟨⟨i0, j0, j1, j2, i2, i3, i4, i5⟩, rfl⟩

/-- A list of records, from its cell. -/
theorem list_cells {α : Type} {t e : TypeId} {n : Nat} (enc' : α → List Value) (Q : α → Prop) (ht : Tryz.prog.underlying t = some (.slice e)) (hC : Tryz.prog.cellsOf e = n) (hn : 0 < n) (hlen : ∀ a, (enc' a).length = n)
    (hel : ∀ {fuel : Nat} {cs : List Value} {x : DataW H × List MemPlace}, DataW.trod enc Tryz.prog w base (fun _ => true) held fuel e cs = some x → ∃ a : α, cs = enc' a ∧ Q a)
    (h : DataW.trod enc Tryz.prog w base (fun _ => true) held fuel t cs = some x) : ∃ A m c xs, cs = [.slice A m c] ∧ m ≤ c ∧ c ≤ maxLen ∧ AL n enc' w A m xs ∧ ∀ a ∈ xs, Q a := by
  rcases open_slice ht h with ⟨hcs, _⟩ | ⟨p, l, c, m, k, D, Pl, hcs, _, hl, hm, hmm, _, hi⟩
  · exact ⟨none, 0, 0, [], hcs, Nat.le_refl _, by simp [maxLen], ⟨rfl, fun k x hx => by simp at hx⟩, by simp⟩
  · simp only [if_true] at hmm
    subst hmm
    have H : ∀ i, i < l → ∃ q : α, Q q ∧ ∀ (j : Nat) (u : Value), (enc' q)[j]? = some u → w.cell? (p.add (i * n + j)) = some u := by
      intro i hi'
      obtain ⟨cs', hc, htr⟩ := hi i (by omega)
      obtain ⟨q, hq, hQ⟩ := hel htr
      rw [hC] at hc
      obtain ⟨_, hcl, hat⟩ := World.cells?_some hc
      refine ⟨q, hQ, fun j u hu => ?_⟩
      have hj : j < n := by rw [← hlen q]; exact (List.getElem?_eq_some_iff.1 hu).1
      rw [← add_add, hat j hj, hq]
      exact hu
    obtain ⟨rs, hrl, hrs⟩ := list_of _ H
    refine ⟨some p, l, _, rs, hcs, hl, hm, ⟨hrl, fun k a ha => ?_⟩, fun a ha => ?_⟩
    · have hc := (hrs k a ha).2
      obtain ⟨b, off, spot⟩ := p
      have hcell : ∀ k' a', rs[k']? = some a' → ∃ u, w.cell? (Addr.add ⟨b, off, spot⟩ (k' * n)) = some u := fun k' a' ha' => by
        have h0 : 0 < (enc' a').length := by rw [hlen]; exact hn
        exact ⟨_, (hrs k' a' ha').2 0 _ (List.getElem?_eq_getElem h0)⟩
      have hspot : spot = none := by
        have hk' := (List.getElem?_eq_some_iff.1 ha).1
        obtain ⟨u, hu⟩ := hcell 0 _ (List.getElem?_eq_getElem (show 0 < rs.length by omega))
        simpa [Addr.add] using World.cell?_spot hu
      subst hspot
      obtain ⟨u, hu⟩ := hcell k a ha
      rw [Addr.add_lit] at hu
      refine ⟨b, off, rfl, World.block_lt_of_cell? _ _ hu, fun j v hv => ?_⟩
      have := hc j v hv
      rw [Addr.add_lit, ← Nat.add_assoc] at this
      exact this
    · obtain ⟨i, hi', hq'⟩ := List.mem_iff_getElem.1 ha
      exact (hrs i a (by rw [List.getElem?_eq_getElem hi', hq'])).1

theorem cellL_cells (h : DataW.trod enc Tryz.prog w base (fun _ => true) held fuel 72 cs = some x) : ∃ (c : CellD) (A1 : Option Addr) (n1 c1 : Nat) (A2 : Option Addr) (n2 c2 : Nat) (A3 : Option Addr) (n3 c3 : Nat),
    cs = [.string c.name, .slice A1 n1 c1, .slice A2 n2 c2, .slice A3 n3 c3] ∧ (n1 ≤ c1 ∧ c1 ≤ maxLen) ∧ (n2 ≤ c2 ∧ c2 ≤ maxLen) ∧ (n3 ≤ c3 ∧ c3 ≤ maxLen) ∧ ShA w A1 n1 c.shapes ∧ LaA w A2 n2 c.labels ∧ InA w A3 n3 c.insts ∧ c.name.size ≤ maxLen ∧ ∀ l ∈ c.labels, l.name.size ≤ maxLen := by
  have hl := (parts_of Tryz.underlying72 h).1
  obtain ⟨n0, y0, h0⟩ := part_of Tryz.underlying72 h 0 9 0 _ rfl cS
  obtain ⟨n1, y1, h1⟩ := part_of Tryz.underlying72 h 1 68 1 _ rfl cShapesL
  obtain ⟨n2, y2, h2⟩ := part_of Tryz.underlying72 h 2 69 2 _ rfl cLabelsL
  obtain ⟨n3, y3, h3⟩ := part_of Tryz.underlying72 h 3 70 3 _ rfl cInstsL
  rw [cCellL] at hl
  match cs, hl with
  | [a, b, c, d], _ =>
    obtain ⟨s, e0, -, hs⟩ := DataW.trod_string Tryz.underlying9 h0
    obtain ⟨A1, m1, c1, ss, e1, k1, k1', g1, -⟩ := list_cells ShapeD.vals (fun _ => True) Tryz.underlying68 cShapeL (by decide) ShapeD.len (fun hh => let ⟨a, ha⟩ := shapeL_cells hh; ⟨a, ha, trivial⟩) h1
    obtain ⟨A2, m2, c2, ls, e2, k2, k2', g2, q2⟩ := list_cells LabelD.vals (fun l => l.name.size ≤ maxLen) Tryz.underlying69 cLabelL (by decide) LabelD.len (fun hh => labelL_cells hh) h2
    obtain ⟨A3, m3, c3, is, e3, k3, k3', g3, -⟩ := list_cells InstD.vals (fun _ => True) Tryz.underlying70 cInstL (by decide) InstD.len (fun hh => let ⟨a, ha⟩ := instL_cells hh; ⟨a, ha, trivial⟩) h3
    simp at e0 e1 e2 e3
    subst e0 e1 e2 e3
    exact ⟨⟨s, ss, ls, is⟩, A1, m1, c1, A2, m2, c2, A3, m3, c3, rfl, ⟨k1, k1'⟩, ⟨k2, k2'⟩, ⟨k3, k3'⟩, g1, g2, g3, hs, q2⟩

/-- The names in it are no longer than a string may be. -/
def NamesOk (cs : List CellD) : Prop := ∀ c ∈ cs, c.name.size ≤ maxLen ∧ ∀ l ∈ c.labels, l.name.size ≤ maxLen

theorem cells_arg (h : DataW.trod enc Tryz.prog w base (fun _ => true) held fuel 22 cs = some x) : ∃ A m c ds, cs = [.slice A m c] ∧ m ≤ c ∧ c ≤ maxLen ∧ CA w A m ds ∧ NamesOk ds := by
  rcases open_slice Tryz.underlying22 h with ⟨hcs, _⟩ | ⟨p, l, c, m, k, D, Pl, hcs, _, hl, hm, hmm, _, hi⟩
  · exact ⟨none, 0, 0, [], hcs, Nat.le_refl _, by simp [maxLen], ⟨rfl, fun k x hx => by simp at hx⟩, fun c hc => by simp at hc⟩
  · simp only [if_true] at hmm
    subst hmm
    have H : ∀ i, i < l → ∃ q : CellD, (q.name.size ≤ maxLen ∧ ∀ l ∈ q.labels, l.name.size ≤ maxLen) ∧ ∃ (A1 : Option Addr) (n1 c1 : Nat) (A2 : Option Addr) (n2 c2 : Nat) (A3 : Option Addr) (n3 c3 : Nat), w.cell? (p.add (i * 4)) = some (.string q.name) ∧ w.cell? (p.add (i * 4 + 1)) = some (.slice A1 n1 c1) ∧
        w.cell? (p.add (i * 4 + 2)) = some (.slice A2 n2 c2) ∧ w.cell? (p.add (i * 4 + 3)) = some (.slice A3 n3 c3) ∧ (n1 ≤ c1 ∧ c1 ≤ maxLen) ∧ (n2 ≤ c2 ∧ c2 ≤ maxLen) ∧ (n3 ≤ c3 ∧ c3 ≤ maxLen) ∧ ShA w A1 n1 q.shapes ∧ LaA w A2 n2 q.labels ∧ InA w A3 n3 q.insts := by
      intro i hi'
      obtain ⟨cs', hc, htr⟩ := hi i (by omega)
      obtain ⟨q, A1, n1, c1, A2, n2, c2, A3, n3, c3, hq, k1, k2, k3, g1, g2, g3, q1, q2⟩ := cellL_cells htr
      rw [cCellL] at hc
      obtain ⟨_, hcl, hat⟩ := World.cells?_some hc
      refine ⟨q, ⟨q1, q2⟩, A1, n1, c1, A2, n2, c2, A3, n3, c3, ?_, ?_, ?_, ?_, k1, k2, k3, g1, g2, g3⟩
      · have := hat 0 (by omega)
        rw [hq] at this
        simpa [add_add] using this
      · have := hat 1 (by omega)
        rw [hq] at this
        simpa [add_add] using this
      · have := hat 2 (by omega)
        rw [hq] at this
        simpa [add_add] using this
      · have := hat 3 (by omega)
        rw [hq] at this
        simpa [add_add] using this
    obtain ⟨rs, hrl, hrs⟩ := list_of _ H
    refine ⟨some p, l, _, rs, hcs, hl, hm, ⟨hrl, fun k a ha => ?_⟩, fun a ha => ?_⟩
    · obtain ⟨-, A1, n1, c1, A2, n2, c2, A3, n3, c3, f0, f1, f2, f3, k1, k2, k3, g1, g2, g3⟩ := hrs k a ha
      obtain ⟨b, off, spot⟩ := p
      have hspot : spot = none := by
        have hk' := (List.getElem?_eq_some_iff.1 ha).1
        obtain ⟨-, _, _, _, _, _, _, _, _, _, hz, _⟩ := hrs 0 _ (List.getElem?_eq_getElem (show 0 < rs.length by omega))
        simpa [Addr.add] using World.cell?_spot (hz.trans rfl)
      subst hspot
      rw [Addr.add_lit] at f0 f1 f2 f3
      exact ⟨b, off, A1, n1, c1, A2, n2, c2, A3, n3, c3, rfl, World.block_lt_of_cell? _ _ f0, f0, f1, f2, f3, k1, k2, k3, g1, g2, g3⟩
    · obtain ⟨i, hi', hq'⟩ := List.mem_iff_getElem.1 ha
      exact (hrs i a (by rw [List.getElem?_eq_getElem hi', hq'])).1

set_option maxRecDepth 100000 in
theorem struct_val {t : TypeId} {fs : Array Field} {r : Go.Reach} {b0 : Nat} {v : Value} (ht : Tryz.prog.underlying t = some (.struct fs)) (hv : Value.okWide Tryz.prog w r b0 t v) : ∃ cs, v = .agg cs ∧ cs.size = Tryz.prog.cellsOf t := okWide_struct ht hv
set_option maxRecDepth 100000 in
/-- A library by value. -/
theorem open_lib {r : Go.Reach} {b0 : Nat} {v : Value} {d : DataW H} {p : List MemPlace} (hv : Value.okWide Tryz.prog w r b0 24 v) (h : DataW.Trod enc Tryz.prog w base (fun _ => true) held 24 v d p) :
    ∃ A m c ds, v = .agg #[.slice A m c] ∧ m ≤ c ∧ c ≤ maxLen ∧ CA w A m ds ∧ NamesOk ds := by
  obtain ⟨cs, rfl, hsz⟩ := struct_val Tryz.underlying24 hv
  obtain ⟨fuel, hf⟩ := h
  obtain ⟨n0, y0, h0⟩ := part_of Tryz.underlying24 hf 0 22 0 _ rfl cCellsL
  obtain ⟨A, m, c, ds, e, k1, k2, k3, k4⟩ := cells_arg h0
  rw [cLibL] at hsz
  obtain ⟨l⟩ := cs
  match l, hsz with
  | [a], _ =>
    simp [Value.cells] at e
    subst e
    exact ⟨A, m, c, ds, rfl, k1, k2, k3, k4⟩

end
end Go.Proofs.YtfgpkhifbflnbaaGreatDoor
