/- A library that came in, opened. No conditions. -/
import Derived.Test.YtcckamhokdodnaaGreatDoorLibM
import Derived.Test.YtcckamhokdodnaaGreatDoorVioA
namespace Go.Proofs.YtcckamhokdodnaaGreatDoor
open Go.RowKit Go.ChangeShapes Go.WideShapes Go.Deep Go.Joins

section
variable {H : Type} {enc : TypeId × Value → H} {w : World} {base : Nat} {held : Bool} {fuel : Nat} {cs : List Value} {x : DataW H × List MemPlace}

theorem parts_of {t : TypeId} {fs : Array Field} (he : Tryz.prog.underlying t = some (.struct fs)) (h : DataW.trod enc Tryz.prog w base (fun _ => true) held fuel t cs = some x) :
    cs.length = Tryz.prog.cellsOf t ∧ ∀ (i : Nat) (f : Field), fs[i]? = some f → ∃ n y, DataW.trod enc Tryz.prog w base (fun _ => true) held n f.type ((cs.drop f.offset).take (Tryz.prog.cellsOf f.type)) = some y := by
  obtain ⟨xs, n, _, _, hlen, hxl, hf⟩ := DataW.trod_struct he h
  refine ⟨hlen, fun i f hi => ?_⟩
  have hlt : i < xs.length := by
    rw [hxl]
    exact (Array.getElem?_eq_some_iff.1 hi).1
  exact ⟨n, xs[i], (hf i f hi).trans (List.getElem?_eq_getElem hlt)⟩
theorem part_of {t : TypeId} {fs : Array Field} (he : Tryz.prog.underlying t = some (.struct fs)) (h : DataW.trod enc Tryz.prog w base (fun _ => true) held fuel t cs = some x) (i : Nat) (ty : TypeId) (off n : Nat)
    (hf : fs[i]?.map (fun f => (f.type, f.offset)) = some (ty, off)) (hc : Tryz.prog.cellsOf ty = n) : ∃ k y, DataW.trod enc Tryz.prog w base (fun _ => true) held k ty ((cs.drop off).take n) = some y := by
  obtain ⟨f, h1, h2⟩ := Option.map_eq_some_iff.1 hf
  simp only [Prod.mk.injEq] at h2
  obtain ⟨rfl, rfl⟩ := h2
  subst hc
  exact (parts_of he h).2 i f h1
theorem cI : Tryz.prog.cellsOf 2 = 1 := by kernel_rfl
theorem cS : Tryz.prog.cellsOf 9 = 1 := by kernel_rfl
/-- A list of records, from its cell. -/
theorem list_cells {α : Type} {t e : TypeId} {n : Nat} (enc' : α → List Value) (Q : α → Prop) (ht : Tryz.prog.underlying t = some (.slice e)) (hC : Tryz.prog.cellsOf e = n) (hn : 0 < n) (hlen : ∀ a, (enc' a).length = n)
    (hel : ∀ {fuel : Nat} {cs : List Value} {x : DataW H × List MemPlace}, DataW.trod enc Tryz.prog w base (fun _ => true) held fuel e cs = some x → ∃ a : α, cs = enc' a ∧ Q a)
    (h : DataW.trod enc Tryz.prog w base (fun _ => true) held fuel t cs = some x) : ∃ A m c xs, cs = [.slice A m c] ∧ m ≤ c ∧ c ≤ maxLen ∧ AL n enc' w A m xs ∧ ∀ a ∈ xs, Q a := by
  rcases open_slice ht h with ⟨hcs, _⟩ | ⟨p, l, c, m, k, D, Pl, hcs, _, hl, hm, hmm, _, hi⟩
  · exact ⟨none, 0, 0, [], hcs, Nat.le_refl _, by simp [maxLen], ⟨rfl, fun k x hx => by simp at hx⟩, by simp⟩
  · simp only [if_true] at hmm
    subst hmm
    have H : ∀ i, i < l → ∃ q : α, Q q ∧ ∀ (j : Nat) (u : Value), (enc' q)[j]? = some u → w.cell? (p.add (i * n + j)) = some u := by
      intro i hi'
      obtain ⟨cs', hc, htr⟩ := hi i (by omega)
      obtain ⟨q, hq, hQ⟩ := hel htr
      rw [hC] at hc
      obtain ⟨_, hcl, hat⟩ := World.cells?_some hc
      refine ⟨q, hQ, fun j u hu => ?_⟩
      have hj : j < n := by rw [← hlen q]; exact (List.getElem?_eq_some_iff.1 hu).1
      rw [← add_add, hat j hj, hq]
      exact hu
    obtain ⟨rs, hrl, hrs⟩ := list_of _ H
    refine ⟨some p, l, _, rs, hcs, hl, hm, ⟨hrl, fun k a ha => ?_⟩, fun a ha => ?_⟩
    · have hc := (hrs k a ha).2
      obtain ⟨b, off, spot⟩ := p
      have hcell : ∀ k' a', rs[k']? = some a' → ∃ u, w.cell? (Addr.add ⟨b, off, spot⟩ (k' * n)) = some u := fun k' a' ha' => by
        have h0 : 0 < (enc' a').length := by rw [hlen]; exact hn
        exact ⟨_, (hrs k' a' ha').2 0 _ (List.getElem?_eq_getElem h0)⟩
      have hspot : spot = none := by
        have hk' := (List.getElem?_eq_some_iff.1 ha).1
        obtain ⟨u, hu⟩ := hcell 0 _ (List.getElem?_eq_getElem (show 0 < rs.length by omega))
        simpa [Addr.add] using World.cell?_spot hu
      subst hspot
      obtain ⟨u, hu⟩ := hcell k a ha
      rw [Addr.add_lit] at hu
      refine ⟨b, off, rfl, World.block_lt_of_cell? _ _ hu, fun j v hv => ?_⟩
      have := hc j v hv
      rw [Addr.add_lit, ← Nat.add_assoc] at this
      exact this
    · obtain ⟨i, hi', hq'⟩ := List.mem_iff_getElem.1 ha
      exact (hrs i a (by rw [List.getElem?_eq_getElem hi', hq'])).1

/-- The names in it are no longer than a string may be. -/
def NamesOk (cs : List CellD) : Prop := ∀ c ∈ cs, c.name.size ≤ maxLen ∧ ∀ l ∈ c.labels, l.name.size ≤ maxLen

set_option maxRecDepth 100000 in
theorem struct_val {t : TypeId} {fs : Array Field} {r : Go.Reach} {b0 : Nat} {v : Value} (ht : Tryz.prog.underlying t = some (.struct fs)) (hv : Value.okWide Tryz.prog w r b0 t v) : ∃ cs, v = .agg cs ∧ cs.size = Tryz.prog.cellsOf t := okWide_struct ht hv
end
end Go.Proofs.YtcckamhokdodnaaGreatDoor
