/- The laws' arguments, opened: a list of violations and a list of lists of rectangles that came in. No conditions. -/
import Derived.Test.YtbljapihmkmolaaGreatVioOpen
namespace Go.Proofs.YtbljapihmkmolaaGreat
open Go.RowKit Go.ChangeShapes Go.WideShapes Go.Deep Go.Joins

/-- What is known of a list of violations that came in. -/
structure ArgV (w : World) (A : Option Addr) (n : Nat) (vs : List (Int × List Rc)) : Prop where
  len : vs.length = n
  elem : ∀ (k : Nat) (q : Int × List Rc), vs[k]? = some q → ∃ b off A' n' c', A = some ⟨b, off, none⟩ ∧ b < w.heap.size ∧ w.cell? ⟨b, off + k * 2, none⟩ = some (.int .i64 q.1) ∧ w.cell? ⟨b, off + k * 2 + 1, none⟩ = some (.slice A' n' c') ∧ n' ≤ c' ∧ c' ≤ maxLen ∧ ArgR w A' n' q.2
theorem ArgV.on {w w' : World} {A : Option Addr} {n : Nat} {vs : List (Int × List Rc)} (h : ArgV w A n vs) (hb : Below w.heap.size w w') : ArgV w' A n vs :=
  ⟨h.len, fun k q hq => by
    obtain ⟨b, off, A', n', c', hA, hbl, h0, h1, h2, h3, h4⟩ := h.elem k q hq
    exact ⟨b, off, A', n', c', hA, Nat.lt_of_lt_of_le hbl hb.size, (hb.cell (p := ⟨b, _, none⟩) hbl).trans h0, (hb.cell (p := ⟨b, _, none⟩) hbl).trans h1, h2, h3, h4.on hb⟩⟩
/-- What is known of a list of lists of rectangles that came in. -/
structure ArgL (w : World) (A : Option Addr) (n : Nat) (rss : List (List Rc)) : Prop where
  len : rss.length = n
  elem : ∀ (k : Nat) (rs : List Rc), rss[k]? = some rs → ∃ b off A' n' c', A = some ⟨b, off, none⟩ ∧ b < w.heap.size ∧ w.cell? ⟨b, off + k, none⟩ = some (.slice A' n' c') ∧ n' ≤ c' ∧ c' ≤ maxLen ∧ ArgR w A' n' rs
theorem ArgL.on {w w' : World} {A : Option Addr} {n : Nat} {rss : List (List Rc)} (h : ArgL w A n rss) (hb : Below w.heap.size w w') : ArgL w' A n rss :=
  ⟨h.len, fun k q hq => by
    obtain ⟨b, off, A', n', c', hA, hbl, h1, h2, h3, h4⟩ := h.elem k q hq
    exact ⟨b, off, A', n', c', hA, Nat.lt_of_lt_of_le hbl hb.size, (hb.cell (p := ⟨b, _, none⟩) hbl).trans h1, h2, h3, h4.on hb⟩⟩

section
variable {H : Type} {enc : TypeId × Value → H} {P : Program} {w : World} {base : Nat} {held : Bool}

/-- A violation, from its cells. -/
theorem vio_cells {fuel tv e : Nat} {g0 g1 f0 f1 f2 f3 : Field} {cs : List Value} {y : DataW H × List MemPlace} (hv' : P.underlying tv = some (.struct #[g0, g1])) (hone' : oneCellFields P #[g0, g1] = true) (hC' : P.cellsOf tv = 2)
    (j0 : P.underlying g0.type = some (.int .i64)) (ht : P.underlying g1.type = some (.slice e)) (he : P.underlying e = some (.struct #[f0, f1, f2, f3])) (hone : oneCellFields P #[f0, f1, f2, f3] = true)
    (hC : P.cellsOf e = 4) (i0 : P.underlying f0.type = some (.int .i64)) (i1 : P.underlying f1.type = some (.int .i64)) (i2 : P.underlying f2.type = some (.int .i64)) (i3 : P.underlying f3.type = some (.int .i64))
    (hf : DataW.trod enc P w base (fun _ => true) held fuel tv cs = some y) : ∃ (k : Int) (A : Option Addr) (n c : Nat) (rs : List Rc), cs = [.int .i64 k, .slice A n c] ∧ I64 k ∧ n ≤ c ∧ c ≤ maxLen ∧ ArgR w A n rs := by
  obtain ⟨xs, n, _, _, hlen, hxl, hg⟩ := DataW.trod_struct hv' hf
  rw [hC'] at hlen
  match cs, hlen with
  | [c0, c1], _ =>
    obtain ⟨o0, k0⟩ := hone_of hone' 0 g0 rfl
    obtain ⟨o1, k1⟩ := hone_of hone' 1 g1 rfl
    match xs, hxl with
    | [y0, y1], _ =>
      have z0 := hg 0 g0 rfl
      have z1 := hg 1 g1 rfl
      rw [o0, k0] at z0
      rw [o1, k1] at z1
      obtain ⟨a0, e0, _, b0⟩ := DataW.trod_int (x := y0) j0 (by simpa using z0)
      obtain ⟨A, m, c, rs, e1, h1, h2, h3⟩ := fours_cell (y := y1) (cs := [c1]) ht he hone hC i0 i1 i2 i3 (by simpa using z1)
      simp only [List.cons.injEq, and_true] at e0 e1
      subst e0 e1
      exact ⟨a0, A, m, c, rs, rfl, bounds_i64 b0, h1, h2, h3⟩

/-- A list of violations. -/
theorem open_vios {r : Go.Reach} {b0 tt tv e : Nat} {g0 g1 f0 f1 f2 f3 : Field} {v : Value} {d : DataW H} {p : List MemPlace} (htt : P.underlying tt = some (.slice tv)) (hv' : P.underlying tv = some (.struct #[g0, g1])) (hone' : oneCellFields P #[g0, g1] = true) (hC' : P.cellsOf tv = 2)
    (j0 : P.underlying g0.type = some (.int .i64)) (ht : P.underlying g1.type = some (.slice e)) (he : P.underlying e = some (.struct #[f0, f1, f2, f3])) (hone : oneCellFields P #[f0, f1, f2, f3] = true)
    (hC : P.cellsOf e = 4) (i0 : P.underlying f0.type = some (.int .i64)) (i1 : P.underlying f1.type = some (.int .i64)) (i2 : P.underlying f2.type = some (.int .i64)) (i3 : P.underlying f3.type = some (.int .i64))
    (hv : Value.okWide P w r b0 tt v) (h : DataW.Trod enc P w base (fun _ => true) held tt v d p) : ∃ A n c vs, v = .slice A n c ∧ n ≤ c ∧ c ≤ maxLen ∧ ArgV w A n vs := by
  obtain ⟨a, len, cap, rfl⟩ := okWide_slice htt hv
  obtain ⟨fuel, hf⟩ := h
  rcases open_slice htt hf with ⟨hcs, _⟩ | ⟨x, l, c, m, n, D, Pl, hcs, _, hl, hm, hmm, _, hi⟩
  · simp [Value.cells] at hcs
    obtain ⟨rfl, rfl, rfl⟩ := hcs
    exact ⟨none, 0, 0, [], rfl, Nat.le_refl _, by simp [maxLen], rfl, fun k q hk => by simp at hk⟩
  · simp [Value.cells] at hcs
    obtain ⟨rfl, rfl, rfl⟩ := hcs
    simp only [if_true] at hmm
    subst hmm
    have H : ∀ i, i < len → ∃ q : Int × List Rc, ∃ A' n' c', w.cell? (x.add (i * 2)) = some (.int .i64 q.1) ∧ w.cell? (x.add (i * 2 + 1)) = some (.slice A' n' c') ∧ n' ≤ c' ∧ c' ≤ maxLen ∧ ArgR w A' n' q.2 := by
      intro i hi'
      obtain ⟨cs', hc, htr⟩ := hi i (by omega)
      obtain ⟨k, A', n', c', rs, hq, _, h1, h2, h3⟩ := vio_cells hv' hone' hC' j0 ht he hone hC i0 i1 i2 i3 htr
      rw [hC'] at hc
      obtain ⟨_, hcl, hat⟩ := World.cells?_some hc
      refine ⟨(k, rs), A', n', c', ?_, ?_, h1, h2, h3⟩
      · have := hat 0 (by omega)
        rw [hq] at this
        simpa [add_add] using this
      · have := hat 1 (by omega)
        rw [hq] at this
        simpa [add_add] using this
    obtain ⟨vs, hrl, hrs⟩ := list_of len H
    refine ⟨some x, len, _, vs, rfl, hl, hm, hrl, fun k q hk => ?_⟩
    obtain ⟨A', n', c', h0, h1, h2, h3, h4⟩ := hrs k q hk
    obtain ⟨b, off, spot⟩ := x
    have hspot : spot = none := by
      have hk' := (List.getElem?_eq_some_iff.1 hk).1
      obtain ⟨_, _, _, hz, _⟩ := hrs 0 _ (List.getElem?_eq_getElem (show 0 < vs.length by omega))
      simpa [Addr.add] using World.cell?_spot (hz.trans rfl)
    subst hspot
    rw [Addr.add_lit] at h0 h1
    exact ⟨b, off, A', n', c', rfl, World.block_lt_of_cell? _ _ h0, h0, h1, h2, h3, h4⟩

/-- A list of lists of rectangles. -/
theorem open_fourss {r : Go.Reach} {b0 tt t e : Nat} {f0 f1 f2 f3 : Field} {v : Value} {d : DataW H} {p : List MemPlace} (htt : P.underlying tt = some (.slice t)) (hC1 : P.cellsOf t = 1) (ht : P.underlying t = some (.slice e)) (he : P.underlying e = some (.struct #[f0, f1, f2, f3])) (hone : oneCellFields P #[f0, f1, f2, f3] = true)
    (hC : P.cellsOf e = 4) (i0 : P.underlying f0.type = some (.int .i64)) (i1 : P.underlying f1.type = some (.int .i64)) (i2 : P.underlying f2.type = some (.int .i64)) (i3 : P.underlying f3.type = some (.int .i64))
    (hv : Value.okWide P w r b0 tt v) (h : DataW.Trod enc P w base (fun _ => true) held tt v d p) : ∃ A n c rss, v = .slice A n c ∧ n ≤ c ∧ c ≤ maxLen ∧ ArgL w A n rss := by
  obtain ⟨a, len, cap, rfl⟩ := okWide_slice htt hv
  obtain ⟨fuel, hf⟩ := h
  rcases open_slice htt hf with ⟨hcs, _⟩ | ⟨x, l, c, m, n, D, Pl, hcs, _, hl, hm, hmm, _, hi⟩
  · simp [Value.cells] at hcs
    obtain ⟨rfl, rfl, rfl⟩ := hcs
    exact ⟨none, 0, 0, [], rfl, Nat.le_refl _, by simp [maxLen], rfl, fun k q hk => by simp at hk⟩
  · simp [Value.cells] at hcs
    obtain ⟨rfl, rfl, rfl⟩ := hcs
    simp only [if_true] at hmm
    subst hmm
    have H : ∀ i, i < len → ∃ q : List Rc, ∃ A' n' c', w.cell? (x.add i) = some (.slice A' n' c') ∧ n' ≤ c' ∧ c' ≤ maxLen ∧ ArgR w A' n' q := by
      intro i hi'
      obtain ⟨cs', hc, htr⟩ := hi i (by omega)
      rw [hC1] at hc
      obtain ⟨_, hcl, hat⟩ := World.cells?_some hc
      obtain ⟨A', n', c', rs, hq, h1, h2, h3⟩ := fours_cell ht he hone hC i0 i1 i2 i3 htr
      refine ⟨rs, A', n', c', ?_, h1, h2, h3⟩
      have := hat 0 (by omega)
      rw [hq] at this
      simpa [add_add] using this
    obtain ⟨vs, hrl, hrs⟩ := list_of len H
    refine ⟨some x, len, _, vs, rfl, hl, hm, hrl, fun k q hk => ?_⟩
    obtain ⟨A', n', c', h1, h2, h3, h4⟩ := hrs k q hk
    obtain ⟨b, off, spot⟩ := x
    have hspot : spot = none := by
      have hk' := (List.getElem?_eq_some_iff.1 hk).1
      obtain ⟨_, _, _, hz, _⟩ := hrs 0 _ (List.getElem?_eq_getElem (show 0 < vs.length by omega))
      simpa [Addr.add] using World.cell?_spot (hz.trans rfl)
    subst hspot
    rw [Addr.add_lit] at h1
    exact ⟨b, off, A', n', c', rfl, World.block_lt_of_cell? _ _ h1, h1, h2, h3, h4⟩
end

end Go.Proofs.YtbljapihmkmolaaGreat
