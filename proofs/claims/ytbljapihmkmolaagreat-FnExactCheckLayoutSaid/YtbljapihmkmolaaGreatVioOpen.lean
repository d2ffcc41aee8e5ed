/- The laws' arguments, opened: a violation that came in (a number and a list of rectangles). No conditions. -/
import Derived.Test.YtbljapihmkmolaaGreatDrawK
namespace Go.Proofs.YtbljapihmkmolaaGreat
open Go.RowKit Go.ChangeShapes Go.WideShapes Go.Deep Go.Joins

section
variable {H : Type} {enc : TypeId × Value → H} {P : Program} {w : World} {base : Nat} {held : Bool}

/-- A list of structs of four integers, from its cell. -/
theorem fours_cell {t e fuel : Nat} {f0 f1 f2 f3 : Field} {cs : List Value} {y : DataW H × List MemPlace} (ht : P.underlying t = some (.slice e)) (he : P.underlying e = some (.struct #[f0, f1, f2, f3])) (hone : oneCellFields P #[f0, f1, f2, f3] = true)
    (hC : P.cellsOf e = 4) (i0 : P.underlying f0.type = some (.int .i64)) (i1 : P.underlying f1.type = some (.int .i64)) (i2 : P.underlying f2.type = some (.int .i64)) (i3 : P.underlying f3.type = some (.int .i64))
    (hf : DataW.trod enc P w base (fun _ => true) held fuel t cs = some y) : ∃ A n c rs, cs = [.slice A n c] ∧ n ≤ c ∧ c ≤ maxLen ∧ ArgR w A n rs := by
  rcases open_slice ht hf with ⟨hcs, _⟩ | ⟨x, l, c, m, n, D, Pl, hcs, _, hl, hm, hmm, _, hi⟩
  · exact ⟨none, 0, 0, [], hcs, Nat.le_refl _, by simp [maxLen], rfl, by simp, fun k hk => absurd hk (by omega)⟩
  · simp only [if_true] at hmm
    subst hmm
    have H : ∀ i, i < l → ∃ q : Rc, q.in64 ∧ ∀ j, j < 4 → w.cell? (x.add (i * 4 + j)) = q.vals[j]? := by
      intro i hi'
      obtain ⟨cs', hc, htr⟩ := hi i (by omega)
      obtain ⟨q, hq, h64⟩ := four_ints he hone hC i0 i1 i2 i3 htr
      rw [hC] at hc
      obtain ⟨_, hcl, hat⟩ := World.cells?_some hc
      refine ⟨q, h64, fun j hj => ?_⟩
      rw [← add_add, hat j hj, hq]
    obtain ⟨rs, hrl, hrs⟩ := list_of _ H
    refine ⟨some x, l, _, rs, hcs, hl, hm, hrl, fun q hq => ?_, fun k hk => ?_⟩
    · obtain ⟨i, hi', hq'⟩ := List.mem_iff_getElem.1 hq
      exact (hrs i q (by rw [List.getElem?_eq_getElem hi', hq'])).1
    · have hk' : k < rs.length := by omega
      have hr : rs[k]? = some rs[k] := List.getElem?_eq_getElem hk'
      have hc := (hrs k _ hr).2
      have h0 := hc 0 (by omega)
      have h1 := hc 1 (by omega)
      have h2 := hc 2 (by omega)
      have h3 := hc 3 (by omega)
      obtain ⟨b, off, spot⟩ := x
      have hspot : spot = none := by
        by_cases e : k * 4 + 0 = 0
        · rw [e] at h0
          simpa [Addr.add] using World.cell?_spot (h0.trans rfl)
        · have hz := (hrs 0 _ (List.getElem?_eq_getElem (show 0 < rs.length by omega))).2 0 (by omega)
          simpa [Addr.add] using World.cell?_spot (hz.trans rfl)
      subst hspot
      rw [Addr.add_lit] at h0 h1 h2 h3
      exact ⟨b, off, rs[k].x0, rs[k].y0, rs[k].x1, rs[k].y1, rfl, hr, World.block_lt_of_cell? _ _ h0, h0, h1, h2, h3⟩

/-- A violation: a number and a list. -/
theorem open_vio {r : Go.Reach} {b0 tv e : Nat} {g0 g1 f0 f1 f2 f3 : Field} {v : Value} {d : DataW H} {p : List MemPlace} (hv' : P.underlying tv = some (.struct #[g0, g1])) (hone' : oneCellFields P #[g0, g1] = true) (hC' : P.cellsOf tv = 2)
    (j0 : P.underlying g0.type = some (.int .i64)) (ht : P.underlying g1.type = some (.slice e)) (he : P.underlying e = some (.struct #[f0, f1, f2, f3])) (hone : oneCellFields P #[f0, f1, f2, f3] = true)
    (hC : P.cellsOf e = 4) (i0 : P.underlying f0.type = some (.int .i64)) (i1 : P.underlying f1.type = some (.int .i64)) (i2 : P.underlying f2.type = some (.int .i64)) (i3 : P.underlying f3.type = some (.int .i64))
    (hv : Value.okWide P w r b0 tv v) (h : DataW.Trod enc P w base (fun _ => true) held tv v d p) : ∃ (k : Int) (A : Option Addr) (n c : Nat) (rs : List Rc), v = .agg #[.int .i64 k, .slice A n c] ∧ I64 k ∧ n ≤ c ∧ c ≤ maxLen ∧ ArgR w A n rs := by
  obtain ⟨cs, rfl, _⟩ := okWide_struct hv' hv
  obtain ⟨fuel, hf⟩ := h
  obtain ⟨xs, n, _, _, hlen, hxl, hg⟩ := DataW.trod_struct hv' hf
  rw [hC'] at hlen
  obtain ⟨l⟩ := cs
  match l, hlen with
  | [c0, c1], _ =>
    obtain ⟨o0, k0⟩ := hone_of hone' 0 g0 rfl
    obtain ⟨o1, k1⟩ := hone_of hone' 1 g1 rfl
    match xs, hxl with
    | [y0, y1], _ =>
      have z0 := hg 0 g0 rfl
      have z1 := hg 1 g1 rfl
      rw [o0, k0] at z0
      rw [o1, k1] at z1
      obtain ⟨a0, e0, _, b0⟩ := DataW.trod_int (x := y0) j0 (by simpa [Value.cells] using z0)
      obtain ⟨A, m, c, rs, e1, h1, h2, h3⟩ := fours_cell (y := y1) (cs := [c1]) ht he hone hC i0 i1 i2 i3 (by simpa [Value.cells] using z1)
      simp only [List.cons.injEq, and_true] at e0 e1
      subst e0 e1
      exact ⟨a0, A, m, c, rs, rfl, bounds_i64 b0, h1, h2, h3⟩
end

end Go.Proofs.YtbljapihmkmolaaGreat
