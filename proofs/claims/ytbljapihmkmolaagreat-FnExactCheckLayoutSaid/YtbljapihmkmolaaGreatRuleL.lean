/- Rules and decks that came in, opened; lists of rules in memory; the laws' helpers on rules and decks. No conditions but bounds on sizes. -/
import Derived.Test.YtbljapihmkmolaaGreatRuleV
import Derived.Test.YtbljapihmkmolaaGreatVArg
namespace Go.Proofs.YtbljapihmkmolaaGreat
open Go.RowKit Go.ChangeShapes Go.WideShapes Go.Deep Go.Joins

section
variable {H : Type} {enc : TypeId × Value → H} {P : Program} {w : World} {base : Nat} {held : Bool}
/-- A struct of five integers, in cells. -/
theorem five_ints {spare : Nat → Bool} {e fuel : Nat} {f0 f1 f2 f3 f4 : Field} {cs : List Value} {x : DataW H × List MemPlace} (he : P.underlying e = some (.struct #[f0, f1, f2, f3, f4])) (hone : oneCellFields P #[f0, f1, f2, f3, f4] = true)
    (hC : P.cellsOf e = 5) (i0 : P.underlying f0.type = some (.int .i64)) (i1 : P.underlying f1.type = some (.int .i64)) (i2 : P.underlying f2.type = some (.int .i64)) (i3 : P.underlying f3.type = some (.int .i64)) (i4 : P.underlying f4.type = some (.int .i64))
    (h : DataW.trod enc P w base spare held fuel e cs = some x) : ∃ r : Ru, cs = r.vals ∧ r.in64 := by
  obtain ⟨xs, n, _, _, hlen, hxl, hf⟩ := DataW.trod_struct he h
  rw [hC] at hlen
  match cs, hlen with
  | [c0, c1, c2, c3, c4], _ =>
    obtain ⟨o0, k0⟩ := hone_of hone 0 f0 rfl
    obtain ⟨o1, k1⟩ := hone_of hone 1 f1 rfl
    obtain ⟨o2, k2⟩ := hone_of hone 2 f2 rfl
    obtain ⟨o3, k3⟩ := hone_of hone 3 f3 rfl
    obtain ⟨o4, k4⟩ := hone_of hone 4 f4 rfl
    match xs, hxl with
    | [y0, y1, y2, y3, y4], _ =>
      have g0 := hf 0 f0 rfl
      have g1 := hf 1 f1 rfl
      have g2 := hf 2 f2 rfl
      have g3 := hf 3 f3 rfl
      have g4 := hf 4 f4 rfl
      rw [o0, k0] at g0
      rw [o1, k1] at g1
      rw [o2, k2] at g2
      rw [o3, k3] at g3
      rw [o4, k4] at g4
      obtain ⟨a0, e0, _, b0⟩ := DataW.trod_int (x := y0) i0 (by simpa using g0)
      obtain ⟨a1, e1, _, b1⟩ := DataW.trod_int (x := y1) i1 (by simpa using g1)
      obtain ⟨a2, e2, _, b2⟩ := DataW.trod_int (x := y2) i2 (by simpa using g2)
      obtain ⟨a3, e3, _, b3⟩ := DataW.trod_int (x := y3) i3 (by simpa using g3)
      obtain ⟨a4, e4, _, b4⟩ := DataW.trod_int (x := y4) i4 (by simpa using g4)
      simp only [List.cons.injEq, and_true] at e0 e1 e2 e3 e4
      subst e0 e1 e2 e3 e4
      exact ⟨⟨a0, a1, a2, a3, a4⟩, rfl, bounds_i64 b0, bounds_i64 b1, bounds_i64 b2, bounds_i64 b3, bounds_i64 b4⟩
/-- A struct of five integers by value. -/
theorem open_five {spare : Nat → Bool} {r : Go.Reach} {b0 e : Nat} {f0 f1 f2 f3 f4 : Field} {v : Value} {d : DataW H} {p : List MemPlace} (he : P.underlying e = some (.struct #[f0, f1, f2, f3, f4])) (hone : oneCellFields P #[f0, f1, f2, f3, f4] = true)
    (hC : P.cellsOf e = 5) (i0 : P.underlying f0.type = some (.int .i64)) (i1 : P.underlying f1.type = some (.int .i64)) (i2 : P.underlying f2.type = some (.int .i64)) (i3 : P.underlying f3.type = some (.int .i64)) (i4 : P.underlying f4.type = some (.int .i64))
    (hv : Value.okWide P w r b0 e v) (h : DataW.Trod enc P w base spare held e v d p) : ∃ r : Ru, v = r.val ∧ r.in64 := by
  obtain ⟨cs, rfl, _⟩ := okWide_struct he hv
  obtain ⟨fuel, hf⟩ := h
  obtain ⟨q, hq, h64⟩ := five_ints he hone hC i0 i1 i2 i3 i4 hf
  refine ⟨q, ?_, h64⟩
  have : cs = q.vals.toArray := by
    apply Array.ext'
    simpa [Value.cells] using hq
  rw [this]
  rfl
end

/-- toRule. -/
theorem toRule_any (k l o v p : Int) (w : World) : Calls Tryz.prog 12 #[.agg #[.int .i64 k, .int .i64 l, .int .i64 o, .int .i64 v, .int .i64 p]] w fun e w' => e = .returned (.agg #[.int .i64 k, .int .i64 l, .int .i64 o, .int .i64 v, .int .i64 p]) ∧ Below w.heap.size w w' := by
  go_enter Tryz.func12, Tryz.ntmps12
  go_wp2
  refine bodyPost_ret (v := .agg #[.int .i64 k, .int .i64 l, .int .i64 o, .int .i64 v, .int .i64 p]) (by simp [results, Tryz.results12, go_sem]) rfl ⟨rfl, ?_⟩
  exact ((((Below.refl _ _).alloc (Nat.le_refl _) _).alloc (by simp) _).alloc (by simp; omega) _)

end Go.Proofs.YtbljapihmkmolaaGreat
