/- The codes that the laws draw from, opened: lists of bytes that came in. No conditions. -/
import Derived.Test.YtooglkdloaaomaaArgs
namespace Go.Proofs.Ytooglkdloaaomaa
open Go.RowKit Go.ChangeShapes Go.WideShapes Go.Deep Go.Joins

/-- What is known of a list of bytes that came in. -/
structure ArgB (w : World) (A : Option Addr) (n : Nat) : Prop where
  elem : ∀ k, k < n → ∃ b off x, A = some ⟨b, off, none⟩ ∧ b < w.heap.size ∧ w.cell? ⟨b, off + k, none⟩ = some (.int .u8 x) ∧ 0 ≤ x ∧ x ≤ 255
theorem ArgB.on {w w' : World} {A : Option Addr} {n : Nat} (h : ArgB w A n) (hb : Below w.heap.size w w') : ArgB w' A n :=
  ⟨fun k hk => by
    obtain ⟨b, off, x, hA, hbl, h0, h1⟩ := h.elem k hk
    exact ⟨b, off, x, hA, Nat.lt_of_lt_of_le hbl hb.size, (hb.cell (p := ⟨b, off + k, none⟩) hbl).trans h0, h1⟩⟩
/-- A block that is not the bytes' is written: the bytes stay. -/
theorem ArgB.low {B : Nat} {w w' : World} {A : Option Addr} {n : Nat} (h : ArgB w A n) (hA : ∀ p, A = some p → 0 < n → p.block < B) (hb : Below B w w') : ArgB w' A n :=
  ⟨fun k hk => by
    obtain ⟨b, off, x, rfl, hbl, h0, h1⟩ := h.elem k hk
    have := hA _ rfl (by omega)
    exact ⟨b, off, x, rfl, Nat.lt_of_lt_of_le hbl hb.size, (hb.cell (p := ⟨b, off + k, none⟩) this).trans h0, h1⟩⟩
theorem ArgB.at_ {w : World} {A : Option Addr} {n : Nat} (h : ArgB w A n) : ∀ p, A = some p → 0 < n → p.block < w.heap.size := fun p hp hn => by
  obtain ⟨b, off, x, rfl, hb, _⟩ := h.elem 0 hn
  rw [Option.some.injEq] at hp
  rw [← hp]
  exact hb
section
variable {H : Type} {enc : TypeId × Value → H} {P : Program} {w : World} {base : Nat} {held : Bool}
/-- A list of bytes. -/
theorem open_bytes {r : Reach} {b0 t e : Nat} {v : Value} {d : DataW H} {p : List MemPlace} (ht : P.underlying t = some (.slice e)) (he : P.underlying e = some (.int .u8)) (hC : P.cellsOf e = 1)
    (hv : Value.okWide P w r b0 t v) (h : DataW.Trod enc P w base (fun _ => true) held t v d p) : ∃ A n c, v = .slice A n c ∧ n ≤ c ∧ c ≤ maxLen ∧ ArgB w A n := by
  obtain ⟨a, len, cap, rfl⟩ := okWide_slice ht hv
  obtain ⟨fuel, hf⟩ := h
  rcases open_slice1 ht hC hf with ⟨hcs, _⟩ | ⟨x, l, c, m, n, V, D, Pl, hcs, _, hl, hm, hmm, _, hi⟩
  · simp [Value.cells] at hcs
    obtain ⟨rfl, rfl, rfl⟩ := hcs
    exact ⟨none, 0, 0, rfl, Nat.le_refl _, by simp [maxLen], ⟨fun k hk => absurd hk (by omega)⟩⟩
  · simp [Value.cells] at hcs
    obtain ⟨rfl, rfl, rfl⟩ := hcs
    simp only [if_true] at hmm
    subst hmm
    have H : ∀ i, i < len → ∃ q : Int, w.cell? (x.add i) = some (.int .u8 q) ∧ 0 ≤ q ∧ q ≤ 255 := by
      intro i hi'
      obtain ⟨hc, htr⟩ := hi i (by omega)
      obtain ⟨q, e1, _, b1⟩ := DataW.trod_int he htr
      simp only [List.cons.injEq, and_true] at e1
      rw [e1] at hc
      exact ⟨q, hc, bounds_u8 b1⟩
    refine ⟨some x, len, _, rfl, hl, hm, ⟨fun k hk => ?_⟩⟩
    obtain ⟨q, hc, hb⟩ := H k hk
    obtain ⟨b, off, spot⟩ := x
    have hspot : spot = none := by
      obtain ⟨q0, hc0, _⟩ := H 0 (by omega)
      simpa [Addr.add] using World.cell?_spot (hc0.trans rfl)
    subst hspot
    rw [Addr.add_lit] at hc
    exact ⟨b, off, q, rfl, World.block_lt_of_cell? _ _ hc, hc, hb⟩
end

end Go.Proofs.Ytooglkdloaaomaa
