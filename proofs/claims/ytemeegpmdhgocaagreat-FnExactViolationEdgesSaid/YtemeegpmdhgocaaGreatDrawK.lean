/- The laws' arguments, opened: lists of rectangles, rectangles, points that came in. No conditions. The codes that the laws draw from, opened: lists of bytes that came in. No conditions. Contracts: the source of numbers that the laws draw from. Condition: a well-formed source. Contracts: what the laws over drawn inputs share. No conditions. Contracts: the regions that the laws draw. Condition: a well-formed source. Contracts: the regions that the laws draw: l17Fill, l03DrawRegion. Condition: a well-formed source. Contracts: the regions that the laws draw: l17DrawRegion, l17DrawAny. Condition: a well-formed source. Contracts: the regions and distances that the laws draw: l17DrawAny, l17DrawDistance. Condition: a well-formed source. Contracts: the draws of the laws of widths and spacings: l17DrawDistance, DrawHorizontalRuns, DrawMarkWidth, DrawMarkSpacing, DrawMarkSpacingBetween. No conditions. -/
import Derived.Test.YtemeegpmdhgocaaGreatMemA
import Derived.ProofKit
import Derived.OpenShut
import Derived.Deep.Slices
import Derived.Deep.Fields
import Derived.Lib.SmallJoins
import Derived.Test.YtemeegpmdhgocaaGreatCanonA
import Derived.Deep.RegionHeld3
import Derived.Test.YtemeegpmdhgocaaGreatCovA
import Derived.StillTailTactics
import Derived.Test.YtemeegpmdhgocaaGreatAllRuns
import Derived.Test.YtemeegpmdhgocaaGreatMathA
import Derived.Test.YtemeegpmdhgocaaGreatCombA
namespace Go.Proofs.YtemeegpmdhgocaaGreat
open Go.RowKit Go.ChangeShapes Go.WideShapes Go.Deep Go.Joins

/-- A number that fits int64. -/
def I64 (n : Int) : Prop := -9223372036854775808 ≤ n ∧ n ≤ 9223372036854775807
def Rc.in64 (r : Rc) : Prop := I64 r.x0 ∧ I64 r.y0 ∧ I64 r.x1 ∧ I64 r.y1

/-- What is known of a list of rectangles that came in. -/
structure ArgR (w : World) (A : Option Addr) (n : Nat) (rs : List Rc) : Prop where
  len : rs.length = n
  in64 : ∀ r ∈ rs, r.in64
  elem : ∀ k, k < n → ∃ b off x0 y0 x1 y1, A = some ⟨b, off, none⟩ ∧ rs[k]? = some ⟨x0, y0, x1, y1⟩ ∧ b < w.heap.size ∧ w.cell? ⟨b, off + k * 4, none⟩ = some (.int .i64 x0) ∧ w.cell? ⟨b, off + k * 4 + 1, none⟩ = some (.int .i64 y0) ∧
    w.cell? ⟨b, off + k * 4 + 2, none⟩ = some (.int .i64 x1) ∧ w.cell? ⟨b, off + k * 4 + 3, none⟩ = some (.int .i64 y1)

theorem ArgR.on {w w' : World} {A : Option Addr} {n : Nat} {rs : List Rc} (h : ArgR w A n rs) (hb : Below w.heap.size w w') : ArgR w' A n rs :=
  ⟨h.len, h.in64, fun k hk => by
    obtain ⟨b, off, x0, y0, x1, y1, hA, hr, hbl, h0, h1, h2, h3⟩ := h.elem k hk
    exact ⟨b, off, x0, y0, x1, y1, hA, hr, Nat.lt_of_lt_of_le hbl hb.size, (hb.cell (p := ⟨b, _, none⟩) hbl).trans h0, (hb.cell (p := ⟨b, _, none⟩) hbl).trans h1, (hb.cell (p := ⟨b, _, none⟩) hbl).trans h2, (hb.cell (p := ⟨b, _, none⟩) hbl).trans h3⟩⟩
theorem ArgR.below {w w' : World} {B : Nat} {A : Option Addr} {n : Nat} {rs : List Rc} (h : ArgR w A n rs) (hB : B = w.heap.size) (hb : Below B w w') : ArgR w' A n rs := h.on (hB ▸ hb)

theorem list_of {α : Type} {p : Nat → α → Prop} : ∀ n, (∀ i, i < n → ∃ x, p i x) → ∃ l : List α, l.length = n ∧ ∀ (i : Nat) (x : α), l[i]? = some x → p i x
  | 0, _ => ⟨[], rfl, fun i x h => by simp at h⟩
  | n + 1, h => by
    obtain ⟨l, hl, hp⟩ := list_of n (fun i hi => h i (by omega))
    obtain ⟨x, hx⟩ := h n (by omega)
    refine ⟨l ++ [x], by simp [hl], fun i y hy => ?_⟩
    by_cases hi : i < n
    · rw [List.getElem?_append_left (by omega)] at hy
      exact hp i y hy
    · rw [List.getElem?_append_right (by omega)] at hy
      have e : i = n := by
        have := (List.getElem?_eq_some_iff.1 hy).1
        simp at this
        omega
      subst e
      simp [hl] at hy
      subst hy
      exact hx

section
variable {H : Type} {enc : TypeId × Value → H} {P : Program} {w : World} {base : Nat} {spare : Nat → Bool} {held : Bool}

/-- A struct of four integers, in cells. -/
theorem four_ints {e fuel : Nat} {f0 f1 f2 f3 : Field} {cs : List Value} {x : DataW H × List MemPlace} (he : P.underlying e = some (.struct #[f0, f1, f2, f3])) (hone : oneCellFields P #[f0, f1, f2, f3] = true)
    (hC : P.cellsOf e = 4) (i0 : P.underlying f0.type = some (.int .i64)) (i1 : P.underlying f1.type = some (.int .i64)) (i2 : P.underlying f2.type = some (.int .i64)) (i3 : P.underlying f3.type = some (.int .i64))
    (h : DataW.trod enc P w base spare held fuel e cs = some x) :
    ∃ r : Rc, cs = r.vals ∧ r.in64 := by
  obtain ⟨xs, n, _, _, hlen, hxl, hf⟩ := DataW.trod_struct he h
  rw [hC] at hlen
  match cs, hlen with
  | [c0, c1, c2, c3], _ =>
    obtain ⟨o0, k0⟩ := hone_of hone 0 f0 rfl
    obtain ⟨o1, k1⟩ := hone_of hone 1 f1 rfl
    obtain ⟨o2, k2⟩ := hone_of hone 2 f2 rfl
    obtain ⟨o3, k3⟩ := hone_of hone 3 f3 rfl
    match xs, hxl with
    | [y0, y1, y2, y3], _ =>
      have g0 := hf 0 f0 rfl
      have g1 := hf 1 f1 rfl
      have g2 := hf 2 f2 rfl
      have g3 := hf 3 f3 rfl
      rw [o0, k0] at g0
      rw [o1, k1] at g1
      rw [o2, k2] at g2
      rw [o3, k3] at g3
      obtain ⟨a0, e0, _, b0⟩ := DataW.trod_int (x := y0) i0 (by simpa using g0)
      obtain ⟨a1, e1, _, b1⟩ := DataW.trod_int (x := y1) i1 (by simpa using g1)
      obtain ⟨a2, e2, _, b2⟩ := DataW.trod_int (x := y2) i2 (by simpa using g2)
      obtain ⟨a3, e3, _, b3⟩ := DataW.trod_int (x := y3) i3 (by simpa using g3)
      simp only [List.cons.injEq, and_true] at e0 e1 e2 e3
      subst e0 e1 e2 e3
      exact ⟨⟨a0, a1, a2, a3⟩, rfl, bounds_i64 b0, bounds_i64 b1, bounds_i64 b2, bounds_i64 b3⟩

theorem two_ints {e fuel : Nat} {f0 f1 : Field} {cs : List Value} {x : DataW H × List MemPlace} (he : P.underlying e = some (.struct #[f0, f1])) (hone : oneCellFields P #[f0, f1] = true)
    (hC : P.cellsOf e = 2) (i0 : P.underlying f0.type = some (.int .i64)) (i1 : P.underlying f1.type = some (.int .i64)) (h : DataW.trod enc P w base spare held fuel e cs = some x) :
    ∃ a b : Int, cs = [.int .i64 a, .int .i64 b] ∧ I64 a ∧ I64 b := by
  obtain ⟨xs, n, _, _, hlen, hxl, hf⟩ := DataW.trod_struct he h
  rw [hC] at hlen
  match cs, hlen with
  | [c0, c1], _ =>
    obtain ⟨o0, k0⟩ := hone_of hone 0 f0 rfl
    obtain ⟨o1, k1⟩ := hone_of hone 1 f1 rfl
    match xs, hxl with
    | [y0, y1], _ =>
      have g0 := hf 0 f0 rfl
      have g1 := hf 1 f1 rfl
      rw [o0, k0] at g0
      rw [o1, k1] at g1
      obtain ⟨a0, e0, _, b0⟩ := DataW.trod_int (x := y0) i0 (by simpa using g0)
      obtain ⟨a1, e1, _, b1⟩ := DataW.trod_int (x := y1) i1 (by simpa using g1)
      simp only [List.cons.injEq, and_true] at e0 e1
      subst e0 e1
      exact ⟨a0, a1, rfl, bounds_i64 b0, bounds_i64 b1⟩

/-- A struct of four integers by value. -/
theorem open_four {r : Go.Reach} {b0 e : Nat} {f0 f1 f2 f3 : Field} {v : Value} {d : DataW H} {p : List MemPlace} (he : P.underlying e = some (.struct #[f0, f1, f2, f3])) (hone : oneCellFields P #[f0, f1, f2, f3] = true)
    (hC : P.cellsOf e = 4) (i0 : P.underlying f0.type = some (.int .i64)) (i1 : P.underlying f1.type = some (.int .i64)) (i2 : P.underlying f2.type = some (.int .i64)) (i3 : P.underlying f3.type = some (.int .i64))
    (hv : Value.okWide P w r b0 e v) (h : DataW.Trod enc P w base spare held e v d p) : ∃ r : Rc, v = r.val ∧ r.in64 := by
  obtain ⟨cs, rfl, _⟩ := okWide_struct he hv
  obtain ⟨fuel, hf⟩ := h
  obtain ⟨q, hq, h64⟩ := four_ints he hone hC i0 i1 i2 i3 hf
  refine ⟨q, ?_, h64⟩
  have : cs = q.vals.toArray := by
    apply Array.ext'
    simpa [Value.cells] using hq
  rw [this]
  rfl
theorem open_two {r : Go.Reach} {b0 e : Nat} {f0 f1 : Field} {v : Value} {d : DataW H} {p : List MemPlace} (he : P.underlying e = some (.struct #[f0, f1])) (hone : oneCellFields P #[f0, f1] = true)
    (hC : P.cellsOf e = 2) (i0 : P.underlying f0.type = some (.int .i64)) (i1 : P.underlying f1.type = some (.int .i64))
    (hv : Value.okWide P w r b0 e v) (h : DataW.Trod enc P w base spare held e v d p) : ∃ a b : Int, v = .agg #[.int .i64 a, .int .i64 b] ∧ I64 a ∧ I64 b := by
  obtain ⟨cs, rfl, _⟩ := okWide_struct he hv
  obtain ⟨fuel, hf⟩ := h
  obtain ⟨x, y, hq, h64⟩ := two_ints he hone hC i0 i1 hf
  refine ⟨x, y, ?_, h64⟩
  have : cs = #[.int .i64 x, .int .i64 y] := by
    apply Array.ext'
    simpa [Value.cells] using hq
  rw [this]

/-- A list of structs of four integers. -/
theorem open_fours {r : Go.Reach} {b0 t e : Nat} {f0 f1 f2 f3 : Field} {v : Value} {d : DataW H} {p : List MemPlace} (ht : P.underlying t = some (.slice e)) (he : P.underlying e = some (.struct #[f0, f1, f2, f3])) (hone : oneCellFields P #[f0, f1, f2, f3] = true)
    (hC : P.cellsOf e = 4) (i0 : P.underlying f0.type = some (.int .i64)) (i1 : P.underlying f1.type = some (.int .i64)) (i2 : P.underlying f2.type = some (.int .i64)) (i3 : P.underlying f3.type = some (.int .i64))
    (hv : Value.okWide P w r b0 t v) (h : DataW.Trod enc P w base (fun _ => true) held t v d p) : ∃ A n c rs, v = .slice A n c ∧ n ≤ c ∧ c ≤ maxLen ∧ ArgR w A n rs := by
  obtain ⟨a, len, cap, rfl⟩ := okWide_slice ht hv
  obtain ⟨fuel, hf⟩ := h
  rcases open_slice ht hf with ⟨hcs, _⟩ | ⟨x, l, c, m, n, D, Pl, hcs, _, hl, hm, hmm, _, hi⟩
  · simp [Value.cells] at hcs
    obtain ⟨rfl, rfl, rfl⟩ := hcs
    exact ⟨none, 0, 0, [], rfl, Nat.le_refl _, by simp [maxLen], rfl, by simp, fun k hk => absurd hk (by omega)⟩
  · simp [Value.cells] at hcs
    obtain ⟨rfl, rfl, rfl⟩ := hcs
    simp only [if_true] at hmm
    subst hmm
    have H : ∀ i, i < len → ∃ q : Rc, q.in64 ∧ ∀ j, j < 4 → w.cell? (x.add (i * 4 + j)) = q.vals[j]? := by
      intro i hi'
      obtain ⟨cs', hc, htr⟩ := hi i (by omega)
      obtain ⟨q, hq, h64⟩ := four_ints he hone hC i0 i1 i2 i3 htr
      rw [hC] at hc
      obtain ⟨_, hcl, hat⟩ := World.cells?_some hc
      refine ⟨q, h64, fun j hj => ?_⟩
      rw [← add_add, hat j hj, hq]
    obtain ⟨rs, hrl, hrs⟩ := list_of len H
    refine ⟨some x, len, _, rs, rfl, hl, hm, hrl, fun q hq => ?_, fun k hk => ?_⟩
    · obtain ⟨i, hi', hq'⟩ := List.mem_iff_getElem.1 hq
      exact (hrs i q (by rw [List.getElem?_eq_getElem hi', hq'])).1
    · have hk' : k < rs.length := by omega
      have hr : rs[k]? = some rs[k] := List.getElem?_eq_getElem hk'
      have hc := (hrs k _ hr).2
      have h0 := hc 0 (by omega)
      have h1 := hc 1 (by omega)
      have h2 := hc 2 (by omega)
      have h3 := hc 3 (by omega)
      obtain ⟨b, off, spot⟩ := x
      have hspot : spot = none := by
        by_cases e : k * 4 + 0 = 0
        · rw [e] at h0
          simpa [Addr.add] using World.cell?_spot (h0.trans rfl)
        · have hz := (hrs 0 _ (List.getElem?_eq_getElem (show 0 < rs.length by omega))).2 0 (by omega)
          simpa [Addr.add] using World.cell?_spot (hz.trans rfl)
      subst hspot
      rw [Addr.add_lit] at h0 h1 h2 h3
      exact ⟨b, off, rs[k].x0, rs[k].y0, rs[k].x1, rs[k].y1, rfl, hr, World.block_lt_of_cell? _ _ h0, h0, h1, h2, h3⟩
end

end Go.Proofs.YtemeegpmdhgocaaGreat

namespace Go.Proofs.YtemeegpmdhgocaaGreat
open Go.RowKit Go.ChangeShapes Go.WideShapes Go.Deep Go.Joins

/-- What is known of a list of bytes that came in. -/
structure ArgB (w : World) (A : Option Addr) (n : Nat) : Prop where
  elem : ∀ k, k < n → ∃ b off x, A = some ⟨b, off, none⟩ ∧ b < w.heap.size ∧ w.cell? ⟨b, off + k, none⟩ = some (.int .u8 x) ∧ 0 ≤ x ∧ x ≤ 255
theorem ArgB.on {w w' : World} {A : Option Addr} {n : Nat} (h : ArgB w A n) (hb : Below w.heap.size w w') : ArgB w' A n :=
  ⟨fun k hk => by
    obtain ⟨b, off, x, hA, hbl, h0, h1⟩ := h.elem k hk
    exact ⟨b, off, x, hA, Nat.lt_of_lt_of_le hbl hb.size, (hb.cell (p := ⟨b, off + k, none⟩) hbl).trans h0, h1⟩⟩
/-- A block that is not the bytes' is written: the bytes stay. -/
theorem ArgB.low {B : Nat} {w w' : World} {A : Option Addr} {n : Nat} (h : ArgB w A n) (hA : ∀ p, A = some p → 0 < n → p.block < B) (hb : Below B w w') : ArgB w' A n :=
  ⟨fun k hk => by
    obtain ⟨b, off, x, rfl, hbl, h0, h1⟩ := h.elem k hk
    have := hA _ rfl (by omega)
    exact ⟨b, off, x, rfl, Nat.lt_of_lt_of_le hbl hb.size, (hb.cell (p := ⟨b, off + k, none⟩) this).trans h0, h1⟩⟩
theorem ArgB.at_ {w : World} {A : Option Addr} {n : Nat} (h : ArgB w A n) : ∀ p, A = some p → 0 < n → p.block < w.heap.size := fun p hp hn => by
  obtain ⟨b, off, x, rfl, hb, _⟩ := h.elem 0 hn
  rw [Option.some.injEq] at hp
  rw [← hp]
  exact hb
section
variable {H : Type} {enc : TypeId × Value → H} {P : Program} {w : World} {base : Nat} {held : Bool}
/-- A list of bytes. -/
theorem open_bytes {r : Go.Reach} {b0 t e : Nat} {v : Value} {d : DataW H} {p : List MemPlace} (ht : P.underlying t = some (.slice e)) (he : P.underlying e = some (.int .u8)) (hC : P.cellsOf e = 1)
    (hv : Value.okWide P w r b0 t v) (h : DataW.Trod enc P w base (fun _ => true) held t v d p) : ∃ A n c, v = .slice A n c ∧ n ≤ c ∧ c ≤ maxLen ∧ ArgB w A n := by
  obtain ⟨a, len, cap, rfl⟩ := okWide_slice ht hv
  obtain ⟨fuel, hf⟩ := h
  rcases open_slice1 ht hC hf with ⟨hcs, _⟩ | ⟨x, l, c, m, n, V, D, Pl, hcs, _, hl, hm, hmm, _, hi⟩
  · simp [Value.cells] at hcs
    obtain ⟨rfl, rfl, rfl⟩ := hcs
    exact ⟨none, 0, 0, rfl, Nat.le_refl _, by simp [maxLen], ⟨fun k hk => absurd hk (by omega)⟩⟩
  · simp [Value.cells] at hcs
    obtain ⟨rfl, rfl, rfl⟩ := hcs
    simp only [if_true] at hmm
    subst hmm
    have H : ∀ i, i < len → ∃ q : Int, w.cell? (x.add i) = some (.int .u8 q) ∧ 0 ≤ q ∧ q ≤ 255 := by
      intro i hi'
      obtain ⟨hc, htr⟩ := hi i (by omega)
      obtain ⟨q, e1, _, b1⟩ := DataW.trod_int he htr
      simp only [List.cons.injEq, and_true] at e1
      rw [e1] at hc
      exact ⟨q, hc, bounds_u8 b1⟩
    refine ⟨some x, len, _, rfl, hl, hm, ⟨fun k hk => ?_⟩⟩
    obtain ⟨q, hc, hb⟩ := H k hk
    obtain ⟨b, off, spot⟩ := x
    have hspot : spot = none := by
      obtain ⟨q0, hc0, _⟩ := H 0 (by omega)
      simpa [Addr.add] using World.cell?_spot (hc0.trans rfl)
    subst hspot
    rw [Addr.add_lit] at hc
    exact ⟨b, off, q, rfl, World.block_lt_of_cell? _ _ hc, hc, hb⟩
end

end Go.Proofs.YtemeegpmdhgocaaGreat

namespace Go.Proofs.YtemeegpmdhgocaaGreat
open Go.RowKit

section
variable {w w' : World} {g : Nat}
theorem grown_below {row : Option Nat} {B : Nat} (hg : w.grownBy w' row) (hr : ∀ q, row = some q → B ≤ q) (hB : B ≤ w.heap.size) : Below B w w' :=
  ⟨hg.os, hg.tape, hg.output, hg.size, fun i hi => hg.block i (by omega) (fun e => by have := hr i e.symm; omega)⟩
theorem box3 {t : TypeId} {a b c : Value} (h : Bk w g t #[a, b, c]) : w.cell? ⟨g, 0, none⟩ = some a ∧ w.cell? ⟨g, 1, none⟩ = some b ∧ w.cell? ⟨g, 2, none⟩ = some c := ⟨h.cell 0, h.cell 1, h.cell 2⟩
end
theorem emod_in {x n : Int} (hn : 0 < n) : 0 ≤ x % n ∧ x % n < n := ⟨Int.emod_nonneg x (by omega), Int.emod_lt_of_pos x hn⟩
end Go.Proofs.YtemeegpmdhgocaaGreat

namespace Go.Proofs.YtemeegpmdhgocaaGreat
open Go.RowKit

end Go.Proofs.YtemeegpmdhgocaaGreat

namespace Go.Proofs.YtemeegpmdhgocaaGreat
open Go.RowKit

theorem only_above {a w w' : World} {row : Option Nat} (h : a.grownBy w row) (hb : Below a.heap.size w w') : a.grownBy w' row :=
  ⟨hb.os.trans h.os, hb.tape.trans h.tape, hb.output.trans h.output, Nat.le_trans h.size hb.size, fun i hi hne => (hb.block i hi).trans (h.block i hi hne)⟩

end Go.Proofs.YtemeegpmdhgocaaGreat

namespace Go.Proofs.YtemeegpmdhgocaaGreat
open Go.RowKit

theorem RL.keptG {w w' : World} {g B : Nat} {v : Value} {rs : List Rc} (h : RL w B v rs) (hg : w.grownBy w' (some g)) (hB : g < B) : RL w' B v rs := by
  refine World.ownsRow.kept h hg ?_
  cases hv : v.ownBlock with
  | none => exact .inl rfl
  | some q =>
    right
    intro he
    rw [Option.some.injEq] at he
    have := (own_lt h q hv).1
    omega

end Go.Proofs.YtemeegpmdhgocaaGreat

namespace Go.Proofs.YtemeegpmdhgocaaGreat
open Go.RowKit

end Go.Proofs.YtemeegpmdhgocaaGreat

namespace Go.Proofs.YtemeegpmdhgocaaGreat
open Go.RowKit

theorem RL.lit (w : World) {B : Nat} (hB : B ≤ w.heap.size) (x0 y0 x1 y1 : Int) : RL (w.alloc (.cells #[.int .i64 x0, .int .i64 y0, .int .i64 x1, .int .i64 y1] 88)) B (.slice (some ⟨w.heap.size, 0, none⟩) 1 1) [⟨x0, y0, x1, y1⟩] := World.ownsRow_lit w #[.int .i64 x0, .int .i64 y0, .int .i64 x1, .int .i64 y1] 1 hB (by simp [maxLen]) rfl

end Go.Proofs.YtemeegpmdhgocaaGreat

namespace Go.Proofs.YtemeegpmdhgocaaGreat
open Go.RowKit

end Go.Proofs.YtemeegpmdhgocaaGreat
