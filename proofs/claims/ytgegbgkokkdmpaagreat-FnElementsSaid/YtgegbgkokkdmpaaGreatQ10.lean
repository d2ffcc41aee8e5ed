/- Contracts: one violation: szViolation, toViolation, eqViolation. Condition: a well-formed argument. The laws' arguments, opened: a violation that came in (a number and a list of rectangles). No conditions. What memory holds: lists of violations; changes that keep to some blocks. No conditions. The laws' arguments, opened: a list of violations and a list of lists of rectangles that came in. No conditions. Contracts: the laws' helpers on lists of violations: szViolationS, toViolationS, eqViolationS, markViolationS, heldViolationS. Conditions: the lists lie in memory; bounds on their sizes. -/
import Derived.Test.YtgegbgkokkdmpaaGreatQ09
import Derived.Test.YtgegbgkokkdmpaaGreatQ08
import Derived.Test.YtgegbgkokkdmpaaGreatQ06
import Derived.StillTailTactics

namespace Go.Proofs.YtgegbgkokkdmpaaGreat
open Go.RowKit

end Go.Proofs.YtgegbgkokkdmpaaGreat

namespace Go.Proofs.YtgegbgkokkdmpaaGreat
open Go.RowKit Go.ChangeShapes Go.WideShapes Go.Deep Go.Joins

section
variable {H : Type} {enc : TypeId × Value → H} {P : Program} {w : World} {base : Nat} {held : Bool}

/-- A list of structs of four integers, from its cell. -/
theorem fours_cell {t e fuel : Nat} {f0 f1 f2 f3 : Field} {cs : List Value} {y : DataW H × List MemPlace} (ht : P.underlying t = some (.slice e)) (he : P.underlying e = some (.struct #[f0, f1, f2, f3])) (hone : oneCellFields P #[f0, f1, f2, f3] = true)
    (hC : P.cellsOf e = 4) (i0 : P.underlying f0.type = some (.int .i64)) (i1 : P.underlying f1.type = some (.int .i64)) (i2 : P.underlying f2.type = some (.int .i64)) (i3 : P.underlying f3.type = some (.int .i64))
    (hf : DataW.trod enc P w base (fun _ => true) held fuel t cs = some y) : ∃ A n c rs, cs = [.slice A n c] ∧ n ≤ c ∧ c ≤ maxLen ∧ ArgR w A n rs := by
  rcases open_slice ht hf with ⟨hcs, _⟩ | ⟨x, l, c, m, n, D, Pl, hcs, _, hl, hm, hmm, _, hi⟩
  · exact ⟨none, 0, 0, [], hcs, Nat.le_refl _, by simp [maxLen], rfl, by simp, fun k hk => absurd hk (by omega)⟩
  · simp only [if_true] at hmm
    subst hmm
    have H : ∀ i, i < l → ∃ q : Rc, q.in64 ∧ ∀ j, j < 4 → w.cell? (x.add (i * 4 + j)) = q.vals[j]? := by
      intro i hi'
      obtain ⟨cs', hc, htr⟩ := hi i (by omega)
      obtain ⟨q, hq, h64⟩ := four_ints he hone hC i0 i1 i2 i3 htr
      rw [hC] at hc
      obtain ⟨_, hcl, hat⟩ := World.cells?_some hc
      refine ⟨q, h64, fun j hj => ?_⟩
      rw [← add_add, hat j hj, hq]
    obtain ⟨rs, hrl, hrs⟩ := list_of _ H
    refine ⟨some x, l, _, rs, hcs, hl, hm, hrl, fun q hq => ?_, fun k hk => ?_⟩
    · obtain ⟨i, hi', hq'⟩ := List.mem_iff_getElem.1 hq
      exact (hrs i q (by rw [List.getElem?_eq_getElem hi', hq'])).1
    · have hk' : k < rs.length := by omega
      have hr : rs[k]? = some rs[k] := List.getElem?_eq_getElem hk'
      have hc := (hrs k _ hr).2
      have h0 := hc 0 (by omega)
      have h1 := hc 1 (by omega)
      have h2 := hc 2 (by omega)
      have h3 := hc 3 (by omega)
      obtain ⟨b, off, spot⟩ := x
      have hspot : spot = none := by
        by_cases e : k * 4 + 0 = 0
        · rw [e] at h0
          simpa [Addr.add] using World.cell?_spot (h0.trans rfl)
        · have hz := (hrs 0 _ (List.getElem?_eq_getElem (show 0 < rs.length by omega))).2 0 (by omega)
          simpa [Addr.add] using World.cell?_spot (hz.trans rfl)
      subst hspot
      rw [Addr.add_lit] at h0 h1 h2 h3
      exact ⟨b, off, rs[k].x0, rs[k].y0, rs[k].x1, rs[k].y1, rfl, hr, World.block_lt_of_cell? _ _ h0, h0, h1, h2, h3⟩

/-- A violation: a number and a list. -/
theorem open_vio {r : Go.Reach} {b0 tv e : Nat} {g0 g1 f0 f1 f2 f3 : Field} {v : Value} {d : DataW H} {p : List MemPlace} (hv' : P.underlying tv = some (.struct #[g0, g1])) (hone' : oneCellFields P #[g0, g1] = true) (hC' : P.cellsOf tv = 2)
    (j0 : P.underlying g0.type = some (.int .i64)) (ht : P.underlying g1.type = some (.slice e)) (he : P.underlying e = some (.struct #[f0, f1, f2, f3])) (hone : oneCellFields P #[f0, f1, f2, f3] = true)
    (hC : P.cellsOf e = 4) (i0 : P.underlying f0.type = some (.int .i64)) (i1 : P.underlying f1.type = some (.int .i64)) (i2 : P.underlying f2.type = some (.int .i64)) (i3 : P.underlying f3.type = some (.int .i64))
    (hv : Value.okWide P w r b0 tv v) (h : DataW.Trod enc P w base (fun _ => true) held tv v d p) : ∃ (k : Int) (A : Option Addr) (n c : Nat) (rs : List Rc), v = .agg #[.int .i64 k, .slice A n c] ∧ I64 k ∧ n ≤ c ∧ c ≤ maxLen ∧ ArgR w A n rs := by
  obtain ⟨cs, rfl, _⟩ := okWide_struct hv' hv
  obtain ⟨fuel, hf⟩ := h
  obtain ⟨xs, n, _, _, hlen, hxl, hg⟩ := DataW.trod_struct hv' hf
  rw [hC'] at hlen
  obtain ⟨l⟩ := cs
  match l, hlen with
  | [c0, c1], _ =>
    obtain ⟨o0, k0⟩ := hone_of hone' 0 g0 rfl
    obtain ⟨o1, k1⟩ := hone_of hone' 1 g1 rfl
    match xs, hxl with
    | [y0, y1], _ =>
      have z0 := hg 0 g0 rfl
      have z1 := hg 1 g1 rfl
      rw [o0, k0] at z0
      rw [o1, k1] at z1
      obtain ⟨a0, e0, _, b0⟩ := DataW.trod_int (x := y0) j0 (by simpa [Value.cells] using z0)
      obtain ⟨A, m, c, rs, e1, h1, h2, h3⟩ := fours_cell (y := y1) (cs := [c1]) ht he hone hC i0 i1 i2 i3 (by simpa [Value.cells] using z1)
      simp only [List.cons.injEq, and_true] at e0 e1
      subst e0 e1
      exact ⟨a0, A, m, c, rs, rfl, bounds_i64 b0, h1, h2, h3⟩
end

end Go.Proofs.YtgegbgkokkdmpaaGreat

namespace Go.Proofs.YtgegbgkokkdmpaaGreat
open Go.RowKit

/-- Only blocks from lo on, below hi, have changed; new ones may lie behind. -/
structure Mid (lo hi : Nat) (w w' : World) : Prop where
  os : w'.os = w.os
  tape : w'.tape = w.tape
  output : w'.output = w.output
  size : w.heap.size ≤ w'.heap.size
  block : ∀ k, k < w.heap.size → k < lo ∨ hi ≤ k → w'.heap[k]? = w.heap[k]?
section
variable {w w' w2 : World} {lo hi B n size : Nat} {e : TypeId} {v : Value} {xs : List Value}
theorem Mid.refl (lo hi : Nat) (w : World) : Mid lo hi w w := ⟨rfl, rfl, rfl, Nat.le_refl _, fun _ _ _ => rfl⟩
theorem Mid.trans (h : Mid lo hi w w') (k : Mid lo hi w' w2) : Mid lo hi w w2 :=
  ⟨k.os.trans h.os, k.tape.trans h.tape, k.output.trans h.output, Nat.le_trans h.size k.size, fun b hb ho => (k.block b (Nat.lt_of_lt_of_le hb h.size) ho).trans (h.block b hb ho)⟩
theorem Mid.of_grown {row : Option Nat} (h : w.grownBy w' row) (hr : ∀ g, row = some g → lo ≤ g ∧ g < hi) : Mid lo hi w w' :=
  ⟨h.os, h.tape, h.output, h.size, fun b hb ho => h.block b hb (fun e => by have := hr b e.symm; omega)⟩
theorem Mid.of_below (h : Below w.heap.size w w') : Mid lo hi w w' := ⟨h.os, h.tape, h.output, h.size, fun b hb _ => h.block b hb⟩
theorem Mid.below (h : Mid lo hi w w') (hlo : B ≤ lo) (hB : B ≤ w.heap.size) : Below B w w' := ⟨h.os, h.tape, h.output, h.size, fun b hb => h.block b (by omega) (.inl (by omega))⟩
theorem Mid.own (h : Mid lo hi w w') (ho : w.ownsRow B e size v n xs) (hv : ∀ g, v.ownBlock = some g → g < lo ∨ hi ≤ g) : w'.ownsRow B e size v n xs := by
  refine ⟨ho.1, ?_⟩
  rcases ho.2 with hn | ⟨g, cap, cur, rfl, hb, hgg, rest⟩
  · exact .inl hn
  · refine .inr ⟨g, cap, cur, rfl, hb, ?_, rest⟩
    rw [h.block g (Array.getElem?_eq_some_iff.1 hgg).1 (hv g rfl)]
    exact hgg
end

/-- The cells of a list of violations: the numbers, and the lists' values. -/
def flatV : List (Int × List Rc) → List Value → List Value
  | q :: vs, u :: us => .int .i64 q.1 :: u :: flatV vs us
  | _, _ => []
theorem flatV_length : ∀ (vs : List (Int × List Rc)) (us : List Value), us.length = vs.length → (flatV vs us).length = vs.length * 2
  | [], _, _ => rfl
  | q :: vs, [], h => by simp at h
  | q :: vs, u :: us, h => by
    have ih := flatV_length vs us (by simpa using h)
    simp only [flatV, List.length_cons, ih]
    omega
theorem flatV_append : ∀ (vs : List (Int × List Rc)) (us : List Value) (xs : List (Int × List Rc)) (ys : List Value), us.length = vs.length → flatV (vs ++ xs) (us ++ ys) = flatV vs us ++ flatV xs ys
  | [], [], _, _, _ => rfl
  | [], u :: us, _, _, h => by simp at h
  | q :: vs, [], _, _, h => by simp at h
  | q :: vs, u :: us, xs, ys, h => by simp only [List.cons_append, flatV, flatV_append vs us xs ys (by simpa using h)]
theorem flatV_get : ∀ (vs : List (Int × List Rc)) (us : List Value) (k : Nat) (q : Int × List Rc) (u : Value), vs[k]? = some q → us[k]? = some u → (flatV vs us)[k * 2]? = some (.int .i64 q.1) ∧ (flatV vs us)[k * 2 + 1]? = some u
  | [], _, _, _, _, h, _ => by simp at h
  | _ :: _, [], _, _, _, _, h => by simp at h
  | p :: vs, z :: us, 0, q, u, h, h2 => by
    simp only [List.getElem?_cons_zero, Option.some.injEq] at h h2
    subst h h2
    exact ⟨rfl, rfl⟩
  | p :: vs, z :: us, k + 1, q, u, h, h2 => by
    have ih := flatV_get vs us k q u (by simpa using h) (by simpa using h2)
    have e1 : (k + 1) * 2 = k * 2 + 1 + 1 := by omega
    have e2 : k * 2 + 1 + 1 + 1 = (k * 2 + 1) + 1 + 1 := rfl
    rw [e1]
    simp only [flatV]
    rw [List.getElem?_cons_succ, List.getElem?_cons_succ, e2, List.getElem?_cons_succ, List.getElem?_cons_succ]
    exact ih
theorem flatV_set : ∀ (vs : List (Int × List Rc)) (us : List Value) (k : Nat) (q : Int × List Rc) (u : Value), us.length = vs.length → k < vs.length → ((flatV vs us).set (k * 2) (.int .i64 q.1)).set (k * 2 + 1) u = flatV (vs.set k q) (us.set k u)
  | [], _, _, _, _, _, h => by simp at h
  | _ :: _, [], _, _, _, h, _ => by simp at h
  | p :: vs, z :: us, 0, q, u, _, _ => rfl
  | p :: vs, z :: us, k + 1, q, u, h, h2 => by
    have ih := flatV_set vs us k q u (by simpa using h) (by simpa using h2)
    have e1 : (k + 1) * 2 = k * 2 + 1 + 1 := by omega
    rw [e1]
    simp only [flatV, List.set_cons_succ, ih]
section
variable {w w' : World} {B B' lo hi : Nat} {v : Value} {us : List Value} {vs : List (Int × List Rc)}
/-- All blocks of the list lie from lo on, below hi. -/
def XIn (lo hi : Nat) (v : Value) (us : List Value) : Prop := (∀ g, v.ownBlock = some g → lo ≤ g ∧ g < hi) ∧ ∀ (k : Nat) (u : Value), us[k]? = some u → ∀ g, u.ownBlock = some g → lo ≤ g ∧ g < hi
/-- The lists lie apart. -/
def Apart (us : List Value) : Prop := ∀ (i j : Nat) (x y : Value) (g : Nat), i ≠ j → us[i]? = some x → us[j]? = some y → x.ownBlock = some g → y.ownBlock ≠ some g
end

/-- The marks of a list of violations, and the number behind them. -/
def marksV : Int → List (Int × List Rc) → List (Int × List Rc)
  | _, [] => []
  | k, q :: vs => (k, marks (k + 1) q.2.length) :: marksV (k + 1 + 4 * q.2.length) vs
def endV : Int → List (Int × List Rc) → Int
  | k, [] => k
  | k, q :: vs => endV (k + 1 + 4 * q.2.length) vs
theorem marksV_length : ∀ (k : Int) (vs : List (Int × List Rc)), (marksV k vs).length = vs.length
  | _, [] => rfl
  | k, q :: vs => by simp [marksV, marksV_length _ vs]
theorem marksV_snoc : ∀ (k : Int) (vs : List (Int × List Rc)) (q : Int × List Rc), marksV k (vs ++ [q]) = marksV k vs ++ [(endV k vs, marks (endV k vs + 1) q.2.length)]
  | _, [], _ => rfl
  | k, p :: vs, q => by simp only [List.cons_append, marksV, endV, marksV_snoc _ vs q]
theorem endV_snoc : ∀ (k : Int) (vs : List (Int × List Rc)) (q : Int × List Rc), endV k (vs ++ [q]) = endV k vs + 1 + 4 * q.2.length
  | _, [], _ => rfl
  | k, p :: vs, q => by simp only [List.cons_append, endV, endV_snoc _ vs q]
theorem marksV_get : ∀ (k : Int) (vs : List (Int × List Rc)) (j : Nat) (q : Int × List Rc), vs[j]? = some q → (marksV k vs)[j]? = some (endV k (vs.take j), marks (endV k (vs.take j) + 1) q.2.length)
  | _, [], _, _, h => by simp at h
  | k, p :: vs, 0, q, h => by
    simp only [List.getElem?_cons_zero, Option.some.injEq] at h
    subst h
    rfl
  | k, p :: vs, j + 1, q, h => by
    have ih := marksV_get (k + 1 + 4 * p.2.length) vs j q (by simpa using h)
    simpa [marksV, endV] using ih
/-- The number of rectangles of the lists together. -/
def sizeV (vs : List (Int × List Rc)) : Nat := (vs.map fun q => q.2.length).sum
theorem sizeV_take {vs : List (Int × List Rc)} {j : Nat} {q : Int × List Rc} (h : vs[j]? = some q) : sizeV (vs.take (j + 1)) = sizeV (vs.take j) + q.2.length := by
  unfold sizeV
  rw [List.take_add_one, h]
  simp
theorem sizeV_le (vs : List (Int × List Rc)) (j : Nat) : sizeV (vs.take j) ≤ sizeV vs := by
  have e : sizeV vs = sizeV (vs.take j) + sizeV (vs.drop j) := by
    unfold sizeV
    conv => lhs; rw [← List.take_append_drop j vs]
    rw [List.map_append, List.sum_append]
  omega
theorem endV_eq : ∀ (k : Int) (vs : List (Int × List Rc)), endV k vs = k + vs.length + 4 * sizeV vs
  | k, [] => by simp [endV, sizeV]
  | k, q :: vs => by
    have e : sizeV (q :: vs) = q.2.length + sizeV vs := by simp [sizeV]
    simp only [endV, endV_eq _ vs, e, List.length_cons]
    omega
/-- The first j violations are marked. -/
def mixedV (k : Int) (vs : List (Int × List Rc)) (j : Nat) : List (Int × List Rc) := marksV k (vs.take j) ++ vs.drop j
theorem mixedV_length (k : Int) (vs : List (Int × List Rc)) {j : Nat} (h : j ≤ vs.length) : (mixedV k vs j).length = vs.length := by
  simp only [mixedV, List.length_append, marksV_length, List.length_take, List.length_drop]; omega
theorem mixedV_get (k : Int) {vs : List (Int × List Rc)} {j : Nat} {q : Int × List Rc} (h : vs[j]? = some q) : (mixedV k vs j)[j]? = some q := by
  have hj : j < vs.length := (List.getElem?_eq_some_iff.1 h).1
  unfold mixedV
  rw [List.getElem?_append_right (by rw [marksV_length, List.length_take]; omega), marksV_length, List.length_take, Nat.min_eq_left (by omega), Nat.sub_self, List.getElem?_drop]
  exact h
theorem mixedV_step (k : Int) {vs : List (Int × List Rc)} {j : Nat} {q : Int × List Rc} (h : vs[j]? = some q) : (mixedV k vs j).set j (endV k (vs.take j), marks (endV k (vs.take j) + 1) q.2.length) = mixedV k vs (j + 1) := by
  have hj : j < vs.length := (List.getElem?_eq_some_iff.1 h).1
  have hl : (marksV k (vs.take j)).length = j := by rw [marksV_length, List.length_take]; omega
  have e : vs.drop j = q :: vs.drop (j + 1) := by
    rw [List.drop_eq_getElem_cons hj]
    rw [List.getElem?_eq_getElem hj] at h
    cases h
    rfl
  unfold mixedV
  rw [List.set_append_right _ _ (by omega), hl, Nat.sub_self, e, List.set_cons_zero, List.take_add_one, h, Option.toList, marksV_snoc, List.append_assoc]
  rfl
theorem mixedV_end (k : Int) (vs : List (Int × List Rc)) : mixedV k vs vs.length = marksV k vs := by simp [mixedV]
theorem mixedV_zero (k : Int) (vs : List (Int × List Rc)) : mixedV k vs 0 = vs := by simp [mixedV, marksV]

end Go.Proofs.YtgegbgkokkdmpaaGreat

namespace Go.Proofs.YtgegbgkokkdmpaaGreat
open Go.RowKit Go.ChangeShapes Go.WideShapes Go.Deep Go.Joins

/-- What is known of a list of violations that came in. -/
structure ArgV (w : World) (A : Option Addr) (n : Nat) (vs : List (Int × List Rc)) : Prop where
  len : vs.length = n
  elem : ∀ (k : Nat) (q : Int × List Rc), vs[k]? = some q → ∃ b off A' n' c', A = some ⟨b, off, none⟩ ∧ b < w.heap.size ∧ w.cell? ⟨b, off + k * 2, none⟩ = some (.int .i64 q.1) ∧ w.cell? ⟨b, off + k * 2 + 1, none⟩ = some (.slice A' n' c') ∧ n' ≤ c' ∧ c' ≤ maxLen ∧ ArgR w A' n' q.2
theorem ArgV.on {w w' : World} {A : Option Addr} {n : Nat} {vs : List (Int × List Rc)} (h : ArgV w A n vs) (hb : Below w.heap.size w w') : ArgV w' A n vs :=
  ⟨h.len, fun k q hq => by
    obtain ⟨b, off, A', n', c', hA, hbl, h0, h1, h2, h3, h4⟩ := h.elem k q hq
    exact ⟨b, off, A', n', c', hA, Nat.lt_of_lt_of_le hbl hb.size, (hb.cell (p := ⟨b, _, none⟩) hbl).trans h0, (hb.cell (p := ⟨b, _, none⟩) hbl).trans h1, h2, h3, h4.on hb⟩⟩
/-- What is known of a list of lists of rectangles that came in. -/
structure ArgL (w : World) (A : Option Addr) (n : Nat) (rss : List (List Rc)) : Prop where
  len : rss.length = n
  elem : ∀ (k : Nat) (rs : List Rc), rss[k]? = some rs → ∃ b off A' n' c', A = some ⟨b, off, none⟩ ∧ b < w.heap.size ∧ w.cell? ⟨b, off + k, none⟩ = some (.slice A' n' c') ∧ n' ≤ c' ∧ c' ≤ maxLen ∧ ArgR w A' n' rs
theorem ArgL.on {w w' : World} {A : Option Addr} {n : Nat} {rss : List (List Rc)} (h : ArgL w A n rss) (hb : Below w.heap.size w w') : ArgL w' A n rss :=
  ⟨h.len, fun k q hq => by
    obtain ⟨b, off, A', n', c', hA, hbl, h1, h2, h3, h4⟩ := h.elem k q hq
    exact ⟨b, off, A', n', c', hA, Nat.lt_of_lt_of_le hbl hb.size, (hb.cell (p := ⟨b, _, none⟩) hbl).trans h1, h2, h3, h4.on hb⟩⟩

section
variable {H : Type} {enc : TypeId × Value → H} {P : Program} {w : World} {base : Nat} {held : Bool}

/-- A violation, from its cells. -/
theorem vio_cells {fuel tv e : Nat} {g0 g1 f0 f1 f2 f3 : Field} {cs : List Value} {y : DataW H × List MemPlace} (hv' : P.underlying tv = some (.struct #[g0, g1])) (hone' : oneCellFields P #[g0, g1] = true) (hC' : P.cellsOf tv = 2)
    (j0 : P.underlying g0.type = some (.int .i64)) (ht : P.underlying g1.type = some (.slice e)) (he : P.underlying e = some (.struct #[f0, f1, f2, f3])) (hone : oneCellFields P #[f0, f1, f2, f3] = true)
    (hC : P.cellsOf e = 4) (i0 : P.underlying f0.type = some (.int .i64)) (i1 : P.underlying f1.type = some (.int .i64)) (i2 : P.underlying f2.type = some (.int .i64)) (i3 : P.underlying f3.type = some (.int .i64))
    (hf : DataW.trod enc P w base (fun _ => true) held fuel tv cs = some y) : ∃ (k : Int) (A : Option Addr) (n c : Nat) (rs : List Rc), cs = [.int .i64 k, .slice A n c] ∧ I64 k ∧ n ≤ c ∧ c ≤ maxLen ∧ ArgR w A n rs := by
  obtain ⟨xs, n, _, _, hlen, hxl, hg⟩ := DataW.trod_struct hv' hf
  rw [hC'] at hlen
  match cs, hlen with
  | [c0, c1], _ =>
    obtain ⟨o0, k0⟩ := hone_of hone' 0 g0 rfl
    obtain ⟨o1, k1⟩ := hone_of hone' 1 g1 rfl
    match xs, hxl with
    | [y0, y1], _ =>
      have z0 := hg 0 g0 rfl
      have z1 := hg 1 g1 rfl
      rw [o0, k0] at z0
      rw [o1, k1] at z1
      obtain ⟨a0, e0, _, b0⟩ := DataW.trod_int (x := y0) j0 (by simpa using z0)
      obtain ⟨A, m, c, rs, e1, h1, h2, h3⟩ := fours_cell (y := y1) (cs := [c1]) ht he hone hC i0 i1 i2 i3 (by simpa using z1)
      simp only [List.cons.injEq, and_true] at e0 e1
      subst e0 e1
      exact ⟨a0, A, m, c, rs, rfl, bounds_i64 b0, h1, h2, h3⟩

/-- A list of violations. -/
theorem open_vios {r : Go.Reach} {b0 tt tv e : Nat} {g0 g1 f0 f1 f2 f3 : Field} {v : Value} {d : DataW H} {p : List MemPlace} (htt : P.underlying tt = some (.slice tv)) (hv' : P.underlying tv = some (.struct #[g0, g1])) (hone' : oneCellFields P #[g0, g1] = true) (hC' : P.cellsOf tv = 2)
    (j0 : P.underlying g0.type = some (.int .i64)) (ht : P.underlying g1.type = some (.slice e)) (he : P.underlying e = some (.struct #[f0, f1, f2, f3])) (hone : oneCellFields P #[f0, f1, f2, f3] = true)
    (hC : P.cellsOf e = 4) (i0 : P.underlying f0.type = some (.int .i64)) (i1 : P.underlying f1.type = some (.int .i64)) (i2 : P.underlying f2.type = some (.int .i64)) (i3 : P.underlying f3.type = some (.int .i64))
    (hv : Value.okWide P w r b0 tt v) (h : DataW.Trod enc P w base (fun _ => true) held tt v d p) : ∃ A n c vs, v = .slice A n c ∧ n ≤ c ∧ c ≤ maxLen ∧ ArgV w A n vs := by
  obtain ⟨a, len, cap, rfl⟩ := okWide_slice htt hv
  obtain ⟨fuel, hf⟩ := h
  rcases open_slice htt hf with ⟨hcs, _⟩ | ⟨x, l, c, m, n, D, Pl, hcs, _, hl, hm, hmm, _, hi⟩
  · simp [Value.cells] at hcs
    obtain ⟨rfl, rfl, rfl⟩ := hcs
    exact ⟨none, 0, 0, [], rfl, Nat.le_refl _, by simp [maxLen], rfl, fun k q hk => by simp at hk⟩
  · simp [Value.cells] at hcs
    obtain ⟨rfl, rfl, rfl⟩ := hcs
    simp only [if_true] at hmm
    subst hmm
    have H : ∀ i, i < len → ∃ q : Int × List Rc, ∃ A' n' c', w.cell? (x.add (i * 2)) = some (.int .i64 q.1) ∧ w.cell? (x.add (i * 2 + 1)) = some (.slice A' n' c') ∧ n' ≤ c' ∧ c' ≤ maxLen ∧ ArgR w A' n' q.2 := by
      intro i hi'
      obtain ⟨cs', hc, htr⟩ := hi i (by omega)
      obtain ⟨k, A', n', c', rs, hq, _, h1, h2, h3⟩ := vio_cells hv' hone' hC' j0 ht he hone hC i0 i1 i2 i3 htr
      rw [hC'] at hc
      obtain ⟨_, hcl, hat⟩ := World.cells?_some hc
      refine ⟨(k, rs), A', n', c', ?_, ?_, h1, h2, h3⟩
      · have := hat 0 (by omega)
        rw [hq] at this
        simpa [add_add] using this
      · have := hat 1 (by omega)
        rw [hq] at this
        simpa [add_add] using this
    obtain ⟨vs, hrl, hrs⟩ := list_of len H
    refine ⟨some x, len, _, vs, rfl, hl, hm, hrl, fun k q hk => ?_⟩
    obtain ⟨A', n', c', h0, h1, h2, h3, h4⟩ := hrs k q hk
    obtain ⟨b, off, spot⟩ := x
    have hspot : spot = none := by
      have hk' := (List.getElem?_eq_some_iff.1 hk).1
      obtain ⟨_, _, _, hz, _⟩ := hrs 0 _ (List.getElem?_eq_getElem (show 0 < vs.length by omega))
      simpa [Addr.add] using World.cell?_spot (hz.trans rfl)
    subst hspot
    rw [Addr.add_lit] at h0 h1
    exact ⟨b, off, A', n', c', rfl, World.block_lt_of_cell? _ _ h0, h0, h1, h2, h3, h4⟩

/-- A list of lists of rectangles. -/
theorem open_fourss {r : Go.Reach} {b0 tt t e : Nat} {f0 f1 f2 f3 : Field} {v : Value} {d : DataW H} {p : List MemPlace} (htt : P.underlying tt = some (.slice t)) (hC1 : P.cellsOf t = 1) (ht : P.underlying t = some (.slice e)) (he : P.underlying e = some (.struct #[f0, f1, f2, f3])) (hone : oneCellFields P #[f0, f1, f2, f3] = true)
    (hC : P.cellsOf e = 4) (i0 : P.underlying f0.type = some (.int .i64)) (i1 : P.underlying f1.type = some (.int .i64)) (i2 : P.underlying f2.type = some (.int .i64)) (i3 : P.underlying f3.type = some (.int .i64))
    (hv : Value.okWide P w r b0 tt v) (h : DataW.Trod enc P w base (fun _ => true) held tt v d p) : ∃ A n c rss, v = .slice A n c ∧ n ≤ c ∧ c ≤ maxLen ∧ ArgL w A n rss := by
  obtain ⟨a, len, cap, rfl⟩ := okWide_slice htt hv
  obtain ⟨fuel, hf⟩ := h
  rcases open_slice htt hf with ⟨hcs, _⟩ | ⟨x, l, c, m, n, D, Pl, hcs, _, hl, hm, hmm, _, hi⟩
  · simp [Value.cells] at hcs
    obtain ⟨rfl, rfl, rfl⟩ := hcs
    exact ⟨none, 0, 0, [], rfl, Nat.le_refl _, by simp [maxLen], rfl, fun k q hk => by simp at hk⟩
  · simp [Value.cells] at hcs
    obtain ⟨rfl, rfl, rfl⟩ := hcs
    simp only [if_true] at hmm
    subst hmm
    have H : ∀ i, i < len → ∃ q : List Rc, ∃ A' n' c', w.cell? (x.add i) = some (.slice A' n' c') ∧ n' ≤ c' ∧ c' ≤ maxLen ∧ ArgR w A' n' q := by
      intro i hi'
      obtain ⟨cs', hc, htr⟩ := hi i (by omega)
      rw [hC1] at hc
      obtain ⟨_, hcl, hat⟩ := World.cells?_some hc
      obtain ⟨A', n', c', rs, hq, h1, h2, h3⟩ := fours_cell ht he hone hC i0 i1 i2 i3 htr
      refine ⟨rs, A', n', c', ?_, h1, h2, h3⟩
      have := hat 0 (by omega)
      rw [hq] at this
      simpa [add_add] using this
    obtain ⟨vs, hrl, hrs⟩ := list_of len H
    refine ⟨some x, len, _, vs, rfl, hl, hm, hrl, fun k q hk => ?_⟩
    obtain ⟨A', n', c', h1, h2, h3, h4⟩ := hrs k q hk
    obtain ⟨b, off, spot⟩ := x
    have hspot : spot = none := by
      have hk' := (List.getElem?_eq_some_iff.1 hk).1
      obtain ⟨_, _, _, hz, _⟩ := hrs 0 _ (List.getElem?_eq_getElem (show 0 < vs.length by omega))
      simpa [Addr.add] using World.cell?_spot (hz.trans rfl)
    subst hspot
    rw [Addr.add_lit] at h1
    exact ⟨b, off, A', n', c', rfl, World.block_lt_of_cell? _ _ h1, h1, h2, h3, h4⟩
end

end Go.Proofs.YtgegbgkokkdmpaaGreat

namespace Go.Proofs.YtgegbgkokkdmpaaGreat
open Go.RowKit

section
variable {w w' : World} {B lo hi g n c : Nat} {v : Value} {us : List Value} {vs : List (Int × List Rc)}
end

theorem flatV_zeros (n : Nat) : (madeCells #[.int .i64 0, .slice none 0 0] (n * 2)).toList = flatV (List.replicate n (0, [])) (List.replicate n (.slice none 0 0)) := by
  apply List.ext_getElem?
  intro j
  simp only [madeCells, Array.toList_map, Array.toList_range, List.getElem?_map]
  by_cases hj : j < n * 2
  · rw [List.getElem?_range hj]
    simp only [Option.map_some]
    have h2 : j / 2 < n := by omega
    obtain ⟨f0, f1⟩ := flatV_get (List.replicate n (0, [])) (List.replicate n (.slice none 0 0)) (j / 2) (0, []) (.slice none 0 0) (by rw [List.getElem?_replicate, if_pos h2]) (by rw [List.getElem?_replicate, if_pos h2])
    show some ((#[Value.int .i64 0, .slice none 0 0] : Array Value)[j % 2]!) = _
    by_cases e : j % 2 = 0
    · have e1 : j / 2 * 2 = j := by omega
      rw [e1] at f0
      rw [f0, e]
      rfl
    · have e0 : j % 2 = 1 := by omega
      have e1 : j / 2 * 2 + 1 = j := by omega
      rw [e1] at f1
      rw [f1, e0]
      rfl
  · rw [List.getElem?_eq_none (by simp; omega), List.getElem?_eq_none (by rw [flatV_length _ _ (by simp)]; simp; omega)]
    rfl

/-- The first k violations are laid. -/
def laidV (vs : List (Int × List Rc)) (k : Nat) : List (Int × List Rc) := vs.take k ++ List.replicate (vs.length - k) (0, [])
def laidU (us : List Value) (n : Nat) : List Value := us ++ List.replicate (n - us.length) (.slice none 0 0)
theorem laidV_length (vs : List (Int × List Rc)) {k : Nat} (h : k ≤ vs.length) : (laidV vs k).length = vs.length := by simp [laidV]; omega
theorem laidV_step {vs : List (Int × List Rc)} {k : Nat} {q : Int × List Rc} (h : vs[k]? = some q) : (laidV vs k).set k q = laidV vs (k + 1) := by
  have hk : k < vs.length := (List.getElem?_eq_some_iff.1 h).1
  have hl : (vs.take k).length = k := by rw [List.length_take]; omega
  have e : vs.length - k = (vs.length - (k + 1)) + 1 := by omega
  unfold laidV
  rw [List.set_append_right _ _ (by omega), hl, Nat.sub_self, e, List.replicate_succ, List.set_cons_zero, List.take_add_one, h, List.append_assoc]
  rfl
theorem laidU_step {us : List Value} {n : Nat} (h : us.length < n) (u : Value) : (laidU us n).set us.length u = laidU (us ++ [u]) n := by
  have e : n - us.length = (n - (us ++ [u]).length) + 1 := by simp; omega
  unfold laidU
  rw [List.set_append_right _ _ (Nat.le_refl _), Nat.sub_self, e, List.replicate_succ, List.set_cons_zero, List.append_assoc]
  rfl
theorem Apart.snoc {us : List Value} {u : Value} {N : Nat} (h : Apart us) (hlt : ∀ (k : Nat) (x : Value), us[k]? = some x → ∀ g, x.ownBlock = some g → g < N) (hu : ∀ g, u.ownBlock = some g → N ≤ g) : Apart (us ++ [u]) := by
  intro i j x y g hij hx hy hxo hyo
  have hget : ∀ (k : Nat) (z : Value), (us ++ [u])[k]? = some z → us[k]? = some z ∨ (k = us.length ∧ z = u) := fun k z hz => by
    by_cases hk : k < us.length
    · rw [List.getElem?_append_left hk] at hz
      exact .inl hz
    · rw [List.getElem?_append_right (by omega)] at hz
      have e : k - us.length = 0 := by
        have := (List.getElem?_eq_some_iff.1 hz).1
        simp at this
        omega
      rw [e] at hz
      simp at hz
      exact .inr ⟨by omega, hz.symm⟩
  rcases hget i x hx with hx' | ⟨ei, ex⟩
  · rcases hget j y hy with hy' | ⟨ej, ey⟩
    · exact h i j x y g hij hx' hy' hxo hyo
    · have := hlt i x hx' g hxo
      have := hu g (ey ▸ hyo)
      omega
  · rcases hget j y hy with hy' | ⟨ej, ey⟩
    · have := hlt j y hy' g hyo
      have := hu g (ex ▸ hxo)
      omega
    · omega
theorem Apart.nil : Apart [] := fun i j x y g _ hx => by simp at hx

end Go.Proofs.YtgegbgkokkdmpaaGreat
