/- What memory holds: lists of rules. Contracts: the laws' helpers on lists of rules and on decks. Conditions: lists in memory; bounds on their sizes. -/
import Derived.Test.YtbljapihmkmolaaGreatRuleL
import Derived.Test.YtbljapihmkmolaaGreatLawKit
import Derived.StillTailTactics
namespace Go.Proofs.YtbljapihmkmolaaGreat
open Go.RowKit Go.ChangeShapes Go.WideShapes Go.Deep Go.Joins

def flatQ (qs : List Ru) : List Value := qs.flatMap Ru.vals
theorem flatQ_length : ∀ qs : List Ru, (flatQ qs).length = qs.length * 5
  | [] => rfl
  | q :: qs => by
    have ih := flatQ_length qs
    have e : flatQ (q :: qs) = q.vals ++ flatQ qs := rfl
    rw [e, List.length_append, ih, List.length_cons]
    simp [Ru.vals]; omega
theorem flatQ_append (a b : List Ru) : flatQ (a ++ b) = flatQ a ++ flatQ b := List.flatMap_append
theorem flatQ_get : ∀ (qs : List Ru) (k : Nat) (q : Ru), qs[k]? = some q → (flatQ qs)[k * 5]? = some (.int .i64 q.k) ∧ (flatQ qs)[k * 5 + 1]? = some (.int .i64 q.l) ∧ (flatQ qs)[k * 5 + 2]? = some (.int .i64 q.o) ∧ (flatQ qs)[k * 5 + 3]? = some (.int .i64 q.v) ∧ (flatQ qs)[k * 5 + 4]? = some (.int .i64 q.p)
  | [], _, _, h => by simp at h
  | a :: qs, 0, q, h => by
    simp only [List.getElem?_cons_zero, Option.some.injEq] at h
    subst h
    exact ⟨rfl, rfl, rfl, rfl, rfl⟩
  | a :: qs, k + 1, q, h => by
    have ih := flatQ_get qs k q (by simpa using h)
    have e : flatQ (a :: qs) = a.vals ++ flatQ qs := rfl
    have hl : a.vals.length = 5 := rfl
    rw [e]
    have key : ∀ j : Nat, (a.vals ++ flatQ qs)[(k + 1) * 5 + j]? = (flatQ qs)[k * 5 + j]? := fun j => by
      rw [List.getElem?_append_right (by omega), hl]
      congr 1
      omega
    exact ⟨(key 0).trans ih.1, (key 1).trans ih.2.1, (key 2).trans ih.2.2.1, (key 3).trans ih.2.2.2.1, (key 4).trans ih.2.2.2.2⟩
theorem flatQ_set : ∀ (qs : List Ru) (j : Nat) (a b c d e : Int), j < qs.length → (((((flatQ qs).set (j * 5) (.int .i64 a)).set (j * 5 + 1) (.int .i64 b)).set (j * 5 + 2) (.int .i64 c)).set (j * 5 + 3) (.int .i64 d)).set (j * 5 + 4) (.int .i64 e) = flatQ (qs.set j ⟨a, b, c, d, e⟩)
  | [], _, _, _, _, _, _, h => by simp at h
  | q :: qs, 0, a, b, c, d, e, _ => rfl
  | q :: qs, j + 1, a, b, c, d, e, h => by
    have ih := flatQ_set qs j a b c d e (by simpa using h)
    have e1 : flatQ (q :: qs) = q.vals ++ flatQ qs := rfl
    have hl : q.vals.length = 5 := rfl
    rw [e1, List.set_append_right _ _ (by omega), List.set_append_right _ _ (by omega), List.set_append_right _ _ (by omega), List.set_append_right _ _ (by omega), List.set_append_right _ _ (by omega), hl]
    rw [show (j + 1) * 5 - 5 = j * 5 by omega, show (j + 1) * 5 + 1 - 5 = j * 5 + 1 by omega, show (j + 1) * 5 + 2 - 5 = j * 5 + 2 by omega, show (j + 1) * 5 + 3 - 5 = j * 5 + 3 by omega, show (j + 1) * 5 + 4 - 5 = j * 5 + 4 by omega, ih, List.set_cons_succ]
    rfl
/-- The slice value v is the list qs of rules, in a row from block B on. -/
def QL (w : World) (B : Nat) (v : Value) (qs : List Ru) : Prop := w.ownsRow B 30 5 v qs.length (flatQ qs)
section
variable {w w' : World} {B B' : Nat} {v : Value} {qs : List Ru}
theorem QL.on (h : QL w B v qs) (hb : Below w.heap.size w w') : QL w' B v qs := own_on h hb
theorem QL.less (h : QL w B v qs) (hB : B' ≤ B) : QL w B' v qs := own_less h hB
theorem QL.alloc (h : QL w B v qs) (o : Obj) : QL (w.alloc o) B v qs := World.ownsRow.alloc h o
theorem QL.drew (h : QL w B v qs) : QL w.drew B v qs := h
theorem QL.form (h : QL w B v qs) : ∃ A cap, v = .slice A qs.length cap ∧ qs.length ≤ cap ∧ cap ≤ maxLen := by
  obtain ⟨A, cap, hv, a1, a2, _⟩ := own_form h
  exact ⟨A, cap, hv, a1, a2⟩
theorem QL.elem {A : Option Addr} {n c k : Nat} {q : Ru} (h : QL w B (.slice A n c) qs) (hq : qs[k]? = some q) : ∃ g, A = some ⟨g, 0, none⟩ ∧ B ≤ g ∧ g < w.heap.size ∧ w.cell? ⟨g, k * 5, none⟩ = some (.int .i64 q.k) ∧ w.cell? ⟨g, k * 5 + 1, none⟩ = some (.int .i64 q.l) ∧ w.cell? ⟨g, k * 5 + 2, none⟩ = some (.int .i64 q.o) ∧ w.cell? ⟨g, k * 5 + 3, none⟩ = some (.int .i64 q.v) ∧ w.cell? ⟨g, k * 5 + 4, none⟩ = some (.int .i64 q.p) := by
  obtain ⟨A', cap, hv, a1, a2, hf⟩ := own_form h
  have hk : k < qs.length := (List.getElem?_eq_some_iff.1 hq).1
  obtain ⟨g, hA, hg, hgw, hc, _⟩ := hf (by omega)
  obtain ⟨f0, f1, f2, f3, f4⟩ := flatQ_get qs k q hq
  simp only [Value.slice.injEq] at hv
  exact ⟨g, hv.1.trans hA, hg, hgw, hc _ _ f0, hc _ _ f1, hc _ _ f2, hc _ _ f3, hc _ _ f4⟩
theorem QL.frozen {g n c : Nat} (h : QL w B (.slice (some ⟨g, 0, none⟩) n c) qs) (j : Nat) : w.frozen? ⟨g, j, none⟩ = false := by
  obtain ⟨A, c', e, _, _⟩ := h.form
  simp only [Value.slice.injEq] at e
  obtain ⟨_, rfl, _⟩ := e
  exact World.ownsRow.frozenAt h j
theorem QL.lt (h : QL w B v qs) : ∀ g, v.ownBlock = some g → B ≤ g ∧ g < w.heap.size := own_lt h
theorem QL.set5 {g n c : Nat} (h : QL w B (.slice (some ⟨g, 0, none⟩) n c) qs) {j : Nat} (hj : j < qs.length) (a b cc d e : Int) :
    QL (((((w.setCell ⟨g, j * 5, none⟩ (.int .i64 a)).setCell ⟨g, j * 5 + 1, none⟩ (.int .i64 b)).setCell ⟨g, j * 5 + 2, none⟩ (.int .i64 cc)).setCell ⟨g, j * 5 + 3, none⟩ (.int .i64 d)).setCell ⟨g, j * 5 + 4, none⟩ (.int .i64 e)) B (.slice (some ⟨g, 0, none⟩) n c) (qs.set j ⟨a, b, cc, d, e⟩) := by
  obtain ⟨A, c', e', _, _⟩ := h.form
  simp only [Value.slice.injEq] at e'
  obtain ⟨_, rfl, _⟩ := e'
  unfold QL at h ⊢
  rw [← flatQ_set _ _ _ _ _ _ _ hj, List.length_set]
  exact ((((h.stored _ _).1.stored _ _).1.stored _ _).1.stored _ _).1.stored _ _ |>.1
end
theorem infoRule : (Tryz.prog.info? 30).map (fun i => (i.zero, i.size, i.bytes)) = some (some (.agg #[.int .i64 0, .int .i64 0, .int .i64 0, .int .i64 0, .int .i64 0]), 5, 40) := by kernel_rfl
theorem flatQ_zeros (n : Nat) : (madeCells #[.int .i64 0, .int .i64 0, .int .i64 0, .int .i64 0, .int .i64 0] (n * 5)).toList = flatQ (List.replicate n ⟨0, 0, 0, 0, 0⟩) := by
  apply List.ext_getElem?
  intro j
  simp only [madeCells, Array.toList_map, Array.toList_range, List.getElem?_map]
  by_cases hj : j < n * 5
  · rw [List.getElem?_range hj]
    simp only [Option.map_some]
    have h2 : j / 5 < n := by omega
    obtain ⟨f0, f1, f2, f3, f4⟩ := flatQ_get (List.replicate n ⟨0, 0, 0, 0, 0⟩) (j / 5) ⟨0, 0, 0, 0, 0⟩ (by rw [List.getElem?_replicate, if_pos h2])
    have h5 : j % 5 < 5 := Nat.mod_lt _ (by omega)
    have e : (#[Value.int .i64 0, .int .i64 0, .int .i64 0, .int .i64 0, .int .i64 0] : Array Value)[j % 5]! = .int .i64 0 := by
      generalize j % 5 = q at h5
      match q, h5 with
      | 0, _ => rfl
      | 1, _ => rfl
      | 2, _ => rfl
      | 3, _ => rfl
      | 4, _ => rfl
    show some ((#[Value.int .i64 0, .int .i64 0, .int .i64 0, .int .i64 0, .int .i64 0] : Array Value)[j % 5]!) = _
    rw [e]
    have hs : j % 5 = 0 ∨ j % 5 = 1 ∨ j % 5 = 2 ∨ j % 5 = 3 ∨ j % 5 = 4 := by omega
    rcases hs with h | h | h | h | h
    · rw [show j / 5 * 5 = j by omega] at f0; exact f0.symm
    · rw [show j / 5 * 5 + 1 = j by omega] at f1; exact f1.symm
    · rw [show j / 5 * 5 + 2 = j by omega] at f2; exact f2.symm
    · rw [show j / 5 * 5 + 3 = j by omega] at f3; exact f3.symm
    · rw [show j / 5 * 5 + 4 = j by omega] at f4; exact f4.symm
  · rw [List.getElem?_eq_none (by simp; omega), List.getElem?_eq_none (by rw [flatQ_length]; simp; omega)]
    rfl
/-- The first k rules are laid. -/
def laidQ (qs : List Ru) (k : Nat) : List Ru := qs.take k ++ List.replicate (qs.length - k) ⟨0, 0, 0, 0, 0⟩
theorem laidQ_length (qs : List Ru) {k : Nat} (h : k ≤ qs.length) : (laidQ qs k).length = qs.length := by simp [laidQ]; omega
theorem laidQ_step {qs : List Ru} {k : Nat} {q : Ru} (h : qs[k]? = some q) : (laidQ qs k).set k q = laidQ qs (k + 1) := by
  have hk : k < qs.length := (List.getElem?_eq_some_iff.1 h).1
  have hl : (qs.take k).length = k := by rw [List.length_take]; omega
  have e : qs.length - k = (qs.length - (k + 1)) + 1 := by omega
  unfold laidQ
  rw [List.set_append_right _ _ (by omega), hl, Nat.sub_self, e, List.replicate_succ, List.set_cons_zero, List.take_add_one, h, List.append_assoc]
  rfl

/-- What is known of a list of rules that came in. -/
structure ArgQ (w : World) (A : Option Addr) (n : Nat) (qs : List Ru) : Prop where
  len : qs.length = n
  elem : ∀ (k : Nat) (q : Ru), qs[k]? = some q → ∃ b off, A = some ⟨b, off, none⟩ ∧ b < w.heap.size ∧ w.cell? ⟨b, off + k * 5, none⟩ = some (.int .i64 q.k) ∧ w.cell? ⟨b, off + k * 5 + 1, none⟩ = some (.int .i64 q.l) ∧ w.cell? ⟨b, off + k * 5 + 2, none⟩ = some (.int .i64 q.o) ∧ w.cell? ⟨b, off + k * 5 + 3, none⟩ = some (.int .i64 q.v) ∧ w.cell? ⟨b, off + k * 5 + 4, none⟩ = some (.int .i64 q.p)
theorem ArgQ.on {w w' : World} {A : Option Addr} {n : Nat} {qs : List Ru} (h : ArgQ w A n qs) (hb : Below w.heap.size w w') : ArgQ w' A n qs :=
  ⟨h.len, fun k q hq => by
    obtain ⟨b, off, hA, hbl, h0, h1, h2, h3, h4⟩ := h.elem k q hq
    exact ⟨b, off, hA, Nat.lt_of_lt_of_le hbl hb.size, (hb.cell (p := ⟨b, _, none⟩) hbl).trans h0, (hb.cell (p := ⟨b, _, none⟩) hbl).trans h1, (hb.cell (p := ⟨b, _, none⟩) hbl).trans h2, (hb.cell (p := ⟨b, _, none⟩) hbl).trans h3, (hb.cell (p := ⟨b, _, none⟩) hbl).trans h4⟩⟩
section
variable {H : Type} {enc : TypeId × Value → H} {P : Program} {w : World} {base : Nat} {held : Bool}
/-- A deck: one list of rules. -/
theorem open_deck {r : Go.Reach} {b0 td e : Nat} {g0 f0 f1 f2 f3 f4 : Field} {v : Value} {d : DataW H} {p : List MemPlace} (hd : P.underlying td = some (.struct #[g0])) (honed : oneCellFields P #[g0] = true) (hCd : P.cellsOf td = 1)
    (ht : P.underlying g0.type = some (.slice e)) (he : P.underlying e = some (.struct #[f0, f1, f2, f3, f4])) (hone : oneCellFields P #[f0, f1, f2, f3, f4] = true)
    (hC : P.cellsOf e = 5) (i0 : P.underlying f0.type = some (.int .i64)) (i1 : P.underlying f1.type = some (.int .i64)) (i2 : P.underlying f2.type = some (.int .i64)) (i3 : P.underlying f3.type = some (.int .i64)) (i4 : P.underlying f4.type = some (.int .i64))
    (hv : Value.okWide P w r b0 td v) (h : DataW.Trod enc P w base (fun _ => true) held td v d p) : ∃ A n c qs, v = .agg #[.slice A n c] ∧ n ≤ c ∧ c ≤ maxLen ∧ ArgQ w A n qs := by
  obtain ⟨cs, rfl, _⟩ := okWide_struct hd hv
  obtain ⟨fuel, hf⟩ := h
  obtain ⟨xs, n, _, _, hlen, hxl, hg⟩ := DataW.trod_struct hd hf
  rw [hCd] at hlen
  obtain ⟨l⟩ := cs
  match l, hlen with
  | [c0], _ =>
    obtain ⟨o0, k0⟩ := hone_of honed 0 g0 rfl
    match xs, hxl with
    | [y0], _ =>
      have z0 := hg 0 g0 rfl
      rw [o0, k0] at z0
      have z1 : DataW.trod enc P w base (fun _ => true) held n g0.type [c0] = some y0 := by simpa [Value.cells] using z0
      rcases open_slice ht z1 with ⟨hcs, _⟩ | ⟨x, l, c, m, n, D, Pl, hcs, _, hl, hm, hmm, _, hi⟩
      · simp only [List.cons.injEq, and_true] at hcs
        subst hcs
        exact ⟨none, 0, 0, [], rfl, Nat.le_refl _, by simp [maxLen], rfl, fun k q hk => by simp at hk⟩
      · simp only [if_true] at hmm
        subst hmm
        simp only [List.cons.injEq, and_true] at hcs
        subst hcs
        have H : ∀ i, i < l → ∃ q : Ru, ∀ j, j < 5 → w.cell? (x.add (i * 5 + j)) = q.vals[j]? := by
          intro i hi'
          obtain ⟨cs', hc, htr⟩ := hi i (by omega)
          obtain ⟨q, hq, _⟩ := five_ints he hone hC i0 i1 i2 i3 i4 htr
          rw [hC] at hc
          obtain ⟨_, hcl, hat⟩ := World.cells?_some hc
          refine ⟨q, fun j hj => ?_⟩
          rw [← add_add, hat j hj, hq]
        obtain ⟨qs, hrl, hrs⟩ := list_of l H
        refine ⟨some x, l, _, qs, rfl, hl, hm, hrl, fun k q hk => ?_⟩
        have hk' := (List.getElem?_eq_some_iff.1 hk).1
        have hcl := hrs k q hk
        have h0 := hcl 0 (by omega)
        have h1 := hcl 1 (by omega)
        have h2 := hcl 2 (by omega)
        have h3 := hcl 3 (by omega)
        have h4 := hcl 4 (by omega)
        obtain ⟨b, off, spot⟩ := x
        have hspot : spot = none := by
          have hz := (hrs 0 _ (List.getElem?_eq_getElem (show 0 < qs.length by omega))) 0 (by omega)
          simpa [Addr.add] using World.cell?_spot (hz.trans rfl)
        subst hspot
        rw [Addr.add_lit] at h0 h1 h2 h3 h4
        exact ⟨b, off, rfl, World.block_lt_of_cell? _ _ h0, h0, h1, h2, h3, h4⟩
end

end Go.Proofs.YtbljapihmkmolaaGreat
