/- What memory holds: lists of rules. Contracts: the laws' helpers on lists of rules and on decks. Conditions: lists in memory; bounds on their sizes. Contracts: the laws' helpers on lists of rules and on decks (sz, to, eq, mark). Conditions: lists in memory; bounds on their sizes. Contracts: l16Has of the reference, slices.Contains on rules, IsValidDeck of both. Conditions: lists in memory. Contracts: IsValidDeck of the reference and of the program. Condition: a list of rules in memory. -/
import Derived.Test.YtjiljodchebniaaGreatQ32
import Derived.Test.YtjiljodchebniaaGreatQ30
import Derived.StillTailTactics
import Derived.Deep.RegionHeld3
import Derived.BigQuiet

namespace Go.Proofs.YtjiljodchebniaaGreat
open Go.RowKit Go.ChangeShapes Go.WideShapes Go.Deep Go.Joins

def flatQ (qs : List Ru) : List Value := qs.flatMap Ru.vals
theorem flatQ_length : ∀ qs : List Ru, (flatQ qs).length = qs.length * 5
  | [] => rfl
  | q :: qs => by
    have ih := flatQ_length qs
    have e : flatQ (q :: qs) = q.vals ++ flatQ qs := rfl
    rw [e, List.length_append, ih, List.length_cons]
    simp [Ru.vals]; omega
theorem flatQ_append (a b : List Ru) : flatQ (a ++ b) = flatQ a ++ flatQ b := List.flatMap_append
theorem flatQ_get : ∀ (qs : List Ru) (k : Nat) (q : Ru), qs[k]? = some q → (flatQ qs)[k * 5]? = some (.int .i64 q.k) ∧ (flatQ qs)[k * 5 + 1]? = some (.int .i64 q.l) ∧ (flatQ qs)[k * 5 + 2]? = some (.int .i64 q.o) ∧ (flatQ qs)[k * 5 + 3]? = some (.int .i64 q.v) ∧ (flatQ qs)[k * 5 + 4]? = some (.int .i64 q.p)
  | [], _, _, h => by simp at h
  | a :: qs, 0, q, h => by
    simp only [List.getElem?_cons_zero, Option.some.injEq] at h
    subst h
    exact ⟨rfl, rfl, rfl, rfl, rfl⟩
  | a :: qs, k + 1, q, h => by
    have ih := flatQ_get qs k q (by simpa using h)
    have e : flatQ (a :: qs) = a.vals ++ flatQ qs := rfl
    have hl : a.vals.length = 5 := rfl
    rw [e]
    have key : ∀ j : Nat, (a.vals ++ flatQ qs)[(k + 1) * 5 + j]? = (flatQ qs)[k * 5 + j]? := fun j => by
      rw [List.getElem?_append_right (by omega), hl]
      congr 1
      omega
    exact ⟨(key 0).trans ih.1, (key 1).trans ih.2.1, (key 2).trans ih.2.2.1, (key 3).trans ih.2.2.2.1, (key 4).trans ih.2.2.2.2⟩
theorem flatQ_set : ∀ (qs : List Ru) (j : Nat) (a b c d e : Int), j < qs.length → (((((flatQ qs).set (j * 5) (.int .i64 a)).set (j * 5 + 1) (.int .i64 b)).set (j * 5 + 2) (.int .i64 c)).set (j * 5 + 3) (.int .i64 d)).set (j * 5 + 4) (.int .i64 e) = flatQ (qs.set j ⟨a, b, c, d, e⟩)
  | [], _, _, _, _, _, _, h => by simp at h
  | q :: qs, 0, a, b, c, d, e, _ => rfl
  | q :: qs, j + 1, a, b, c, d, e, h => by
    have ih := flatQ_set qs j a b c d e (by simpa using h)
    have e1 : flatQ (q :: qs) = q.vals ++ flatQ qs := rfl
    have hl : q.vals.length = 5 := rfl
    rw [e1, List.set_append_right _ _ (by omega), List.set_append_right _ _ (by omega), List.set_append_right _ _ (by omega), List.set_append_right _ _ (by omega), List.set_append_right _ _ (by omega), hl]
    rw [show (j + 1) * 5 - 5 = j * 5 by omega, show (j + 1) * 5 + 1 - 5 = j * 5 + 1 by omega, show (j + 1) * 5 + 2 - 5 = j * 5 + 2 by omega, show (j + 1) * 5 + 3 - 5 = j * 5 + 3 by omega, show (j + 1) * 5 + 4 - 5 = j * 5 + 4 by omega, ih, List.set_cons_succ]
    rfl
/-- The slice value v is the list qs of rules, in a row from block B on. -/
def QL (w : World) (B : Nat) (v : Value) (qs : List Ru) : Prop := w.ownsRow B 31 5 v qs.length (flatQ qs)
section
variable {w w' : World} {B B' : Nat} {v : Value} {qs : List Ru}
theorem QL.on (h : QL w B v qs) (hb : Below w.heap.size w w') : QL w' B v qs := own_on h hb
theorem QL.less (h : QL w B v qs) (hB : B' ≤ B) : QL w B' v qs := own_less h hB
theorem QL.alloc (h : QL w B v qs) (o : Obj) : QL (w.alloc o) B v qs := World.ownsRow.alloc h o
theorem QL.drew (h : QL w B v qs) : QL w.drew B v qs := h
theorem QL.form (h : QL w B v qs) : ∃ A cap, v = .slice A qs.length cap ∧ qs.length ≤ cap ∧ cap ≤ maxLen := by
  obtain ⟨A, cap, hv, a1, a2, _⟩ := own_form h
  exact ⟨A, cap, hv, a1, a2⟩
theorem QL.elem {A : Option Addr} {n c k : Nat} {q : Ru} (h : QL w B (.slice A n c) qs) (hq : qs[k]? = some q) : ∃ g, A = some ⟨g, 0, none⟩ ∧ B ≤ g ∧ g < w.heap.size ∧ w.cell? ⟨g, k * 5, none⟩ = some (.int .i64 q.k) ∧ w.cell? ⟨g, k * 5 + 1, none⟩ = some (.int .i64 q.l) ∧ w.cell? ⟨g, k * 5 + 2, none⟩ = some (.int .i64 q.o) ∧ w.cell? ⟨g, k * 5 + 3, none⟩ = some (.int .i64 q.v) ∧ w.cell? ⟨g, k * 5 + 4, none⟩ = some (.int .i64 q.p) := by
  obtain ⟨A', cap, hv, a1, a2, hf⟩ := own_form h
  have hk : k < qs.length := (List.getElem?_eq_some_iff.1 hq).1
  obtain ⟨g, hA, hg, hgw, hc, _⟩ := hf (by omega)
  obtain ⟨f0, f1, f2, f3, f4⟩ := flatQ_get qs k q hq
  simp only [Value.slice.injEq] at hv
  exact ⟨g, hv.1.trans hA, hg, hgw, hc _ _ f0, hc _ _ f1, hc _ _ f2, hc _ _ f3, hc _ _ f4⟩
theorem QL.frozen {g n c : Nat} (h : QL w B (.slice (some ⟨g, 0, none⟩) n c) qs) (j : Nat) : w.frozen? ⟨g, j, none⟩ = false := by
  obtain ⟨A, c', e, _, _⟩ := h.form
  simp only [Value.slice.injEq] at e
  obtain ⟨_, rfl, _⟩ := e
  exact World.ownsRow.frozenAt h j
theorem QL.lt (h : QL w B v qs) : ∀ g, v.ownBlock = some g → B ≤ g ∧ g < w.heap.size := own_lt h
theorem QL.set5 {g n c : Nat} (h : QL w B (.slice (some ⟨g, 0, none⟩) n c) qs) {j : Nat} (hj : j < qs.length) (a b cc d e : Int) :
    QL (((((w.setCell ⟨g, j * 5, none⟩ (.int .i64 a)).setCell ⟨g, j * 5 + 1, none⟩ (.int .i64 b)).setCell ⟨g, j * 5 + 2, none⟩ (.int .i64 cc)).setCell ⟨g, j * 5 + 3, none⟩ (.int .i64 d)).setCell ⟨g, j * 5 + 4, none⟩ (.int .i64 e)) B (.slice (some ⟨g, 0, none⟩) n c) (qs.set j ⟨a, b, cc, d, e⟩) := by
  obtain ⟨A, c', e', _, _⟩ := h.form
  simp only [Value.slice.injEq] at e'
  obtain ⟨_, rfl, _⟩ := e'
  unfold QL at h ⊢
  rw [← flatQ_set _ _ _ _ _ _ _ hj, List.length_set]
  exact ((((h.stored _ _).1.stored _ _).1.stored _ _).1.stored _ _).1.stored _ _ |>.1
end
theorem infoRule : (Tryz.prog.info? 31).map (fun i => (i.zero, i.size, i.bytes)) = some (some (.agg #[.int .i64 0, .int .i64 0, .int .i64 0, .int .i64 0, .int .i64 0]), 5, 40) := by kernel_rfl
theorem flatQ_zeros (n : Nat) : (madeCells #[.int .i64 0, .int .i64 0, .int .i64 0, .int .i64 0, .int .i64 0] (n * 5)).toList = flatQ (List.replicate n ⟨0, 0, 0, 0, 0⟩) := by
  apply List.ext_getElem?
  intro j
  simp only [madeCells, Array.toList_map, Array.toList_range, List.getElem?_map]
  by_cases hj : j < n * 5
  · rw [List.getElem?_range hj]
    simp only [Option.map_some]
    have h2 : j / 5 < n := by omega
    obtain ⟨f0, f1, f2, f3, f4⟩ := flatQ_get (List.replicate n ⟨0, 0, 0, 0, 0⟩) (j / 5) ⟨0, 0, 0, 0, 0⟩ (by rw [List.getElem?_replicate, if_pos h2])
    have h5 : j % 5 < 5 := Nat.mod_lt _ (by omega)
    have e : (#[Value.int .i64 0, .int .i64 0, .int .i64 0, .int .i64 0, .int .i64 0] : Array Value)[j % 5]! = .int .i64 0 := by
      generalize j % 5 = q at h5
      match q, h5 with
      | 0, _ => rfl
      | 1, _ => rfl
      | 2, _ => rfl
      | 3, _ => rfl
      | 4, _ => rfl
    show some ((#[Value.int .i64 0, .int .i64 0, .int .i64 0, .int .i64 0, .int .i64 0] : Array Value)[j % 5]!) = _
    rw [e]
    have hs : j % 5 = 0 ∨ j % 5 = 1 ∨ j % 5 = 2 ∨ j % 5 = 3 ∨ j % 5 = 4 := by omega
    rcases hs with h | h | h | h | h
    · rw [show j / 5 * 5 = j by omega] at f0; exact f0.symm
    · rw [show j / 5 * 5 + 1 = j by omega] at f1; exact f1.symm
    · rw [show j / 5 * 5 + 2 = j by omega] at f2; exact f2.symm
    · rw [show j / 5 * 5 + 3 = j by omega] at f3; exact f3.symm
    · rw [show j / 5 * 5 + 4 = j by omega] at f4; exact f4.symm
  · rw [List.getElem?_eq_none (by simp; omega), List.getElem?_eq_none (by rw [flatQ_length]; simp; omega)]
    rfl
/-- The first k rules are laid. -/
def laidQ (qs : List Ru) (k : Nat) : List Ru := qs.take k ++ List.replicate (qs.length - k) ⟨0, 0, 0, 0, 0⟩
theorem laidQ_length (qs : List Ru) {k : Nat} (h : k ≤ qs.length) : (laidQ qs k).length = qs.length := by simp [laidQ]; omega
theorem laidQ_step {qs : List Ru} {k : Nat} {q : Ru} (h : qs[k]? = some q) : (laidQ qs k).set k q = laidQ qs (k + 1) := by
  have hk : k < qs.length := (List.getElem?_eq_some_iff.1 h).1
  have hl : (qs.take k).length = k := by rw [List.length_take]; omega
  have e : qs.length - k = (qs.length - (k + 1)) + 1 := by omega
  unfold laidQ
  rw [List.set_append_right _ _ (by omega), hl, Nat.sub_self, e, List.replicate_succ, List.set_cons_zero, List.take_add_one, h, List.append_assoc]
  rfl

/-- What is known of a list of rules that came in. -/
structure ArgQ (w : World) (A : Option Addr) (n : Nat) (qs : List Ru) : Prop where
  len : qs.length = n
  elem : ∀ (k : Nat) (q : Ru), qs[k]? = some q → ∃ b off, A = some ⟨b, off, none⟩ ∧ b < w.heap.size ∧ w.cell? ⟨b, off + k * 5, none⟩ = some (.int .i64 q.k) ∧ w.cell? ⟨b, off + k * 5 + 1, none⟩ = some (.int .i64 q.l) ∧ w.cell? ⟨b, off + k * 5 + 2, none⟩ = some (.int .i64 q.o) ∧ w.cell? ⟨b, off + k * 5 + 3, none⟩ = some (.int .i64 q.v) ∧ w.cell? ⟨b, off + k * 5 + 4, none⟩ = some (.int .i64 q.p)
theorem ArgQ.on {w w' : World} {A : Option Addr} {n : Nat} {qs : List Ru} (h : ArgQ w A n qs) (hb : Below w.heap.size w w') : ArgQ w' A n qs :=
  ⟨h.len, fun k q hq => by
    obtain ⟨b, off, hA, hbl, h0, h1, h2, h3, h4⟩ := h.elem k q hq
    exact ⟨b, off, hA, Nat.lt_of_lt_of_le hbl hb.size, (hb.cell (p := ⟨b, _, none⟩) hbl).trans h0, (hb.cell (p := ⟨b, _, none⟩) hbl).trans h1, (hb.cell (p := ⟨b, _, none⟩) hbl).trans h2, (hb.cell (p := ⟨b, _, none⟩) hbl).trans h3, (hb.cell (p := ⟨b, _, none⟩) hbl).trans h4⟩⟩
section
variable {H : Type} {enc : TypeId × Value → H} {P : Program} {w : World} {base : Nat} {held : Bool}
/-- A deck: one list of rules. -/
theorem open_deck {r : Go.Reach} {b0 td e : Nat} {g0 f0 f1 f2 f3 f4 : Field} {v : Value} {d : DataW H} {p : List MemPlace} (hd : P.underlying td = some (.struct #[g0])) (honed : oneCellFields P #[g0] = true) (hCd : P.cellsOf td = 1)
    (ht : P.underlying g0.type = some (.slice e)) (he : P.underlying e = some (.struct #[f0, f1, f2, f3, f4])) (hone : oneCellFields P #[f0, f1, f2, f3, f4] = true)
    (hC : P.cellsOf e = 5) (i0 : P.underlying f0.type = some (.int .i64)) (i1 : P.underlying f1.type = some (.int .i64)) (i2 : P.underlying f2.type = some (.int .i64)) (i3 : P.underlying f3.type = some (.int .i64)) (i4 : P.underlying f4.type = some (.int .i64))
    (hv : Value.okWide P w r b0 td v) (h : DataW.Trod enc P w base (fun _ => true) held td v d p) : ∃ A n c qs, v = .agg #[.slice A n c] ∧ n ≤ c ∧ c ≤ maxLen ∧ ArgQ w A n qs := by
  obtain ⟨cs, rfl, _⟩ := okWide_struct hd hv
  obtain ⟨fuel, hf⟩ := h
  obtain ⟨xs, n, _, _, hlen, hxl, hg⟩ := DataW.trod_struct hd hf
  rw [hCd] at hlen
  obtain ⟨l⟩ := cs
  match l, hlen with
  | [c0], _ =>
    obtain ⟨o0, k0⟩ := hone_of honed 0 g0 rfl
    match xs, hxl with
    | [y0], _ =>
      have z0 := hg 0 g0 rfl
      rw [o0, k0] at z0
      have z1 : DataW.trod enc P w base (fun _ => true) held n g0.type [c0] = some y0 := by simpa [Value.cells] using z0
      rcases open_slice ht z1 with ⟨hcs, _⟩ | ⟨x, l, c, m, n, D, Pl, hcs, _, hl, hm, hmm, _, hi⟩
      · simp only [List.cons.injEq, and_true] at hcs
        subst hcs
        exact ⟨none, 0, 0, [], rfl, Nat.le_refl _, by simp [maxLen], rfl, fun k q hk => by simp at hk⟩
      · simp only [if_true] at hmm
        subst hmm
        simp only [List.cons.injEq, and_true] at hcs
        subst hcs
        have H : ∀ i, i < l → ∃ q : Ru, ∀ j, j < 5 → w.cell? (x.add (i * 5 + j)) = q.vals[j]? := by
          intro i hi'
          obtain ⟨cs', hc, htr⟩ := hi i (by omega)
          obtain ⟨q, hq, _⟩ := five_ints he hone hC i0 i1 i2 i3 i4 htr
          rw [hC] at hc
          obtain ⟨_, hcl, hat⟩ := World.cells?_some hc
          refine ⟨q, fun j hj => ?_⟩
          rw [← add_add, hat j hj, hq]
        obtain ⟨qs, hrl, hrs⟩ := list_of l H
        refine ⟨some x, l, _, qs, rfl, hl, hm, hrl, fun k q hk => ?_⟩
        have hk' := (List.getElem?_eq_some_iff.1 hk).1
        have hcl := hrs k q hk
        have h0 := hcl 0 (by omega)
        have h1 := hcl 1 (by omega)
        have h2 := hcl 2 (by omega)
        have h3 := hcl 3 (by omega)
        have h4 := hcl 4 (by omega)
        obtain ⟨b, off, spot⟩ := x
        have hspot : spot = none := by
          have hz := (hrs 0 _ (List.getElem?_eq_getElem (show 0 < qs.length by omega))) 0 (by omega)
          simpa [Addr.add] using World.cell?_spot (hz.trans rfl)
        subst hspot
        rw [Addr.add_lit] at h0 h1 h2 h3 h4
        exact ⟨b, off, rfl, World.block_lt_of_cell? _ _ h0, h0, h1, h2, h3, h4⟩
end

end Go.Proofs.YtjiljodchebniaaGreat

namespace Go.Proofs.YtjiljodchebniaaGreat
open Go.RowKit

/-- Two rules are equal. -/
def eqRu (p q : Ru) : Bool := decide (p = q)
theorem run_equal_Q (a b c d e a' b' c' d' e' : Int) (w : World) :
    (Op.equalIn 10000 31 (.agg #[.int .i64 a, .int .i64 b, .int .i64 c, .int .i64 d, .int .i64 e]) (.agg #[.int .i64 a', .int .i64 b', .int .i64 c', .int .i64 d', .int .i64 e'])).run Tryz.prog w = .ok (eqRu ⟨a, b, c, d, e⟩ ⟨a', b', c', d', e'⟩) w := by
  by_cases h0 : a = a'
  · by_cases h1 : b = b'
    · by_cases h2 : c = c'
      · by_cases h3 : d = d'
        · by_cases h4 : e = e'
          · simp [go_sem, eqRu, h0, h1, h2, h3, h4]
          · simp [go_sem, eqRu, h0, h1, h2, h3, h4]
        · simp [go_sem, eqRu, h0, h1, h2, h3]
      · simp [go_sem, eqRu, h0, h1, h2]
    · simp [go_sem, eqRu, h0, h1]
  · simp [go_sem, eqRu, h0]
@[go_sem high] theorem run_eql_Q (a b c d e a' b' c' d' e' : Int) (w : World) :
    (binOp .eql 31 (.agg #[.int .i64 a, .int .i64 b, .int .i64 c, .int .i64 d, .int .i64 e]) (.agg #[.int .i64 a', .int .i64 b', .int .i64 c', .int .i64 d', .int .i64 e'])).run Tryz.prog w = .ok (.bool (eqRu ⟨a, b, c, d, e⟩ ⟨a', b', c', d', e'⟩)) w := by
  rw [run_eql_struct, run_equal_Q]
  rfl

end Go.Proofs.YtjiljodchebniaaGreat

namespace Go.Proofs.YtjiljodchebniaaGreat
open Go.RowKit

theorem QL.arg {w : World} {B n c : Nat} {A : Option Addr} {qs : List Ru} (h : QL w B (.slice A n c) qs) : ArgQ w A qs.length qs := by
  refine ⟨rfl, fun k q hq => ?_⟩
  obtain ⟨g, hA, -, hg, h0, h1, h2, h3, h4⟩ := h.elem hq
  refine ⟨g, 0, hA, hg, ?_⟩
  rw [Nat.zero_add]
  exact ⟨h0, h1, h2, h3, h4⟩
theorem ArgQ.take {w : World} {A : Option Addr} {n k : Nat} {qs : List Ru} (h : ArgQ w A n qs) (hk : k ≤ n) : ArgQ w A k (qs.take k) := by
  refine ⟨by rw [List.length_take, h.len]; omega, fun j q hq => h.elem j q ?_⟩
  rw [List.getElem?_take] at hq
  split at hq
  · exact hq
  · cases hq
theorem eqRu_iff (p q : Ru) : eqRu p q = true ↔ p = q := by simp [eqRu]
theorem eqRu_no (p q : Ru) : eqRu p q = false ↔ p ≠ q := by simp [eqRu]
/-- Is q among the rules qs? -/
def hasQ (qs : List Ru) (q : Ru) : Bool := decide (q ∈ qs)
theorem has_yes {qs : List Ru} {q : Ru} {k : Nat} (h : qs[k]? = some q) : hasQ qs q = true := decide_eq_true (List.mem_of_getElem? h)
theorem has_not {qs : List Ru} {q : Ru} (h : ∀ j p, j < qs.length → qs[j]? = some p → p ≠ q) : hasQ qs q = false := by
  refine decide_eq_false fun hc => ?_
  obtain ⟨k, hk, e⟩ := List.getElem_of_mem hc
  exact h k q hk (by rw [List.getElem?_eq_getElem hk, e]) rfl

def hasAt (qs : List Ru) (q : Ru) (w : World) (e : Ending) (w' : World) : Prop := ∃ n : Int, e = .returned (.int .i64 n) ∧ -1 ≤ n ∧ n ≤ 1000000000 ∧ decide (0 ≤ n) = hasQ qs q ∧ Below w.heap.size w w'
set_option maxHeartbeats 800000 in
set_option maxRecDepth 100000 in
theorem ruIndex_any (A : Option Addr) (n c : Nat) (qs : List Ru) (q : Ru) (w : World) (hA : ArgQ w A n qs) (hn : n ≤ 1000000000) :
    Calls Tryz.prog 81 #[.slice A n c, q.val] w (hasAt qs q w) := by
  obtain rfl := hA.len
  obtain ⟨b0, b1, b2, b3, b4⟩ := q
  unfold Ru.val
  dsimp only
  have hb0 := (Below.refl w.heap.size w).alloc (Nat.le_refl _) (.cells #[.int .i64 b0, .int .i64 b1, .int .i64 b2, .int .i64 b3, .int .i64 b4] 31)
  have zb := Bk.new w 31 #[.int .i64 b0, .int .i64 b1, .int .i64 b2, .int .i64 b3, .int .i64 b4]
  have Hi0 := Lib.hid (show ∀ (j : Nat) (p : Ru), j < 0 → qs[j]? = some p → p ≠ ⟨b0, b1, b2, b3, b4⟩ from fun j p hj => absurd hj (by omega))
  go_enter Tryz.func81, Tryz.ntmps81
  go_wp2
  go_loopw [8] (fun iv wr => ∃ k : Nat, k ≤ qs.length ∧ iv = .int .i64 k ∧ Hid (∀ (j : Nat) (p : Ru), j < k → qs[j]? = some p → p ≠ ⟨b0, b1, b2, b3, b4⟩) ∧ Bk wr w.heap.size 31 #[.int .i64 b0, .int .i64 b1, .int .i64 b2, .int .i64 b3, .int .i64 b4] ∧ Below w.heap.size w wr) (fun iv _ => qs.length - (intOf iv).toNat)
  case atStart => exact ⟨0, Nat.zero_le _, rfl, Hi0, zb, hb0⟩
  case round =>
    obtain ⟨k, hk, rfl, HI, hz, hb⟩ := hrel
    clear hb0 Hi0 zb
    by_cases hlt : k < qs.length
    · obtain ⟨q, hq⟩ : ∃ q, qs[k]? = some q := ⟨_, List.getElem?_eq_getElem hlt⟩
      obtain ⟨b, off, rfl, hbl, f0, f1, f2, f3, f4⟩ := (hA.on hb).elem k q hq
      obtain ⟨a0, a1, a2, a3, a4⟩ := q
      dsimp only at f0 f1 f2 f3 f4
      have Hq := Lib.hid hq
      obtain ⟨c0, c1, c2, c3, c4⟩ := box5 hz
      have hk9 : k < 9223372036854775807 := by omega
      clear hq hA
      cases he : eqRu ⟨b0, b1, b2, b3, b4⟩ ⟨a0, a1, a2, a3, a4⟩ with
      | true =>
        have Hyes := Lib.hid (has_yes (((eqRu_iff _ _).1 he).symm ▸ Hq.out))
        go_wp2
        go_quiet (fail)
        go_wp2
        go_ret
        exact ⟨_, rfl, by omega, by omega, by rw [Hyes.out]; exact decide_eq_true (by omega), below_drewN hb _⟩
      | false =>
        have HI2 := Lib.hid (show ∀ (j : Nat) (p : Ru), j < k + 1 → qs[j]? = some p → p ≠ ⟨b0, b1, b2, b3, b4⟩ from fun j p hj hp => by
          by_cases e : j = k
          · subst e
            rw [Hq.out] at hp
            cases hp
            exact fun h => (eqRu_no _ _).1 he h.symm
          · exact HI.out j p (by omega) hp)
        go_wp2
        go_quiet (fail)
        go_wp2
        exact ⟨⟨k + 1, by omega, by go_num, HI2, hz.drewN _, below_drewN hb _⟩, by simp [intOf]; omega⟩
    · have hke : k = qs.length := by omega
      subst hke
      have Hno := Lib.hid (has_not HI.out)
      go_wp2
      go_ret
      exact ⟨_, rfl, by omega, by omega, by rw [Hno.out]; rfl, hb⟩
theorem ruHas_any (A : Option Addr) (n c : Nat) (qs : List Ru) (q : Ru) (w : World) (hA : ArgQ w A n qs) (hn : n ≤ 1000000000) :
    Calls Tryz.prog 45 #[.slice A n c, q.val] w fun e w' => e = .returned (.bool (hasQ qs q)) ∧ Below w.heap.size w w' := by
  have hb0 := (Below.refl w.heap.size w).alloc (Nat.le_refl _) (.cells #[.int .i64 q.k, .int .i64 q.l, .int .i64 q.o, .int .i64 q.v, .int .i64 q.p] 31)
  have hA0 := hA.on hb0
  clear hA
  unfold Ru.val
  go_enter Tryz.func45, Tryz.ntmps45
  go_wp2_with fail
  refine (ruIndex_any A n c qs q _ hA0 hn).mono ?_
  rintro e w1 ⟨i, rfl, h1, h2, h3, hb1⟩
  have H3 := Lib.hid h3
  clear h3
  go_wp2
  go_ret
  exact ⟨ret_bool H3.out, hb0.trans (hb1.mono hb0.size)⟩

end Go.Proofs.YtjiljodchebniaaGreat

namespace Go.Proofs.YtjiljodchebniaaGreat
open Go.RowKit

def goodAt (qs : List Ru) (j : Nat) : Bool := match qs[j]? with | some q => ruleB q && !hasQ (qs.take j) q | none => true
def deckB (qs : List Ru) : Bool := decide (qs.length ≤ 12) && (List.range qs.length).all (goodAt qs)
theorem good_at {qs : List Ru} {j : Nat} {q : Ru} (h : qs[j]? = some q) : goodAt qs j = (ruleB q && !hasQ (qs.take j) q) := by unfold goodAt; rw [h]
theorem deck_long {qs : List Ru} (h : ¬ qs.length ≤ 12) : deckB qs = false := by unfold deckB; rw [decide_eq_false h, Bool.false_and]
theorem deck_bad {qs : List Ru} {k : Nat} (hk : k < qs.length) (h : goodAt qs k = false) : deckB qs = false := by
  rw [Bool.eq_false_iff]
  intro hc
  unfold deckB at hc
  rw [Bool.and_eq_true, List.all_eq_true] at hc
  have := hc.2 k (List.mem_range.2 hk)
  rw [h] at this
  cases this
theorem deck_all {qs : List Ru} (h : ∀ j, j < qs.length → goodAt qs j = true) : deckB qs = decide (qs.length ≤ 12) := by
  have : (List.range qs.length).all (goodAt qs) = true := by
    rw [List.all_eq_true]
    exact fun j hj => h j (List.mem_range.1 hj)
  unfold deckB
  rw [this, Bool.and_true]
theorem box1 {w : World} {g : Nat} {t : TypeId} {a : Value} (h : Bk w g t #[a]) : w.cell? ⟨g, 0, none⟩ = some a := h.cell 0
theorem QL.five {w : World} {B g n c k : Nat} {qs : List Ru} {a0 a1 a2 a3 a4 : Int} (h : QL w B (.slice (some ⟨g, 0, none⟩) n c) qs) (hq : qs[k]? = some ⟨a0, a1, a2, a3, a4⟩) : w.cell? ⟨g, k * 5, none⟩ = some (.int .i64 a0) ∧ w.cell? ⟨g, k * 5 + 1, none⟩ = some (.int .i64 a1) ∧ w.cell? ⟨g, k * 5 + 2, none⟩ = some (.int .i64 a2) ∧ w.cell? ⟨g, k * 5 + 3, none⟩ = some (.int .i64 a3) ∧ w.cell? ⟨g, k * 5 + 4, none⟩ = some (.int .i64 a4) := by
  obtain ⟨g', hA, -, -, h0, h1, h2, h3, h4⟩ := h.elem hq
  cases hA
  exact ⟨h0, h1, h2, h3, h4⟩

set_option maxHeartbeats 3200000 in
set_option maxRecDepth 100000 in
theorem deck_impl (v : Value) (qs : List Ru) (w : World) (hv : QL w 0 v qs) (hn : qs.length ≤ 1000000000) : Calls Tryz.prog 20 #[.agg #[v]] w fun e w' => e = .returned (.bool (deckB qs)) ∧ Below w.heap.size w w' := by
  obtain ⟨A, c, rfl, hc, hm⟩ := hv.form
  unfold maxLen at hm
  have hb0 := (Below.refl w.heap.size w).alloc (Nat.le_refl _) (.cells #[.slice A qs.length c] 34)
  have zb := Bk.new w 34 #[.slice A qs.length c]
  have hX0 := hv.alloc (.cells #[.slice A qs.length c] 34)
  clear hv
  have Hi0 := Lib.hid (show ∀ j, j < 0 → goodAt qs j = true from fun j hj => absurd hj (by omega))
  go_enter Tryz.func20, Tryz.ntmps20
  go_wp2
  go_loopw [8] (fun iv wr => ∃ k : Nat, k ≤ qs.length ∧ iv = .int .i64 k ∧ Hid (∀ j, j < k → goodAt qs j = true) ∧ QL wr 0 (.slice A qs.length c) qs ∧ Bk wr w.heap.size 34 #[.slice A qs.length c] ∧ Below w.heap.size w wr) (fun iv _ => qs.length - (intOf iv).toNat)
  case atStart => exact ⟨0, Nat.zero_le _, rfl, Hi0, hX0, zb, hb0⟩
  case round =>
    obtain ⟨k, hk, rfl, HI, hX, hz, hb⟩ := hrel
    clear hb0 Hi0 zb hX0
    have d0 := box1 hz
    by_cases hlt : k < qs.length
    · obtain ⟨q, hq⟩ : ∃ q, qs[k]? = some q := ⟨_, List.getElem?_eq_getElem hlt⟩
      obtain ⟨g, rfl, -, hg, f0, f1, f2, f3, f4⟩ := hX.elem hq
      obtain ⟨a0, a1, a2, a3, a4⟩ := q
      dsimp only at f0 f1 f2 f3 f4
      have Hgood := Lib.hid (good_at hq)
      have hkc : k ≤ c := by omega
      have hk9 : k < 9223372036854775807 := by omega
      have hkz : ((0 : Int) ≤ (k : Int)) ∧ (k : Int) ≤ (c : Int) := by omega
      clear hq
      have hHs := Lib.hid (fun (w2 : World) (h2 : QL w2 0 (.slice (some ⟨g, 0, none⟩) qs.length c) qs) => ruHas_any (some ⟨g, 0, none⟩) k c (qs.take k) ⟨a0, a1, a2, a3, a4⟩ w2 (h2.arg.take (Nat.le_of_lt hlt)) (by omega))
      have tc := (hb.alloc hb.size (.cells #[.int .i64 a0, .int .i64 a1, .int .i64 a2, .int .i64 a3, .int .i64 a4] 31)).drew
      have zz := (hz.alloc (.cells #[.int .i64 a0, .int .i64 a1, .int .i64 a2, .int .i64 a3, .int .i64 a4] 31)).drew
      have xx := (hX.alloc (.cells #[.int .i64 a0, .int .i64 a1, .int .i64 a2, .int .i64 a3, .int .i64 a4] 31)).drew
      have yy := (Bk.new wr 31 #[.int .i64 a0, .int .i64 a1, .int .i64 a2, .int .i64 a3, .int .i64 a4]).drew
      cases hr : ruleB ⟨a0, a1, a2, a3, a4⟩ with
      | true =>
        have Hr := Lib.hid hr
        have Hlt := Lib.hid hlt
        go_wp2
        clear hb hz hX f0 f1 f2 f3 f4 d0 hr
        go_region_held3 (fun w' => w'.cell? ⟨w.heap.size, 0, none⟩ = some (.slice (some ⟨g, 0, none⟩) qs.length c) ∧ (w'.cell? ⟨wr.heap.size, 0, none⟩ = some (.int .i64 a0) ∧ w'.cell? ⟨wr.heap.size, 1, none⟩ = some (.int .i64 a1) ∧ w'.cell? ⟨wr.heap.size, 2, none⟩ = some (.int .i64 a2) ∧ w'.cell? ⟨wr.heap.size, 3, none⟩ = some (.int .i64 a3) ∧ w'.cell? ⟨wr.heap.size, 4, none⟩ = some (.int .i64 a4))) (exact ⟨box1 zz, box5 yy⟩)
          (first | (go_at_call 44; refine (rule_impl ⟨a0, a1, a2, a3, a4⟩ _).mono ?_; rintro e w6 ⟨rfl, hb6⟩; rw [Hr.out]; have tc := tc.trans (hb6.mono tc.size); have zz := zz.on hb6; have xx := xx.on hb6; have yy := yy.on hb6)
                 | (go_at_call 45; refine (hHs.out _ xx).mono ?_; rintro e w7 ⟨rfl, hb7⟩; have tc := tc.trans (hb7.mono tc.size); have zz := zz.on hb7; have xx := xx.on hb7; have yy := yy.on hb7))
        rw [Hr.out, Bool.true_and] at Hgood
        cases hh : hasQ (qs.take k) ⟨a0, a1, a2, a3, a4⟩ with
        | true =>
          rw [hh] at Hgood
          have Hbad := Lib.hid (deck_bad Hlt.out Hgood.out)
          go_wp2
          go_ret
          exact ⟨ret_bool Hbad.out.symm, tc⟩
        | false =>
          rw [hh] at Hgood
          have HI2 := Lib.hid (show ∀ j, j < k + 1 → goodAt qs j = true from fun j hj => by
            by_cases e : j = k
            · subst e
              exact Hgood.out
            · exact HI.out j (by omega))
          go_wp2
          exact ⟨⟨k + 1, by omega, by go_num, HI2, xx, zz, tc⟩, by simp [intOf]; omega⟩
      | false =>
        have Hr := Lib.hid hr
        have Hbad := Lib.hid (deck_bad hlt (by rw [Hgood.out, hr, Bool.false_and]))
        go_wp2
        clear hb hz hX f0 f1 f2 f3 f4 d0 hr
        refine wp_region_held_drew (S := (fun w' => w'.cell? ⟨w.heap.size, 0, none⟩ = some (.slice (some ⟨g, 0, none⟩) qs.length c) ∧ (w'.cell? ⟨wr.heap.size, 0, none⟩ = some (.int .i64 a0) ∧ w'.cell? ⟨wr.heap.size, 1, none⟩ = some (.int .i64 a1) ∧ w'.cell? ⟨wr.heap.size, 2, none⟩ = some (.int .i64 a2) ∧ w'.cell? ⟨wr.heap.size, 3, none⟩ = some (.int .i64 a3) ∧ w'.cell? ⟨wr.heap.size, 4, none⟩ = some (.int .i64 a4)))) (by kernel_rfl) ⟨box1 zz, box5 yy⟩ (fun _ => ?_)
        refine wpAnyH_take (i := 0) (oi := ⟨_, _, _, _, _, _⟩) (v := .agg #[.int .i64 a0, .int .i64 a1, .int .i64 a2, .int .i64 a3, .int .i64 a4]) rfl (by kernel_rfl) (by kernel_rfl) (by kernel_rfl) (fun _ _ _ h => h) (Or.inl ⟨by rfl, fun _ hS => by obtain ⟨s1, s2, s3, s4, s5, s6⟩ := hS; go_simp⟩) ⟨box1 zz, box5 yy⟩ ?_
        try simp only [Act.put, List.setIfInBounds_toArray, List.set_cons_succ, List.set_cons_zero]
        refine wpAnyH_ready (rs := [1]) (by kernel_rfl) (by simp) (AllReadyH.cons (o := ⟨_, _, _, _, _, _⟩) rfl (fun K hK => ?_) AllReadyH.nil)
        go_simp
        refine (rule_impl ⟨a0, a1, a2, a3, a4⟩ _).mono ?_
        rintro e w6 ⟨rfl, hb6⟩
        rw [Hr.out]
        replace tc := tc.trans (hb6.mono tc.size)
        replace zz := zz.on hb6
        replace xx := xx.on hb6
        replace yy := yy.on hb6
        go_wp2_with fail
        refine hK.out _ _ ⟨box1 zz, box5 yy⟩ (fun _ => ?_)
        clear hK K
        try simp only [Act.put, List.setIfInBounds_toArray, List.set_cons_succ, List.set_cons_zero]
        refine wpAnyH_take (i := 2) (oi := ⟨_, _, _, _, _, _⟩) (v := .bool true) rfl (by kernel_rfl) (by kernel_rfl) (by kernel_rfl) (fun _ _ _ h => h) (Or.inl ⟨by rfl, fun _ _ => by go_simp⟩) ⟨box1 zz, box5 yy⟩ ?_
        try simp only [Act.put, List.setIfInBounds_toArray, List.set_cons_succ, List.set_cons_zero]
        refine wpAnyH_take (i := 3) (oi := ⟨_, _, _, _, _, _⟩) (v := .bool true) rfl (by kernel_rfl) (by kernel_rfl) (by kernel_rfl) (fun _ _ _ h => h) (Or.inl ⟨by rfl, fun _ _ => by go_simp⟩) ⟨box1 zz, box5 yy⟩ ?_
        try simp only [Act.put, List.setIfInBounds_toArray, List.set_cons_succ, List.set_cons_zero]
        refine wpAnyH_take (i := 4) (oi := ⟨_, _, _, _, _, _⟩) (v := undef) rfl (by kernel_rfl) (by kernel_rfl) (by kernel_rfl) (fun _ _ _ h => h) (Or.inr ⟨by rfl, rfl⟩) ⟨box1 zz, box5 yy⟩ ?_
        try simp only [Act.put, List.setIfInBounds_toArray, List.set_cons_succ, List.set_cons_zero]
        refine wpAnyH_take (i := 5) (oi := ⟨_, _, _, _, _, _⟩) (v := undef) rfl (by kernel_rfl) (by kernel_rfl) (by kernel_rfl) (fun _ _ _ h => h) (Or.inr ⟨by rfl, rfl⟩) ⟨box1 zz, box5 yy⟩ ?_
        try simp only [Act.put, List.setIfInBounds_toArray, List.set_cons_succ, List.set_cons_zero]
        refine wpAnyH_take (i := 6) (oi := ⟨_, _, _, _, _, _⟩) (v := undef) rfl (by kernel_rfl) (by kernel_rfl) (by kernel_rfl) (fun _ _ _ h => h) (Or.inr ⟨by rfl, rfl⟩) ⟨box1 zz, box5 yy⟩ ?_
        try simp only [Act.put, List.setIfInBounds_toArray, List.set_cons_succ, List.set_cons_zero]
        refine wpAnyH_take (i := 7) (oi := ⟨_, _, _, _, _, _⟩) (v := undef) rfl (by kernel_rfl) (by kernel_rfl) (by kernel_rfl) (fun _ _ _ h => h) (Or.inr ⟨by rfl, rfl⟩) ⟨box1 zz, box5 yy⟩ ?_
        try simp only [Act.put, List.setIfInBounds_toArray, List.set_cons_succ, List.set_cons_zero]
        refine wpAnyH_take (i := 8) (oi := ⟨_, _, _, _, _, _⟩) (v := undef) rfl (by kernel_rfl) (by kernel_rfl) (by kernel_rfl) (fun _ _ _ h => h) (Or.inr ⟨by rfl, rfl⟩) ⟨box1 zz, box5 yy⟩ ?_
        try simp only [Act.put, List.setIfInBounds_toArray, List.set_cons_succ, List.set_cons_zero]
        refine wpAnyH_take (i := 9) (oi := ⟨_, _, _, _, _, _⟩) (v := undef) rfl (by kernel_rfl) (by kernel_rfl) (by kernel_rfl) (fun _ _ _ h => h) (Or.inr ⟨by rfl, rfl⟩) ⟨box1 zz, box5 yy⟩ ?_
        try simp only [Act.put, List.setIfInBounds_toArray, List.set_cons_succ, List.set_cons_zero]
        refine wpAnyH_take (i := 10) (oi := ⟨_, _, _, _, _, _⟩) (v := .bool true) rfl (by kernel_rfl) (by kernel_rfl) (by kernel_rfl) (fun _ _ _ h => h) (Or.inl ⟨by rfl, fun _ _ => by go_simp⟩) ⟨box1 zz, box5 yy⟩ ?_
        try simp only [Act.put, List.setIfInBounds_toArray, List.set_cons_succ, List.set_cons_zero]
        refine wpAnyH_done (by kernel_rfl) ?_ _
        go_wp2
        go_ret
        exact ⟨ret_bool Hbad.out.symm, tc⟩
    · have hke : k = qs.length := by omega
      subst hke
      have Hall := Lib.hid (deck_all HI.out)
      have Hle := Lib.hid (show decide ((qs.length : Int) ≤ 12) = decide (qs.length ≤ 12) by rw [Bool.eq_iff_iff]; simp; omega)
      go_wp2
      go_ret
      exact ⟨ret_bool (by rw [Hall.out, Hle.out]), hb⟩

end Go.Proofs.YtjiljodchebniaaGreat
