/- Lists of pairs of edges in memory. Conditions: lists in memory. Maps keyed by points and by pairs of edges: the keys' laws. Conditions: numbers in range. The state of facing in memory; contracts of its closures add, kind, counts. Conditions: the state. Contracts: the closure add of facing. Conditions: the state of facing. -/
import Derived.Test.YtjiljodchebniaaGreatQ11
import Derived.Test.YtjiljodchebniaaGreatQ15
import Derived.Test.YtjiljodchebniaaGreatQ10
import Derived.DeepKeys4
import Derived.Maps.OwnOps
import Derived.Deep.CutRange

namespace Go.Proofs.YtjiljodchebniaaGreat
open Go.RowKit

def EP.vals (r : EP) : List Value := [.int .i64 r.f.x0, .int .i64 r.f.y0, .int .i64 r.f.x1, .int .i64 r.f.y1, .int .i64 r.s.x0, .int .i64 r.s.y0, .int .i64 r.s.x1, .int .i64 r.s.y1, .int .i64 r.d]
def EP.val (r : EP) : Value := .agg #[.int .i64 r.f.x0, .int .i64 r.f.y0, .int .i64 r.f.x1, .int .i64 r.f.y1, .int .i64 r.s.x0, .int .i64 r.s.y0, .int .i64 r.s.x1, .int .i64 r.s.y1, .int .i64 r.d]
def flatPE (rs : List EP) : List Value := rs.flatMap EP.vals
theorem flatPE_length : ∀ rs : List EP, (flatPE rs).length = rs.length * 9
  | [] => rfl
  | r :: rs => by
    have := flatPE_length rs
    have e : flatPE (r :: rs) = r.vals ++ flatPE rs := rfl
    have e4 : r.vals.length = 9 := rfl
    rw [e, List.length_append, this, e4, List.length_cons]
    omega
theorem flatPE_append (a b : List EP) : flatPE (a ++ b) = flatPE a ++ flatPE b := by simp [flatPE, List.flatMap_append]
theorem flatPE_one (r : EP) : flatPE [r] = r.vals := by simp [flatPE]
theorem flatPE_at : ∀ (rs : List EP) (k : Nat) (r : EP), rs[k]? = some r → ∀ j, j < 9 → (flatPE rs)[k * 9 + j]? = r.vals[j]?
  | [], k, r, h => by simp at h
  | q :: rs, 0, r, h => by
    intro j hj
    simp only [List.getElem?_cons_zero, Option.some.injEq] at h
    subst h
    have e : flatPE (q :: rs) = q.vals ++ flatPE rs := rfl
    rw [e, Nat.zero_mul, Nat.zero_add, List.getElem?_append_left (by exact hj)]
  | q :: rs, k + 1, r, h => by
    intro j hj
    have ih := flatPE_at rs k r (by simpa using h) j hj
    have e : flatPE (q :: rs) = q.vals ++ flatPE rs := rfl
    have e9 : q.vals.length = 9 := rfl
    rw [e, List.getElem?_append_right (by rw [e9]; omega), e9, show (k + 1) * 9 + j - 9 = k * 9 + j by omega]
    exact ih

/-- The slice value v is the list rs of pairs, in a row from block B on (B = 0: wherever). -/
def PEL (w : World) (B : Nat) (v : Value) (rs : List EP) : Prop := w.ownsRow B 50 9 v rs.length (flatPE rs)

section
variable {w w' : World} {B B' : Nat} {v : Value} {rs : List EP}
theorem PEL.on (h : PEL w B v rs) (hb : Below w.heap.size w w') : PEL w' B v rs := own_on h hb
theorem PEL.less (h : PEL w B v rs) (hB : B' ≤ B) : PEL w B' v rs := own_less h hB
theorem PEL.nil (w : World) (B : Nat) : PEL w B (.slice none 0 0) [] := World.ownsRow_nil w B _ _
theorem PEL.form (h : PEL w B v rs) : ∃ A cap, v = .slice A rs.length cap ∧ rs.length ≤ cap ∧ cap ≤ maxLen ∧
    (∀ (k : Nat) (r : EP), rs[k]? = some r → ∃ g, A = some ⟨g, 0, none⟩ ∧ B ≤ g ∧ g < w.heap.size ∧ ∀ j, j < 9 → w.cell? ⟨g, k * 9 + j, none⟩ = r.vals[j]?) := by
  obtain ⟨A, cap, hv, h1, h2, h3⟩ := own_form h
  refine ⟨A, cap, hv, h1, h2, fun k r hk => ?_⟩
  have hlt : k < rs.length := (List.getElem?_eq_some_iff.1 hk).1
  obtain ⟨g, hA, hg, hgw, hc, _⟩ := h3 (by omega)
  refine ⟨g, hA, hg, hgw, fun j hj => ?_⟩
  have hf := flatPE_at rs k r hk j hj
  have hj9 : j < r.vals.length := hj
  rw [List.getElem?_eq_getElem hj9] at hf ⊢
  exact hc _ _ hf
/-- The element k of a list, in memory. -/
theorem PEL.elem {A : Option Addr} {n c : Nat} (h : PEL w B (.slice A n c) rs) {k : Nat} (hk : k < rs.length) : ∃ (g : Nat) (r : EP), A = some ⟨g, 0, none⟩ ∧ rs[k]? = some r ∧ B ≤ g ∧ g < w.heap.size ∧
    w.cell? ⟨g, k * 9, none⟩ = some (.int .i64 r.f.x0) ∧ w.cell? ⟨g, k * 9 + 1, none⟩ = some (.int .i64 r.f.y0) ∧ w.cell? ⟨g, k * 9 + 2, none⟩ = some (.int .i64 r.f.x1) ∧ w.cell? ⟨g, k * 9 + 3, none⟩ = some (.int .i64 r.f.y1) ∧ w.cell? ⟨g, k * 9 + 4, none⟩ = some (.int .i64 r.s.x0) ∧ w.cell? ⟨g, k * 9 + 5, none⟩ = some (.int .i64 r.s.y0) ∧ w.cell? ⟨g, k * 9 + 6, none⟩ = some (.int .i64 r.s.x1) ∧ w.cell? ⟨g, k * 9 + 7, none⟩ = some (.int .i64 r.s.y1) ∧ w.cell? ⟨g, k * 9 + 8, none⟩ = some (.int .i64 r.d) := by
  obtain ⟨A', c', e, _, _, hf⟩ := h.form
  have hr : rs[k]? = some rs[k] := List.getElem?_eq_getElem hk
  obtain ⟨g, hA, hB, hg, h0⟩ := hf k _ hr
  simp only [Value.slice.injEq] at e
  exact ⟨g, rs[k], e.1.trans hA, hr, hB, hg, h0 0 (by decide), h0 1 (by decide), h0 2 (by decide), h0 3 (by decide), h0 4 (by decide), h0 5 (by decide), h0 6 (by decide), h0 7 (by decide), h0 8 (by decide)⟩
theorem PEL.frozen {w : World} {B g n c : Nat} {rs : List EP} (h : PEL w B (.slice (some ⟨g, 0, none⟩) n c) rs) (j : Nat) : w.frozen? ⟨g, j, none⟩ = false := by
  obtain ⟨A, c', e, _, _, _⟩ := h.form
  simp only [Value.slice.injEq] at e
  obtain ⟨_, rfl, _⟩ := e
  exact World.ownsRow.frozenAt h j
end

theorem infoEP : (Tryz.prog.info? 50).map (fun i => (i.zero, i.size, i.bytes)) = some (some (.agg #[.int .i64 0, .int .i64 0, .int .i64 0, .int .i64 0, .int .i64 0, .int .i64 0, .int .i64 0, .int .i64 0, .int .i64 0]), 9, 72) := by kernel_rfl
/-- 'out = append(out, r)' on a list of pairs of the call's own. -/
theorem wpList_append_PE {w : World} {ops : Array Oper} {rest : List Oper} {o : Oper} {a : Act} {Q : Exit → Act → World → Prop} (hgd : o.guard = none) (s x : Operand)
    (ho : o.op = .call { callee := .builtin .append, args := #[s, x], argTypes := #[39, 39] })
    (B : Nat) (v : Value) (rs : List EP) (hs : a.eval s = v) (hown : PEL w B v rs) (x0 x1 x2 x3 x4 x5 x6 x7 xd : Int) (hd : EP.d ⟨⟨x0, x1, x2, x3⟩, ⟨x4, x5, x6, x7⟩⟩ = xd) (hx : a.eval x = .slice (some ⟨w.heap.size, 0, none⟩) 1 1)
    (hlen : rs.length ≤ 1000000) (hB : B ≤ w.heap.size)
    (h : ∀ v' w', PEL w' B v' (rs ++ [⟨⟨x0, x1, x2, x3⟩, ⟨x4, x5, x6, x7⟩⟩]) → w.grownBy w' v.ownBlock → Below B w w' → wpList Tryz.prog ops Q rest (a.put o.dst v') w') :
    wpList Tryz.prog ops Q (o :: rest) a (w.alloc (.cells #[.int .i64 x0, .int .i64 x1, .int .i64 x2, .int .i64 x3, .int .i64 x4, .int .i64 x5, .int .i64 x6, .int .i64 x7, .int .i64 xd] 50)) := by
  subst hd
  obtain ⟨i, hi, hz, hsz, hby⟩ := info_parts infoEP
  refine wpList_append_own _ hgd s x 39 ho B 50 i _ 9 72 Tryz.underlying39 hi hz hsz hby rfl (by decide) v rs.length (flatPE rs) hs (World.ownsRow.alloc hown _) ⟨w.heap.size, 0, none⟩ 1 1
    (EP.vals ⟨⟨x0, x1, x2, x3⟩, ⟨x4, x5, x6, x7⟩⟩) hx rfl ?_ ?_ (by simp only [maxLen]; omega) (by omega) (by simp; omega) ?_
  · intro j u hu
    rw [Addr.add_lit, World.cell?_alloc_new]
    unfold EP.vals at hu
    simpa using hu
  · intro u hu
    unfold EP.vals at hu
    simp only [List.mem_cons, List.not_mem_nil, or_false] at hu
    rcases hu with rfl | rfl | rfl | rfl | rfl | rfl | rfl | rfl | rfl <;> rfl
  · intro v' w' h1 h2 _
    have h3 := grown_of_alloc h2
    refine h v' w' ?_ h3 (below_own hown h3 hB)
    unfold PEL
    rw [flatPE_append, flatPE_one, List.length_append]
    exact h1
theorem box9 {w : World} {b : Nat} {t : TypeId} {a0 a1 a2 a3 a4 a5 a6 a7 a8 : Value} (h : Bk w b t #[a0, a1, a2, a3, a4, a5, a6, a7, a8]) : w.cell? ⟨b, 0, none⟩ = some a0 ∧ w.cell? ⟨b, 1, none⟩ = some a1 ∧ w.cell? ⟨b, 2, none⟩ = some a2 ∧ w.cell? ⟨b, 3, none⟩ = some a3 ∧ w.cell? ⟨b, 4, none⟩ = some a4 ∧ w.cell? ⟨b, 5, none⟩ = some a5 ∧ w.cell? ⟨b, 6, none⟩ = some a6 ∧ w.cell? ⟨b, 7, none⟩ = some a7 ∧ w.cell? ⟨b, 8, none⟩ = some a8 :=
  ⟨h.cell 0, h.cell 1, h.cell 2, h.cell 3, h.cell 4, h.cell 5, h.cell 6, h.cell 7, h.cell 8⟩

/-- Equality of two pairs, number by number. -/
def eq9 (x0 x1 x2 x3 x4 x5 x6 x7 xd y0 y1 y2 y3 y4 y5 y6 y7 yd : Int) : Bool := eqEd ⟨x0, x1, x2, x3⟩ ⟨y0, y1, y2, y3⟩ && eqEd ⟨x4, x5, x6, x7⟩ ⟨y4, y5, y6, y7⟩ && decide (xd = yd)
theorem eq9_iff {x0 x1 x2 x3 x4 x5 x6 x7 xd y0 y1 y2 y3 y4 y5 y6 y7 yd : Int} (hx : EP.d ⟨⟨x0, x1, x2, x3⟩, ⟨x4, x5, x6, x7⟩⟩ = xd) (hy : EP.d ⟨⟨y0, y1, y2, y3⟩, ⟨y4, y5, y6, y7⟩⟩ = yd) : eq9 x0 x1 x2 x3 x4 x5 x6 x7 xd y0 y1 y2 y3 y4 y5 y6 y7 yd = true ↔ (⟨⟨x0, x1, x2, x3⟩, ⟨x4, x5, x6, x7⟩⟩ : EP) = ⟨⟨y0, y1, y2, y3⟩, ⟨y4, y5, y6, y7⟩⟩ := by
  subst hx
  subst hy
  unfold eq9
  rw [Bool.and_eq_true, Bool.and_eq_true, eqEd_iff, eqEd_iff, decide_eq_true_iff]
  constructor
  · rintro ⟨⟨h1, h2⟩, -⟩
    rw [h1, h2]
  · intro h
    rw [h]
    simp only [EP.mk.injEq] at h
    exact ⟨⟨h.1, h.2⟩, rfl⟩
theorem run_equal_P (x0 x1 x2 x3 x4 x5 x6 x7 xd y0 y1 y2 y3 y4 y5 y6 y7 yd : Int) (w : World) :
    (Op.equalIn 10000 50 (.agg #[.int .i64 x0, .int .i64 x1, .int .i64 x2, .int .i64 x3, .int .i64 x4, .int .i64 x5, .int .i64 x6, .int .i64 x7, .int .i64 xd]) (.agg #[.int .i64 y0, .int .i64 y1, .int .i64 y2, .int .i64 y3, .int .i64 y4, .int .i64 y5, .int .i64 y6, .int .i64 y7, .int .i64 yd])).run Tryz.prog w = .ok (eq9 x0 x1 x2 x3 x4 x5 x6 x7 xd y0 y1 y2 y3 y4 y5 y6 y7 yd) w := by
  by_cases h0 : x0 = y0
  · by_cases h1 : x1 = y1
    · by_cases h2 : x2 = y2
      · by_cases h3 : x3 = y3
        · by_cases h4 : x4 = y4
          · by_cases h5 : x5 = y5
            · by_cases h6 : x6 = y6
              · by_cases h7 : x7 = y7
                · by_cases h8 : xd = yd
                  · simp [go_sem, eq9, eqEd, h0, h1, h2, h3, h4, h5, h6, h7, h8]
                  · simp [go_sem, eq9, eqEd, h0, h1, h2, h3, h4, h5, h6, h7, h8]
                · simp [go_sem, eq9, eqEd, h0, h1, h2, h3, h4, h5, h6, h7]
              · simp [go_sem, eq9, eqEd, h0, h1, h2, h3, h4, h5, h6]
            · simp [go_sem, eq9, eqEd, h0, h1, h2, h3, h4, h5]
          · simp [go_sem, eq9, eqEd, h0, h1, h2, h3, h4]
        · simp [go_sem, eq9, eqEd, h0, h1, h2, h3]
      · simp [go_sem, eq9, eqEd, h0, h1, h2]
    · simp [go_sem, eq9, eqEd, h0, h1]
  · simp [go_sem, eq9, eqEd, h0]
@[go_sem high] theorem run_eql_P (x0 x1 x2 x3 x4 x5 x6 x7 xd y0 y1 y2 y3 y4 y5 y6 y7 yd : Int) (w : World) :
    (binOp .eql 50 (.agg #[.int .i64 x0, .int .i64 x1, .int .i64 x2, .int .i64 x3, .int .i64 x4, .int .i64 x5, .int .i64 x6, .int .i64 x7, .int .i64 xd]) (.agg #[.int .i64 y0, .int .i64 y1, .int .i64 y2, .int .i64 y3, .int .i64 y4, .int .i64 y5, .int .i64 y6, .int .i64 y7, .int .i64 yd])).run Tryz.prog w = .ok (.bool (eq9 x0 x1 x2 x3 x4 x5 x6 x7 xd y0 y1 y2 y3 y4 y5 y6 y7 yd)) w := by
  rw [run_eql_struct, run_equal_P]
  rfl

end Go.Proofs.YtjiljodchebniaaGreat

namespace Go.Proofs.YtjiljodchebniaaGreat
open Go.Maps Go.RowKit

theorem laidOutK : laidOutB Tryz.prog = true := by kernel_rfl
theorem keyedPt : Keyed Tryz.prog 93 := Keyed.of_law (deep_law_laid laidOutK (m := 2) (by omega) (of_decide_eq_true (by kernel_rfl)) (by kernel_rfl) (by kernel_rfl))
theorem keyedEP : Keyed Tryz.prog 50 := Keyed.of_law (deep_law_laid laidOutK (m := 3) (by omega) (of_decide_eq_true (by kernel_rfl)) (by kernel_rfl) (by kernel_rfl))
theorem keyTypePt : Tryz.prog.keyType 93 = true := by kernel_rfl
theorem keyTypeEP : Tryz.prog.keyType 50 = true := by kernel_rfl
theorem cellsPt : Tryz.prog.cellsOf 93 = 2 := by kernel_rfl
theorem cellsEd : Tryz.prog.cellsOf 48 = 4 := by kernel_rfl
theorem cellsEP : Tryz.prog.cellsOf 50 = 9 := by kernel_rfl
theorem cellsI64 : Tryz.prog.cellsOf 2 = 1 := by kernel_rfl
theorem typesBig : ∃ m, Tryz.prog.types.size + 1 = m + 1 + 1 + 1 := by
  have h : (3 ≤ Tryz.prog.types.size) := of_decide_eq_true (by kernel_rfl)
  exact ⟨Tryz.prog.types.size - 2, by omega⟩
theorem lits_int (m : Nat) (x : Int) (h : (Lit.int .i64 x).wf = true) : Tryz.prog.keyLits (m + 1) 2 [.int .i64 x] = some [.int .i64 x] := by
  simp [Program.keyLits, Tryz.underlying2, h]
theorem lits_ed (m : Nat) (a b c d : Int) (ha : (Lit.int .i64 a).wf = true) (hb : (Lit.int .i64 b).wf = true) (hc : (Lit.int .i64 c).wf = true) (hd : (Lit.int .i64 d).wf = true) : Tryz.prog.keyLits (m + 1 + 1) 48 [.int .i64 a, .int .i64 b, .int .i64 c, .int .i64 d] = some [.int .i64 a, .int .i64 b, .int .i64 c, .int .i64 d] := by
  unfold Program.keyLits
  simp [Tryz.underlying48, cellsEd, cellsI64, lits_int m a ha, lits_int m b hb, lits_int m c hc, lits_int m d hd]
theorem key_pt (x y : Int) (hx : (Lit.int .i64 x).wf = true) (hy : (Lit.int .i64 y).wf = true) : ∃ kl, keyOf Tryz.prog 93 (.agg #[.int .i64 x, .int .i64 y]) = some kl := by
  obtain ⟨m, hm⟩ := typesBig
  unfold keyOf
  rw [hm]
  unfold Program.keyLits
  simp [Tryz.underlying93, keyTypePt, Value.formed, cellsPt, cellsI64, Value.cells, lits_int _ x hx, lits_int _ y hy]
theorem key_ep (x0 x1 x2 x3 x4 x5 x6 x7 xd : Int) (h : ∀ z ∈ [x0, x1, x2, x3, x4, x5, x6, x7, xd], (Lit.int .i64 z).wf = true) : ∃ kl, keyOf Tryz.prog 50 (.agg #[.int .i64 x0, .int .i64 x1, .int .i64 x2, .int .i64 x3, .int .i64 x4, .int .i64 x5, .int .i64 x6, .int .i64 x7, .int .i64 xd]) = some kl := by
  obtain ⟨m, hm⟩ := typesBig
  unfold keyOf
  rw [hm]
  unfold Program.keyLits
  simp [Tryz.underlying50, keyTypeEP, Value.formed, cellsEP, cellsEd, cellsI64, Value.cells, lits_ed m x0 x1 x2 x3 (h _ (by simp)) (h _ (by simp)) (h _ (by simp)) (h _ (by simp)), lits_ed m x4 x5 x6 x7 (h _ (by simp)) (h _ (by simp)) (h _ (by simp)) (h _ (by simp)), lits_int _ xd (h _ (by simp))]
theorem wf_small {z : Int} (h : -1000000 ≤ z ∧ z ≤ 1000000) : (Lit.int .i64 z).wf = true := by
  show (decide (IntKind.min .i64 ≤ z) && decide (z ≤ IntKind.max .i64)) = true
  have h1 : IntKind.min .i64 = -9223372036854775808 := by decide
  have h2 : IntKind.max .i64 = 9223372036854775807 := by decide
  rw [Bool.and_eq_true, decide_eq_true_iff, decide_eq_true_iff, h1, h2]
  omega
def zeroEdV : Value := .agg #[.int .i64 0, .int .i64 0, .int .i64 0, .int .i64 0]
theorem zeroEdgeV (w : World) : (zeroValue 48).run Tryz.prog w = .ok zeroEdV w := by kernel_rfl
theorem zeroBoolV (w : World) : (zeroValue 4).run Tryz.prog w = .ok (.bool false) w := by kernel_rfl

end Go.Proofs.YtjiljodchebniaaGreat

namespace Go.Proofs.YtjiljodchebniaaGreat
open Go.Maps Go.RowKit

theorem EP.val_inj {x y : EP} (h : x.val = y.val) : x = y := by
  obtain ⟨⟨a0, a1, a2, a3⟩, ⟨a4, a5, a6, a7⟩⟩ := x
  obtain ⟨⟨b0, b1, b2, b3⟩, ⟨b4, b5, b6, b7⟩⟩ := y
  unfold EP.val at h
  simp only [Value.agg.injEq, Array.mk.injEq, List.cons.injEq, Value.int.injEq, true_and, and_true] at h
  obtain ⟨rfl, rfl, rfl, rfl, rfl, rfl, rfl, rfl, -⟩ := h
  rfl
/-- All blocks stay but the map mm, lists of pairs and their boxes. -/
def KeepF (mm : Nat) (W W' : World) : Prop := ∀ (b : Nat) (o : Obj), W.heap[b]? = some o → b ≠ mm → (∀ cs z, o ≠ .cells cs 39 z) → (∀ cs z, o ≠ .cells cs 50 z) → W'.heap[b]? = some o
section
variable {mm : Nat} {W W' W'' : World}
theorem KeepF.below (h : Below W.heap.size W W') : KeepF mm W W' := fun b _ ho _ _ _ => (h.block b (Array.getElem?_eq_some_iff.1 ho).1).trans ho
theorem KeepF.map_ (h : W.grownBy W' (some mm)) : KeepF mm W W' := fun b _ ho hb _ _ => (h.block b (Array.getElem?_eq_some_iff.1 ho).1 (by simpa using hb)).trans ho
theorem KeepF.row {B n : Nat} {v : Value} {xs : List Value} (hr : W.ownsRow B 50 9 v n xs) (h : W.grownBy W' v.ownBlock) : KeepF mm W W' := fun b o ho _ _ h2 => (h.block b (Array.getElem?_eq_some_iff.1 ho).1 (by
  intro e
  rcases hr.2 with ⟨rfl, _⟩ | ⟨g', cap, cur, rfl, _, hh, _⟩
  · simp [Value.ownBlock] at e
  · simp [Value.ownBlock] at e
    subst e
    rw [hh] at ho
    exact h2 _ _ (Option.some.inj ho).symm)).trans ho
theorem KeepF.box {ob : Nat} {cs : Array Value} (hb : Bk W ob 39 cs) (i : Nat) (u : Value) : KeepF mm W (W.setCell ⟨ob, i, none⟩ u) := fun b o ho _ h1 _ => by
  have hne : b ≠ ob := by
    rintro rfl
    unfold Bk at hb
    rw [hb] at ho
    exact h1 _ _ (Option.some.inj ho).symm
  rw [Below.heap_setCell _ _ _ _ hne]
  exact ho
theorem KeepF.trans (h : KeepF mm W W') (h2 : KeepF mm W' W'') : KeepF mm W W'' := fun b o ho hb h3 h4 => h2 b o (h b o ho hb h3 h4) hb h3 h4
theorem KeepF.bk {b : Nat} {t : TypeId} {cs : Array Value} (h : KeepF mm W W') (hm : ∃ es c, W.heap[mm]? = some (.map es c)) (hb : Bk W b t cs) (ht : t ≠ 39 ∧ t ≠ 50) : Bk W' b t cs := by
  refine h b _ hb ?_ (fun cs' z e => ?_) (fun cs' z e => ?_)
  · rintro rfl
    obtain ⟨es, c, hm⟩ := hm
    unfold Bk at hb
    rw [hm] at hb
    cases hb
  · rw [Obj.cells.injEq] at e
    exact ht.1 e.2.1
  · rw [Obj.cells.injEq] at e
    exact ht.2 e.2.1
theorem KeepF.mv {P : Program} {k : TypeId} {z : Value} {b n : Nat} {f : Value → Value} (h : KeepF mm W W') (hm : MapV P k z W b n f) (hb : b ≠ mm) : MapV P k z W' b n f := by
  obtain ⟨D, ⟨es, clock, hh, r⟩, h2⟩ := hm
  exact ⟨D, ⟨es, clock, h b _ hh hb (fun cs z e => by cases e) (fun cs z e => by cases e), r⟩, h2⟩
theorem MapV.isMap {P : Program} {k : TypeId} {z : Value} {b n : Nat} {f : Value → Value} (hm : MapV P k z W b n f) : ∃ es c, W.heap[b]? = some (.map es c) := by
  obtain ⟨D, ⟨es, clock, hh, r⟩, h2⟩ := hm
  exact ⟨es, clock, hh⟩
end

/-- The blocks of facing. -/
structure FN where
  cb : Nat
  db : Nat
  ib : Nat
  ub : Nat
  vb : Nat
  mb : Nat
  ob : Nat
  ab : Nat
  kb : Nat
  qb : Nat
  g : Nat
  mu : Nat
  ml : Nat
  mm : Nat
/-- What stays while facing looks at its lines. -/
structure FZ (N : FN) (G : Gr) (d : Int) (U L : Value → Value) (nu nl lb : Nat) (line : Int) (W : World) : Prop where
  c : Bk W N.cb 60 #[.pointer (some ⟨N.g, 0, none⟩)]
  dd : Bk W N.db 2 #[.int .i64 d]
  i : Bk W N.ib 4 #[.bool true]
  u : Bk W N.ub 91 #[.map (some N.mu)]
  v : Bk W N.vb 91 #[.map (some N.ml)]
  m : Bk W N.mb 94 #[.map (some N.mm)]
  k : Bk W N.kb 96 #[.func (.func 53) #[] #[.pointer (some ⟨N.ib, 0, none⟩)]]
  q : Bk W N.qb 97 #[.func (.func 54) #[] #[.pointer (some ⟨N.db, 0, none⟩), .pointer (some ⟨N.ib, 0, none⟩)]]
  a : Bk W N.ab 95 #[.func (.func 52) #[] #[.pointer (some ⟨N.mb, 0, none⟩), .pointer (some ⟨N.ob, 0, none⟩)]]
  l : Bk W lb 2 #[.int .i64 line]
  gb : GB W N.g 89 G
  mu : MapV Tryz.prog 93 zeroEdV W N.mu nu U
  ml : MapV Tryz.prog 93 zeroEdV W N.ml nl L
  h1 : N.mu ≠ N.mm
  h2 : N.ml ≠ N.mm
section
variable {N : FN} {G : Gr} {d : Int} {U L : Value → Value} {nu nl lb : Nat} {line : Int} {W W' : World}
theorem FZ.kept (h : FZ N G d U L nu nl lb line W) (hk : KeepF N.mm W W') (hm : ∃ es c, W.heap[N.mm]? = some (.map es c)) : FZ N G d U L nu nl lb line W' := by
  obtain ⟨cs, g1, g2⟩ := h.gb
  exact ⟨hk.bk hm h.c (by decide), hk.bk hm h.dd (by decide), hk.bk hm h.i (by decide), hk.bk hm h.u (by decide), hk.bk hm h.v (by decide), hk.bk hm h.m (by decide), hk.bk hm h.k (by decide), hk.bk hm h.q (by decide), hk.bk hm h.a (by decide), hk.bk hm h.l (by decide), ⟨cs, hk.bk hm g1 (by decide), g2⟩, hk.mv h.mu h.h1, hk.mv h.ml h.h2, h.h1, h.h2⟩
theorem FZ.on (h : FZ N G d U L nu nl lb line W) (hb : Below W.heap.size W W') : FZ N G d U L nu nl lb line W' :=
  ⟨h.c.on hb, h.dd.on hb, h.i.on hb, h.u.on hb, h.v.on hb, h.m.on hb, h.k.on hb, h.q.on hb, h.a.on hb, h.l.on hb, h.gb.on hb, h.mu.on hb, h.ml.on hb, h.h1, h.h2⟩
end
/-- The state of facing: es the list so far, ms what its map has. -/
structure FS (w : World) (N : FN) (G : Gr) (d : Int) (U L : Value → Value) (nu nl lb : Nat) (line : Int) (v : Value) (es ms : List EP) (W : World) : Prop where
  z : FZ N G d U L nu nl lb line W
  o : Bk W N.ob 39 #[v]
  row : PEL W w.heap.size v es
  mm : ∃ M, MapV Tryz.prog 50 (.bool false) W N.mm ms.length M ∧ ∀ x : EP, M x.val = .bool (decide (x ∈ ms))
  bel : Below w.heap.size w W
  hob : w.heap.size ≤ N.ob
  hmm : w.heap.size ≤ N.mm
section
variable {w : World} {N : FN} {G : Gr} {d : Int} {U L : Value → Value} {nu nl lb : Nat} {line : Int} {v v' : Value} {es ms es' : List EP} {W W' : World}
theorem FS.isMap (h : FS w N G d U L nu nl lb line v es ms W) : ∃ es c, W.heap[N.mm]? = some (.map es c) := let ⟨_, h1, _⟩ := h.mm; h1.isMap
theorem FS.on (h : FS w N G d U L nu nl lb line v es ms W) (hb : Below W.heap.size W W') : FS w N G d U L nu nl lb line v es ms W' :=
  ⟨h.z.on hb, h.o.on hb, h.row.on hb, (let ⟨M, h1, h2⟩ := h.mm; ⟨M, h1.on hb, h2⟩), h.bel.trans (hb.mono h.bel.size), h.hob, h.hmm⟩
theorem FS.seen {x : EP} {M : Value → Value} (h : FS w N G d U L nu nl lb line v es ms W) (hM : ∀ x : EP, M x.val = .bool (decide (x ∈ ms))) (hm : MapV Tryz.prog 50 (.bool false) W' N.mm (ms.length + 1) (updV M x.val (.bool true))) (hg : W.grownBy W' (some N.mm)) : FS w N G d U L nu nl lb line v es (ms ++ [x]) W' := by
  have hne : v.ownBlock ≠ some N.mm := fun e => by
    obtain ⟨es0, c0, hh⟩ := h.isMap
    rcases h.row.2 with ⟨rfl, _⟩ | ⟨g', cap, cur, rfl, _, hh2, _⟩
    · simp [Value.ownBlock] at e
    · simp [Value.ownBlock] at e
      subst e
      rw [hh] at hh2
      cases hh2
  have hno : N.ob ≠ N.mm := fun e => by
    obtain ⟨es0, c0, hh⟩ := h.isMap
    have := h.o
    unfold Bk at this
    rw [e, hh] at this
    cases this
  refine ⟨h.z.kept (.map_ hg) h.isMap, h.o.grown hg (by simpa using hno), only_own hg h.row hne, ⟨_, by rw [List.length_append, List.length_singleton]; exact hm, fun y => ?_⟩, h.bel.grown hg h.bel.size (fun q hq => by simp only [Option.some.injEq] at hq; have := h.hmm; omega), h.hob, h.hmm⟩
  by_cases e : y = x
  · subst e
    rw [updV_same]
    simp
  · rw [updV_other _ _ (fun e2 => e (EP.val_inj e2)), hM y]
    simp [e]
theorem FS.grow (h : FS w N G d U L nu nl lb line v es ms W) (hr : PEL W' w.heap.size v' es') (hg : W.grownBy W' v.ownBlock) : FS w N G d U L nu nl lb line v' es' ms (W'.setCell ⟨N.ob, 0, none⟩ v') := by
  have hno : N.mm ≠ N.ob := fun e => by
    obtain ⟨es0, c0, hh⟩ := h.isMap
    have := h.o
    unfold Bk at this
    rw [← e, hh] at this
    cases this
  have o1 := h.o.grown hg (bk_not h.row h.o (by decide))
  have k1 : KeepF N.mm W W' := .row h.row hg
  have z1 := h.z.kept k1 h.isMap
  have hne : some N.mm ≠ v.ownBlock := fun e => by
    obtain ⟨es0, c0, hh⟩ := h.isMap
    rcases h.row.2 with ⟨rfl, _⟩ | ⟨g', cap, cur, rfl, _, hh2, _⟩
    · simp [Value.ownBlock] at e
    · simp [Value.ownBlock] at e
      subst e
      rw [hh] at hh2
      cases hh2
  obtain ⟨M, m1, m2⟩ := h.mm
  have m3 := m1.grown hg hne
  refine ⟨z1.kept (.box o1 0 v') m3.isMap, ?_, own_other hr (fun e => bk_not hr o1 (by decide) e.symm) _, ⟨M, m3.setCell (a := ⟨N.ob, 0, none⟩) hno _, m2⟩, (h.bel.grown hg h.bel.size (fun q hq => (World.ownsRow.lt h.row q hq).1)).setCell (p := ⟨N.ob, 0, none⟩) h.hob _, h.hob, h.hmm⟩
  have := o1.store 0 v'
  simpa using this
end

set_option maxHeartbeats 400000 in
/-- kind. -/
theorem kind_any (b : Bool) (ib : Nat) (W : World) (hb : Bk W ib 4 #[.bool true]) :
    Calls Tryz.prog 53 #[.bool b, .pointer (some ⟨ib, 0, none⟩)] W fun e w' => e = .returned (.int .i64 (if b = true then 1 else 0)) ∧ W = w' := by
  have d0 : W.cell? ⟨ib, 0, none⟩ = some (.bool true) := hb.cell 0
  cases b
  all_goals
    go_enter Tryz.func53, Tryz.ntmps53
    go_wp2
    go_ret
    exact ⟨rfl, rfl⟩
set_option maxHeartbeats 400000 in
/-- counts. -/
theorem counts_any (p q d : Int) (db ib : Nat) (W : World) (hd : Bk W db 2 #[.int .i64 d]) (hb : Bk W ib 4 #[.bool true]) (hp : -1000 ≤ p ∧ p ≤ 1000) (hq : -1000 ≤ q ∧ q ≤ 1000) :
    Calls Tryz.prog 54 #[.int .i64 p, .int .i64 q, .pointer (some ⟨db, 0, none⟩), .pointer (some ⟨ib, 0, none⟩)] W fun e w' => e = .returned (.bool (decide (q - p < d))) ∧ W = w' := by
  have d0 : W.cell? ⟨ib, 0, none⟩ = some (.bool true) := hb.cell 0
  have d1 : W.cell? ⟨db, 0, none⟩ = some (.int .i64 d) := hd.cell 0
  have e1 := Go.IntWalk.i64_in (q - p) (by omega)
  by_cases h : q - p < d
  · rw [decide_eq_true h]
    go_enter Tryz.func54, Tryz.ntmps54
    go_wp2
    go_ret
    exact ⟨ret_bool (by simp), rfl⟩
  · rw [decide_eq_false h]
    go_enter Tryz.func54, Tryz.ntmps54
    go_wp2
    go_ret
    exact ⟨ret_bool (by simp), rfl⟩

end Go.Proofs.YtjiljodchebniaaGreat

namespace Go.Proofs.YtjiljodchebniaaGreat
open Go.Maps Go.RowKit

def smallE (e : Ed) : Prop := (-40 ≤ e.x0 ∧ e.x0 ≤ 40) ∧ (-40 ≤ e.y0 ∧ e.y0 ≤ 40) ∧ (-40 ≤ e.x1 ∧ e.x1 ≤ 40) ∧ (-40 ≤ e.y1 ∧ e.y1 ≤ 40)
theorem smallE_of {G : Gr} {e : Ed} (h : EdgeC G e) : smallE e := let ⟨a, b, c, d, _⟩ := edge_in h; ⟨a, b, c, d⟩
set_option maxHeartbeats 1600000 in
set_option maxRecDepth 100000 in
/-- add. -/
theorem add_any (w W : World) (N : FN) (G : Gr) (d : Int) (U L : Value → Value) (nu nl lb : Nat) (line : Int) (v : Value) (es : List EP) (x0 x1 x2 x3 x4 x5 x6 x7 xd : Int) (hxd : EP.d ⟨⟨x0, x1, x2, x3⟩, ⟨x4, x5, x6, x7⟩⟩ = xd)
    (hS : FS w N G d U L nu nl lb line v es es W) (h1 : smallE ⟨x0, x1, x2, x3⟩) (h2 : smallE ⟨x4, x5, x6, x7⟩) (h3 : -1000 ≤ xd ∧ xd ≤ 1000) (hlen : es.length ≤ 100000) :
    Calls Tryz.prog 52 #[.agg #[.int .i64 x0, .int .i64 x1, .int .i64 x2, .int .i64 x3], .agg #[.int .i64 x4, .int .i64 x5, .int .i64 x6, .int .i64 x7], .int .i64 xd, .pointer (some ⟨N.mb, 0, none⟩), .pointer (some ⟨N.ob, 0, none⟩)] W fun e w' => e = .returned (.tuple #[]) ∧ ∃ v', FS w N G d U L nu nl lb line v' (addP es ⟨⟨x0, x1, x2, x3⟩, ⟨x4, x5, x6, x7⟩⟩) (addP es ⟨⟨x0, x1, x2, x3⟩, ⟨x4, x5, x6, x7⟩⟩) w' := by
  obtain ⟨kl, hkl⟩ := key_ep x0 x1 x2 x3 x4 x5 x6 x7 xd (by
    unfold smallE at h1 h2
    dsimp only at h1 h2
    intro z hz
    simp only [List.mem_cons, List.not_mem_nil, or_false] at hz
    refine wf_small ?_
    omega)
  obtain ⟨X, hX⟩ : ∃ X : EP, X = ⟨⟨x0, x1, x2, x3⟩, ⟨x4, x5, x6, x7⟩⟩ := ⟨_, rfl⟩
  have hval : (.agg #[.int .i64 x0, .int .i64 x1, .int .i64 x2, .int .i64 x3, .int .i64 x4, .int .i64 x5, .int .i64 x6, .int .i64 x7, .int .i64 xd] : Value) = X.val := by rw [hX, ← hxd]; rfl
  obtain ⟨A, c, rfl, -, -, -⟩ := hS.row.form
  obtain ⟨M, hM1, hM2⟩ := hS.mm
  have hmlt := hM1.lt
  have HM := Lib.hid (show ∀ W', Below W.heap.size W W' → MapV Tryz.prog 50 (.bool false) W' N.mm es.length M from fun W' hW => hM1.on hW)
  have HS := Lib.hid (show ∀ W', Below W.heap.size W W' → FS w N G d U L nu nl lb line (.slice A es.length c) es es W' from fun W' hW => hS.on hW)
  have hMx : M (.agg #[.int .i64 x0, .int .i64 x1, .int .i64 x2, .int .i64 x3, .int .i64 x4, .int .i64 x5, .int .i64 x6, .int .i64 x7, .int .i64 xd]) = .bool (decide (X ∈ es)) := by rw [hval]; exact hM2 X
  have HM2 := Lib.hid hM2
  have HKL := Lib.hid hkl
  have HX := Lib.hid hX
  have HV := Lib.hid hval
  have HD := Lib.hid hxd
  rw [← hX]
  obtain ⟨K, HK⟩ : ∃ K, Hid (K = addP es X) := ⟨_, Lib.hid rfl⟩
  rw [← HK.out]
  have b1 := (Below.refl W.heap.size W).alloc (Nat.le_refl _) (.cells #[.int .i64 x0, .int .i64 x1, .int .i64 x2, .int .i64 x3] 48)
  have b2 := b1.alloc (by simp) (.cells #[.int .i64 x4, .int .i64 x5, .int .i64 x6, .int .i64 x7] 48)
  have b3 := b2.alloc (by simp; omega) (.cells #[.int .i64 x0, .int .i64 x1, .int .i64 x2, .int .i64 x3, .int .i64 x4, .int .i64 x5, .int .i64 x6, .int .i64 x7, .int .i64 xd] 50)
  obtain ⟨W3, hW3⟩ : ∃ W3, W3 = ((W.alloc (.cells #[.int .i64 x0, .int .i64 x1, .int .i64 x2, .int .i64 x3] 48)).alloc (.cells #[.int .i64 x4, .int .i64 x5, .int .i64 x6, .int .i64 x7] 48)).alloc (.cells #[.int .i64 x0, .int .i64 x1, .int .i64 x2, .int .i64 x3, .int .i64 x4, .int .i64 x5, .int .i64 x6, .int .i64 x7, .int .i64 xd] 50) := ⟨_, rfl⟩
  have kb := Bk.new ((W.alloc (.cells #[.int .i64 x0, .int .i64 x1, .int .i64 x2, .int .i64 x3] 48)).alloc (.cells #[.int .i64 x4, .int .i64 x5, .int .i64 x6, .int .i64 x7] 48)) 50 #[.int .i64 x0, .int .i64 x1, .int .i64 x2, .int .i64 x3, .int .i64 x4, .int .i64 x5, .int .i64 x6, .int .i64 x7, .int .i64 xd]
  rw [show ((W.alloc (.cells #[.int .i64 x0, .int .i64 x1, .int .i64 x2, .int .i64 x3] 48)).alloc (.cells #[.int .i64 x4, .int .i64 x5, .int .i64 x6, .int .i64 x7] 48)).heap.size = W.heap.size + 1 + 1 by simp] at kb
  rw [← hW3] at b3 kb
  have KB := Lib.hid kb
  have B3 := Lib.hid b3
  clear hM1 hM2 hkl hX hval hxd b1 b2 b3 hS kb h1 h2 h3
  go_enter Tryz.func52, Tryz.ntmps52
  go_upto_region 2 with fail
  rw [← hW3]
  have S3 := Lib.hid (HS.out W3 B3.out)
  have M3 := Lib.hid (HM.out W3 B3.out)
  have c0 : W3.cell? ⟨N.mb, 0, none⟩ = some (.map (some N.mm)) := S3.out.z.m.cell 0
  obtain ⟨p0, p1, p2, p3, p4, p5, p6, p7, p8⟩ := box9 KB.out
  clear hW3
  cases hin : decide (X ∈ es) with
  | true =>
    rw [hin] at hMx
    have Ha : Hid (K = es) := Lib.hid (by rw [HK.out]; unfold addP; rw [if_pos (of_decide_eq_true hin)])
    go_wp2_with (at_lookup; refine wpList_lookup_MV rfl _ _ 94 rfl 50 4 (.bool false) keyedEP Tryz.underlying94 (zeroBoolV _) N.mm _ M rfl M3.out _ kl rfl HKL.out _ hMx ?_)
    go_end0
    exact ⟨rfl, _, by rw [Ha.out]; exact S3.out⟩
  | false =>
    rw [hin] at hMx
    have Ha : Hid (K = es ++ [X]) := Lib.hid (by rw [HK.out]; unfold addP; rw [if_neg (of_decide_eq_false hin)])
    have hne : (W.heap.size + 1 + 1 : Nat) ≠ N.mm := by omega
    have hbound : es.length < maxLen := by unfold maxLen; omega
    have hl6 : es.length ≤ 1000000 := by omega
    go_wp2_with (first
      | (at_lookup; refine wpList_lookup_MV rfl _ _ 94 rfl 50 4 (.bool false) keyedEP Tryz.underlying94 (zeroBoolV _) N.mm _ M rfl M3.out _ kl rfl HKL.out _ hMx ?_)
      | (at_mapUpdate; refine wpList_mapUpdate_MV rfl _ _ _ 94 rfl 50 4 (.bool false) keyedEP Tryz.underlying94 N.mm _ M rfl M3.out hbound _ (.bool true) kl rfl rfl HKL.out ?_; intro w1 hm1 hg1; have S4 := Lib.hid (S3.out.seen (x := X) HM2.out (by rw [← HV.out]; exact hm1) hg1); obtain ⟨q0, q1, q2, q3, q4, q5, q6, q7, q8⟩ := box9 (KB.out.grown hg1 (by simpa using hne)); have o0 : w1.cell? ⟨N.ob, 0, none⟩ = some (.slice A es.length c) := S4.out.o.cell 0; have hs1 := S4.out.bel.size; clear hm1 hg1)
      | (at_builtin; refine wpList_append_PE rfl (.tmp 19) (.tmp 21) rfl w.heap.size _ es rfl S4.out.row x0 x1 x2 x3 x4 x5 x6 x7 xd HD.out rfl hl6 hs1 ?_; intro v' w2 k1 k2 k3; rw [← HX.out] at k1; have S5 := Lib.hid (S4.out.grow k1 k2); have O2 := S4.out.o.grown k2 (bk_not S4.out.row S4.out.o (by decide)); have o2 : w2.cell? ⟨N.ob, 0, none⟩ = some (.slice A es.length c) := O2.cell 0; have f2 := O2.frozen; obtain ⟨A2, c2, rfl, -, -, -⟩ := k1.form; clear k1 k2 k3 O2))
    go_end0
    have h9 := S5.out
    rw [List.length_append, List.length_singleton] at h9
    rw [← Ha.out] at h9
    exact ⟨rfl, _, h9⟩

end Go.Proofs.YtjiljodchebniaaGreat
