/- Lists of edges in memory: contracts of the laws' helpers. Conditions: lists in memory. Contracts: what the law FnErrorEdges draws; w6HasEdge. Condition: a code of at most 4096 bytes; a list of edges in memory. A map that the call itself makes, read as a function from keys to values. Conditions: the map in memory. Plain law: sorted lists of edges whose equal neighbours are put together. No conditions. -/
import Derived.Test.YtjiljodchebniaaGreatQ08
import Derived.Test.YtjiljodchebniaaGreatQ09
import Derived.Maps.OwnSet
import Derived.Test.YtjiljodchebniaaGreatQ02

namespace Go.Proofs.YtjiljodchebniaaGreat
open Go.RowKit

def eqEd (p q : Ed) : Bool := decide (p = q)
theorem eqEd_iff (p q : Ed) : eqEd p q = true ↔ p = q := by simp [eqEd]
theorem eqEd_no (p q : Ed) : eqEd p q = false ↔ p ≠ q := by simp [eqEd]
def Ed.vals (r : Ed) : List Value := [.int .i64 r.x0, .int .i64 r.y0, .int .i64 r.x1, .int .i64 r.y1]
def Ed.val (r : Ed) : Value := .agg #[.int .i64 r.x0, .int .i64 r.y0, .int .i64 r.x1, .int .i64 r.y1]
def flatE (rs : List Ed) : List Value := rs.flatMap Ed.vals
theorem flatE_length : ∀ rs : List Ed, (flatE rs).length = rs.length * 4
  | [] => rfl
  | r :: rs => by
    have := flatE_length rs
    have e : flatE (r :: rs) = r.vals ++ flatE rs := rfl
    have e4 : r.vals.length = 4 := rfl
    rw [e, List.length_append, this, e4, List.length_cons]
    omega
theorem flatE_append (a b : List Ed) : flatE (a ++ b) = flatE a ++ flatE b := by simp [flatE, List.flatMap_append]
theorem flatE_one (r : Ed) : flatE [r] = r.vals := by simp [flatE]
theorem flatE_get : ∀ (rs : List Ed) (k : Nat) (r : Ed), rs[k]? = some r →
    (flatE rs)[k * 4]? = some (.int .i64 r.x0) ∧ (flatE rs)[k * 4 + 1]? = some (.int .i64 r.y0) ∧ (flatE rs)[k * 4 + 2]? = some (.int .i64 r.x1) ∧ (flatE rs)[k * 4 + 3]? = some (.int .i64 r.y1)
  | [], k, r, h => by simp at h
  | q :: rs, 0, r, h => by
    simp only [List.getElem?_cons_zero, Option.some.injEq] at h
    subst h
    simp [flatE, Ed.vals]
  | q :: rs, k + 1, r, h => by
    have ih := flatE_get rs k r (by simpa using h)
    have e : flatE (q :: rs) = [Value.int .i64 q.x0, .int .i64 q.y0, .int .i64 q.x1, .int .i64 q.y1] ++ flatE rs := by simp [flatE, Ed.vals]
    rw [e, List.getElem?_append_right (by simp; omega), List.getElem?_append_right (by simp; omega), List.getElem?_append_right (by simp; omega), List.getElem?_append_right (by simp; omega)]
    have e0 : (k + 1) * 4 - [Value.int .i64 q.x0, .int .i64 q.y0, .int .i64 q.x1, .int .i64 q.y1].length = k * 4 := by simp; omega
    have e1 : (k + 1) * 4 + 1 - [Value.int .i64 q.x0, .int .i64 q.y0, .int .i64 q.x1, .int .i64 q.y1].length = k * 4 + 1 := by simp; omega
    have e2 : (k + 1) * 4 + 2 - [Value.int .i64 q.x0, .int .i64 q.y0, .int .i64 q.x1, .int .i64 q.y1].length = k * 4 + 2 := by simp; omega
    have e3 : (k + 1) * 4 + 3 - [Value.int .i64 q.x0, .int .i64 q.y0, .int .i64 q.x1, .int .i64 q.y1].length = k * 4 + 3 := by simp; omega
    rw [e0, e1, e2, e3]
    exact ih

theorem flatE_set : ∀ (rs : List Ed) (j : Nat) (a b c d : Int), j < rs.length →
    ((((flatE rs).set (j * 4) (.int .i64 a)).set (j * 4 + 1) (.int .i64 b)).set (j * 4 + 2) (.int .i64 c)).set (j * 4 + 3) (.int .i64 d) = flatE (rs.set j ⟨a, b, c, d⟩)
  | [], j, _, _, _, _, h => by simp at h
  | q :: rs, 0, a, b, c, d, _ => by simp [flatE, Ed.vals]
  | q :: rs, j + 1, a, b, c, d, h => by
    have ih := flatE_set rs j a b c d (by simpa using h)
    have e : ∀ l, flatE (q :: l) = Value.int .i64 q.x0 :: .int .i64 q.y0 :: .int .i64 q.x1 :: .int .i64 q.y1 :: flatE l := fun l => rfl
    have e1 : (j + 1) * 4 = j * 4 + 1 + 1 + 1 + 1 := by omega
    have e2 : (j + 1) * 4 + 1 = (j * 4 + 1) + 1 + 1 + 1 + 1 := by omega
    have e3 : (j + 1) * 4 + 2 = (j * 4 + 2) + 1 + 1 + 1 + 1 := by omega
    have e4 : (j + 1) * 4 + 3 = (j * 4 + 3) + 1 + 1 + 1 + 1 := by omega
    rw [List.set_cons_succ, e, e, e2, e3, e4, e1]
    simp only [List.set_cons_succ]
    rw [ih]

/-- The slice value v is the list rs of edges, in a row from block B on (B = 0: wherever). -/
def EL (w : World) (B : Nat) (v : Value) (rs : List Ed) : Prop := w.ownsRow B 48 4 v rs.length (flatE rs)

section
variable {w w' : World} {B B' : Nat} {v : Value} {rs : List Ed}
theorem EL.on (h : EL w B v rs) (hb : Below w.heap.size w w') : EL w' B v rs := own_on h hb
theorem EL.less (h : EL w B v rs) (hB : B' ≤ B) : EL w B' v rs := own_less h hB
theorem EL.nil (w : World) (B : Nat) : EL w B (.slice none 0 0) [] := World.ownsRow_nil w B _ _
theorem EL.form (h : EL w B v rs) : ∃ A cap, v = .slice A rs.length cap ∧ rs.length ≤ cap ∧ cap ≤ maxLen ∧
    (∀ (k : Nat) (r : Ed), rs[k]? = some r → ∃ g, A = some ⟨g, 0, none⟩ ∧ B ≤ g ∧ g < w.heap.size ∧ w.cell? ⟨g, k * 4, none⟩ = some (.int .i64 r.x0) ∧ w.cell? ⟨g, k * 4 + 1, none⟩ = some (.int .i64 r.y0) ∧
      w.cell? ⟨g, k * 4 + 2, none⟩ = some (.int .i64 r.x1) ∧ w.cell? ⟨g, k * 4 + 3, none⟩ = some (.int .i64 r.y1)) := by
  obtain ⟨A, cap, hv, h1, h2, h3⟩ := own_form h
  refine ⟨A, cap, hv, h1, h2, fun k r hk => ?_⟩
  have hlt : k < rs.length := (List.getElem?_eq_some_iff.1 hk).1
  obtain ⟨g, hA, hg, hgw, hc, _⟩ := h3 (by omega)
  obtain ⟨f0, f1, f2, f3⟩ := flatE_get rs k r hk
  exact ⟨g, hA, hg, hgw, hc _ _ f0, hc _ _ f1, hc _ _ f2, hc _ _ f3⟩
/-- The element k of a list, in memory. -/
theorem EL.elem {A : Option Addr} {n c : Nat} (h : EL w B (.slice A n c) rs) {k : Nat} (hk : k < rs.length) : ∃ g x0 y0 x1 y1, A = some ⟨g, 0, none⟩ ∧ rs[k]? = some ⟨x0, y0, x1, y1⟩ ∧ g < w.heap.size ∧
    w.cell? ⟨g, k * 4, none⟩ = some (.int .i64 x0) ∧ w.cell? ⟨g, k * 4 + 1, none⟩ = some (.int .i64 y0) ∧ w.cell? ⟨g, k * 4 + 2, none⟩ = some (.int .i64 x1) ∧ w.cell? ⟨g, k * 4 + 3, none⟩ = some (.int .i64 y1) := by
  obtain ⟨A', c', e, _, _, hf⟩ := h.form
  have hr : rs[k]? = some rs[k] := List.getElem?_eq_getElem hk
  obtain ⟨g, hA, _, hg, h0, h1, h2, h3⟩ := hf k _ hr
  simp only [Value.slice.injEq] at e
  exact ⟨g, rs[k].x0, rs[k].y0, rs[k].x1, rs[k].y1, e.1.trans hA, hr, hg, h0, h1, h2, h3⟩
end

/-- 'list[j] = r', field by field. -/
theorem EL.set4 {w : World} {B g n c : Nat} {rs : List Ed} (h : EL w B (.slice (some ⟨g, 0, none⟩) n c) rs) {j : Nat} (hj : j < rs.length) (x0 y0 x1 y1 : Int) :
    EL ((((w.setCell ⟨g, j * 4, none⟩ (.int .i64 x0)).setCell ⟨g, j * 4 + 1, none⟩ (.int .i64 y0)).setCell ⟨g, j * 4 + 2, none⟩ (.int .i64 x1)).setCell ⟨g, j * 4 + 3, none⟩ (.int .i64 y1)) B (.slice (some ⟨g, 0, none⟩) n c) (rs.set j ⟨x0, y0, x1, y1⟩) := by
  obtain ⟨A, c', e, _, _, _⟩ := h.form
  simp only [Value.slice.injEq] at e
  obtain ⟨_, rfl, _⟩ := e
  unfold EL at h ⊢
  rw [← flatE_set _ _ _ _ _ _ hj, List.length_set]
  exact (((h.stored _ _).1.stored _ _).1.stored _ _).1.stored _ _ |>.1
theorem EL.frozen {w : World} {B g n c : Nat} {rs : List Ed} (h : EL w B (.slice (some ⟨g, 0, none⟩) n c) rs) (j : Nat) : w.frozen? ⟨g, j, none⟩ = false := by
  obtain ⟨A, c', e, _, _, _⟩ := h.form
  simp only [Value.slice.injEq] at e
  obtain ⟨_, rfl, _⟩ := e
  exact World.ownsRow.frozenAt h j
theorem EL.base {w : World} {B g n c : Nat} {rs : List Ed} (h : EL w B (.slice (some ⟨g, 0, none⟩) n c) rs) : B ≤ g ∧ g < w.heap.size := h.lt g rfl

theorem infoEdge : (Tryz.prog.info? 48).map (fun i => (i.zero, i.size, i.bytes)) = some (some (.agg #[.int .i64 0, .int .i64 0, .int .i64 0, .int .i64 0]), 4, 32) := by kernel_rfl
/-- 'out = append(out, r)' on a list of edges of the call's own. -/
theorem wpList_append_E {w : World} {ops : Array Oper} {rest : List Oper} {o : Oper} {a : Act} {Q : Exit → Act → World → Prop} (hgd : o.guard = none) (s x : Operand)
    (ho : o.op = .call { callee := .builtin .append, args := #[s, x], argTypes := #[41, 41] })
    (B : Nat) (v : Value) (rs : List Ed) (hs : a.eval s = v) (hown : EL w B v rs) (x0 y0 x1 y1 : Int) (hx : a.eval x = .slice (some ⟨w.heap.size, 0, none⟩) 1 1)
    (hlen : rs.length ≤ 1000000) (hB : B ≤ w.heap.size)
    (h : ∀ v' w', EL w' B v' (rs ++ [⟨x0, y0, x1, y1⟩]) → w.grownBy w' v.ownBlock → Below B w w' → wpList Tryz.prog ops Q rest (a.put o.dst v') w') :
    wpList Tryz.prog ops Q (o :: rest) a (w.alloc (.cells #[.int .i64 x0, .int .i64 y0, .int .i64 x1, .int .i64 y1] 48)) := by
  obtain ⟨i, hi, hz, hsz, hby⟩ := info_parts infoEdge
  refine wpList_append_own _ hgd s x 41 ho B 48 i _ 4 32 Tryz.underlying41 hi hz hsz hby rfl (by decide) v rs.length (flatE rs) hs (World.ownsRow.alloc hown _) ⟨w.heap.size, 0, none⟩ 1 1
    [.int .i64 x0, .int .i64 y0, .int .i64 x1, .int .i64 y1] hx rfl ?_ ?_ (by simp only [maxLen]; omega) (by omega) (by simp; omega) ?_
  · intro j u hu
    rw [Addr.add_lit, World.cell?_alloc_new]
    simpa using hu
  · intro u hu
    simp at hu
    rcases hu with rfl | rfl | rfl | rfl <;> rfl
  · intro v' w' h1 h2 _
    have h3 := grown_of_alloc h2
    refine h v' w' ?_ h3 (below_own hown h3 hB)
    unfold EL
    rw [flatE_append, flatE_one, List.length_append]
    exact h1

theorem run_equal_E (a b c d a' b' c' d' : Int) (w : World) :
    (Op.equalIn 10000 48 (.agg #[.int .i64 a, .int .i64 b, .int .i64 c, .int .i64 d]) (.agg #[.int .i64 a', .int .i64 b', .int .i64 c', .int .i64 d'])).run Tryz.prog w = .ok (eqEd ⟨a, b, c, d⟩ ⟨a', b', c', d'⟩) w := by
  by_cases h0 : a = a'
  · by_cases h1 : b = b'
    · by_cases h2 : c = c'
      · by_cases h3 : d = d'
        · simp [go_sem, eqEd, h0, h1, h2, h3]
        · simp [go_sem, eqEd, h0, h1, h2, h3]
      · simp [go_sem, eqEd, h0, h1, h2]
    · simp [go_sem, eqEd, h0, h1]
  · simp [go_sem, eqEd, h0]

@[go_sem high] theorem run_neq_E (a b c d a' b' c' d' : Int) (w : World) :
    (binOp .neq 48 (.agg #[.int .i64 a, .int .i64 b, .int .i64 c, .int .i64 d]) (.agg #[.int .i64 a', .int .i64 b', .int .i64 c', .int .i64 d'])).run Tryz.prog w = .ok (.bool (!eqEd ⟨a, b, c, d⟩ ⟨a', b', c', d'⟩)) w := by
  rw [run_neq_struct, run_equal_E]
  rfl
@[go_sem high] theorem run_eql_E (a b c d a' b' c' d' : Int) (w : World) :
    (binOp .eql 48 (.agg #[.int .i64 a, .int .i64 b, .int .i64 c, .int .i64 d]) (.agg #[.int .i64 a', .int .i64 b', .int .i64 c', .int .i64 d'])).run Tryz.prog w = .ok (.bool (eqEd ⟨a, b, c, d⟩ ⟨a', b', c', d'⟩)) w := by
  rw [run_eql_struct, run_equal_E]
  rfl

/-- The emark of the element i. -/
def emark (k : Int) (i : Nat) : Ed := ⟨k + 4 * i, k + 4 * i + 1, k + 4 * i + 2, k + 4 * i + 3⟩
def emarks (k : Int) (n : Nat) : List Ed := (List.range n).map (emark k)
theorem emarks_length (k : Int) (n : Nat) : (emarks k n).length = n := by simp [emarks]
theorem emarks_get (k : Int) (n i : Nat) (h : i < n) : (emarks k n)[i]? = some (emark k i) := by simp [emarks, h]
/-- The first j elements are marked. -/
def emixed (k : Int) (rs : List Ed) (j : Nat) : List Ed := emarks k j ++ rs.drop j
theorem emixed_length (k : Int) (rs : List Ed) (j : Nat) (h : j ≤ rs.length) : (emixed k rs j).length = rs.length := by
  simp only [emixed, List.length_append, emarks_length, List.length_drop]; omega
theorem emixed_step (k : Int) (rs : List Ed) (j : Nat) (h : j < rs.length) : (emixed k rs j).set j (emark k j) = emixed k rs (j + 1) := by
  have e : rs.drop j = rs[j] :: rs.drop (j + 1) := List.drop_eq_getElem_cons h
  have e2 : emarks k (j + 1) = emarks k j ++ [emark k j] := by simp [emarks, List.range_succ]
  unfold emixed
  rw [List.set_append_right _ _ (by rw [emarks_length]; exact Nat.le_refl _), emarks_length, Nat.sub_self, e, List.set_cons_zero, e2, List.append_assoc]
  rfl
theorem emixed_end (k : Int) (rs : List Ed) : emixed k rs rs.length = emarks k rs.length := by simp [emixed]

end Go.Proofs.YtjiljodchebniaaGreat

namespace Go.Proofs.YtjiljodchebniaaGreat
open Go.RowKit

set_option maxHeartbeats 1600000 in
set_option maxRecDepth 100000 in
/-- DrawFacingEdges. -/
theorem drawFE_any (A : Option Addr) (n c : Nat) (w : World) (hA : ArgB w A n) (hn : n ≤ 4096) : Calls Tryz.prog 5 #[.slice A n c] w fun e w' => ∃ (v : Value) (rs : List Rc) (d : Int) (b : Bool), e = .returned (.tuple #[v, .int .i64 d, .bool b]) ∧ RL w' w.heap.size v rs ∧ rs.length ≤ 7001 ∧ (0 ≤ d ∧ d ≤ 100) ∧ Below w.heap.size w w' := by
  go_enter Tryz.func5, Tryz.ntmps5
  go_wp2_with fail
  refine (from_any A n c _ hA hn).mono ?_
  rintro e w1 ⟨g, rfl, hg, hD, hb1⟩
  have hgl := hD.lt
  go_wp2_with fail
  refine (drawRegion3_any g _ hD).mono ?_
  rintro e w2 ⟨v, rs, rfl, hR, hl, hD2, hG2⟩
  have hb2 := hb1.trans (grown_below hG2 (fun q hq => by simp at hq; omega) hb1.size)
  clear hD hb1
  go_wp2_with fail
  refine (spoilL_any g v rs _ hD2 (hR.less (by omega)) hl 16 (by omega)).mono ?_
  rintro e w3 ⟨u, qs, rfl, hR3, hl3, hD3, hG3⟩
  have hb3 := hb2.trans (grown_below hG3 (fun q hq => by simp at hq; omega) hb2.size)
  clear hD2 hb2 hR hG2 hG3
  go_wp2_with fail
  refine (next_any g 6 _ hD3 (by omega)).mono ?_
  rintro e w4 ⟨k4, rfl, hk4, hD4, hG4⟩
  have hR4 := hR3.keptG hG4 (Nat.lt_succ_self g)
  have hb4 := hb3.trans (grown_below hG4 (fun q hq => by simp at hq; omega) hb3.size)
  have e4 := Go.IntWalk.i64_in (k4 + 1) (by omega)
  clear hD3 hR3 hb3 hG4
  go_wp2_with fail
  refine (next_any g 14 _ hD4 (by omega)).mono ?_
  rintro e w5 ⟨k5, rfl, hk5, hD5, hG5⟩
  have hR5 := hR4.keptG hG5 (Nat.lt_succ_self g)
  have hb5 := hb4.trans (grown_below hG5 (fun q hq => by simp at hq; omega) hb4.size)
  clear hD4 hR4 hb4 hG5
  by_cases h0 : k5 = 0
  · subst h0
    go_wp2_with fail
    refine (next_any g 2 _ hD5 (by omega)).mono ?_
    rintro e w6 ⟨k6, rfl, hk6, hD6, hG6⟩
    have hR6 := hR5.keptG hG6 (Nat.lt_succ_self g)
    have hb6 := hb5.trans (grown_below hG6 (fun q hq => by simp at hq; omega) hb5.size)
    have e6 := Go.IntWalk.i64_in (80 + k6) (by omega)
    clear hD5 hR5 hb5 hG6
    go_wp2_with fail
    refine (next_any g 2 _ hD6 (by omega)).mono ?_
    rintro e w7 ⟨k7, rfl, hk7, hD7, hG7⟩
    have hR7 := hR6.keptG hG7 (Nat.lt_succ_self g)
    have hb7 := hb6.trans (grown_below hG7 (fun q hq => by simp at hq; omega) hb6.size)
    go_wp2
    refine bodyPost_ret (results_tmp3 rfl _ _ _) rfl ?_
    exact ⟨_, _, _, _, rfl, hR7.less (by omega), hl3, by omega, hb7⟩
  · have b0 : (k5 == 0) = false := by simpa using h0
    go_wp2_with fail
    refine (next_any g 2 _ hD5 (by omega)).mono ?_
    rintro e w7 ⟨k7, rfl, hk7, hD7, hG7⟩
    have hR7 := hR5.keptG hG7 (Nat.lt_succ_self g)
    have hb7 := hb5.trans (grown_below hG7 (fun q hq => by simp at hq; omega) hb5.size)
    go_wp2
    refine bodyPost_ret (results_tmp3 rfl _ _ _) rfl ?_
    exact ⟨_, _, _, _, rfl, hR7.less (by omega), hl3, by omega, hb7⟩

/-- Is the edge in the list? -/
def hasEd (l : List Ed) (e : Ed) : Bool := decide (e ∈ l)
set_option maxHeartbeats 1600000 in
set_option maxRecDepth 100000 in
/-- w6HasEdge. -/
theorem hasEd_any (v : Value) (es : List Ed) (x0 x1 x2 x3 : Int) (w : World) (hv : EL w 0 v es) :
    Calls Tryz.prog 12 #[v, .agg #[.int .i64 x0, .int .i64 x1, .int .i64 x2, .int .i64 x3]] w fun e w' => e = .returned (.bool (hasEd es ⟨x0, x1, x2, x3⟩)) ∧ Below w.heap.size w w' := by
  obtain ⟨A, c, rfl, hc, hm, -⟩ := hv.form
  unfold maxLen at hm
  have z0 := Bk.new w 48 #[.int .i64 x0, .int .i64 x1, .int .i64 x2, .int .i64 x3]
  have b0 := (Below.refl w.heap.size w).alloc (Nat.le_refl _) (.cells #[.int .i64 x0, .int .i64 x1, .int .i64 x2, .int .i64 x3] 48)
  obtain ⟨W0, hW0⟩ : ∃ W, W = w.alloc (.cells #[.int .i64 x0, .int .i64 x1, .int .i64 x2, .int .i64 x3] 48) := ⟨_, rfl⟩
  rw [← hW0] at z0 b0
  have HV := Lib.hid (show ∀ W, Below W0.heap.size W0 W → EL W 0 (.slice A es.length c) es ∧ Bk W w.heap.size 48 #[.int .i64 x0, .int .i64 x1, .int .i64 x2, .int .i64 x3] from fun W hW => ⟨(hv.on b0).on hW, z0.on hW⟩)
  have HB0 := Lib.hid b0
  clear hv z0 b0
  go_enter Tryz.func12, Tryz.ntmps12
  go_wp2
  rw [← hW0]
  clear hW0
  go_loopw [5] (fun iv wr => ∃ i : Nat, i ≤ es.length ∧ iv = .int .i64 i ∧ Hid (∀ j a, j < i → es[j]? = some a → a ≠ ⟨x0, x1, x2, x3⟩) ∧ Below W0.heap.size W0 wr) (fun iv _ => es.length - (intOf iv).toNat)
  case atStart => exact ⟨0, by omega, rfl, Lib.hid (fun j a h => by omega), Below.refl _ _⟩
  case round =>
    obtain ⟨i, hi, rfl, HI, hb⟩ := hrel
    have hs0 := HB0.out.size
    by_cases hlt : i < es.length
    · obtain ⟨hE, hK⟩ := HV.out _ hb
      obtain ⟨g, u0, u1, u2, u3, rfl, hr, hg, c0, c1, c2, c3⟩ := hE.elem hlt
      obtain ⟨d0, d1, d2, d3⟩ := box4 hK
      have Hr := Lib.hid hr
      clear hE hK hr
      cases hq : eqEd ⟨u0, u1, u2, u3⟩ ⟨x0, x1, x2, x3⟩ with
      | true =>
        have hh : hasEd es ⟨x0, x1, x2, x3⟩ = true := by
          unfold hasEd
          rw [← (eqEd_iff _ _).1 hq]
          exact decide_eq_true (List.mem_of_getElem? Hr.out)
        have HH := Lib.hid hh
        clear hh
        go_wp2
        go_quiet (fail)
        go_wp2
        go_ret
        exact ⟨ret_bool HH.out.symm, HB0.out.trans ((below_drewN hb nq).mono hs0)⟩
      | false =>
        have hne := (eqEd_no _ _).1 hq
        go_wp2
        go_quiet (fail)
        go_wp2
        exact ⟨⟨i + 1, by omega, by go_num, Lib.hid (fun j a hj ha => by
          by_cases hji : j = i
          · subst hji
            rw [Hr.out] at ha
            rw [← Option.some.inj ha]
            exact hne
          · exact HI.out j a (by omega) ha), below_drewN hb nq⟩, by simp [intOf]; omega⟩
    · have hh : hasEd es ⟨x0, x1, x2, x3⟩ = false := by
        unfold hasEd
        refine decide_eq_false fun hm2 => ?_
        obtain ⟨j, hj, he⟩ := List.mem_iff_getElem.1 hm2
        exact HI.out j _ (by omega) (List.getElem?_eq_getElem hj) he
      have HH := Lib.hid hh
      clear hh
      go_wp2
      go_ret
      exact ⟨ret_bool HH.out.symm, HB0.out.trans (hb.mono hs0)⟩

end Go.Proofs.YtjiljodchebniaaGreat

namespace Go.Proofs.YtjiljodchebniaaGreat
open Go.Maps Go.RowKit

/-- Each value is read as itself. -/
def heldV (v : Value) : Option (DataW Value × List MemPlace) := some (.held v, [])
/-- The block b holds a map of at most n entries that gives f, and z where nothing was put. -/
def MapV (P : Program) (k : TypeId) (z : Value) (w : World) (b n : Nat) (f : Value → Value) : Prop :=
  ∃ D : DataW Value, w.ownsMap P k heldV b n D ∧ ∀ key kl, keyOf P k key = some kl → D.atKey kl (.held z) = .held (f key)
open Classical in
noncomputable def updV (f : Value → Value) (key val : Value) : Value → Value := fun x => if x = key then val else f x
theorem updV_same (f : Value → Value) (key val : Value) : updV f key val key = val := by unfold updV; rw [if_pos rfl]
theorem updV_other (f : Value → Value) {key x : Value} (val : Value) (h : x ≠ key) : updV f key val x = f x := by unfold updV; rw [if_neg h]

section
variable {P : Program} {k : TypeId} {z : Value} {w w' : World} {b n : Nat} {f : Value → Value}
theorem MapV.made (P : Program) (k : TypeId) (z : Value) (w : World) : MapV P k z (w.alloc (.map #[] 0)) w.heap.size 0 (fun _ => z) :=
  ⟨.map [], World.ownsMap_made w P k heldV, fun key kl h => by simp [DataW.atKey]⟩
theorem MapV.lt (h : MapV P k z w b n f) : b < w.heap.size := by
  obtain ⟨D, h1, -⟩ := h
  exact h1.lt
theorem MapV.on (h : MapV P k z w b n f) (hb : Below w.heap.size w w') : MapV P k z w' b n f := by
  have hlt := h.lt
  obtain ⟨D, ⟨es, clock, hh, r⟩, h2⟩ := h
  exact ⟨D, ⟨es, clock, by rw [hb.block b hlt]; exact hh, r⟩, h2⟩
theorem MapV.grown (h : MapV P k z w b n f) {row : Option Nat} (hg : w.grownBy w' row) (hne : some b ≠ row) : MapV P k z w' b n f := by
  obtain ⟨D, h1, h2⟩ := h
  exact ⟨D, h1.kept hg hne, h2⟩
theorem MapV.setCell (h : MapV P k z w b n f) {a : Addr} (ha : b ≠ a.block) (u : Value) : MapV P k z (w.setCell a u) b n f := by
  obtain ⟨D, h1, h2⟩ := h
  exact ⟨D, h1.setCell ha u, h2⟩
theorem MapV.alloc (h : MapV P k z w b n f) (o : Obj) : MapV P k z (w.alloc o) b n f := by
  obtain ⟨D, h1, h2⟩ := h
  exact ⟨D, h1.alloc o, h2⟩
theorem MapV.drew (h : MapV P k z w b n f) : MapV P k z w.drew b n f := by
  obtain ⟨D, h1, h2⟩ := h
  exact ⟨D, h1.drew, h2⟩
theorem MapV.more (h : MapV P k z w b n f) {m : Nat} (hm : n ≤ m) : MapV P k z w b m f := by
  obtain ⟨D, h1, h2⟩ := h
  exact ⟨D, h1.mono hm, h2⟩
theorem MapV.look {t e : TypeId} (h : MapV P k z w b n f) (K : Keyed P k) (ht : P.underlying t = some (.map k e)) (hz : (zeroValue e).run P w = .ok z w) {key : Value} {kl : Lit} (hkey : keyOf P k key = some kl) :
    (Instr.lookup t (.map (some b)) key false).run P w = .ok (f key) w := by
  obtain ⟨D, h1, h2⟩ := h
  obtain ⟨v, ps, hr, hv⟩ := h1.lookup K ht hz (zd := .held z) (zp := []) rfl hkey
  have h3 := h2 key kl hkey
  unfold heldV at hv
  simp only [Option.some.injEq, Prod.mk.injEq] at hv
  have h4 := hv.1.trans h3
  rw [DataW.held.injEq] at h4
  rw [hr, h4]
theorem MapV.store {t e : TypeId} (h : MapV P k z w b n f) (K : Keyed P k) (ht : P.underlying t = some (.map k e)) (hn : n < maxLen) {key : Value} (val : Value) {kl : Lit} (hkey : keyOf P k key = some kl) :
    ∃ w', (Instr.mapUpdate t (.map (some b)) key val).run P w = .ok () w' ∧ MapV P k z w' b (n + 1) (updV f key val) ∧ w.grownBy w' (some b) := by
  obtain ⟨D, h1, h2⟩ := h
  obtain ⟨w', hr, h3, h4⟩ := h1.update K ht hn (val := val) (d := .held val) (ps := []) hkey rfl
  refine ⟨w', hr, ⟨_, h3, fun key' kl' hk' => ?_⟩, h4⟩
  by_cases e : key' = key
  · subst e
    rw [hkey] at hk'
    cases hk'
    rw [updV_same, Maps.atKey_put_same h1.isMap (K.key hkey)]
  · rw [updV_other _ _ e, Maps.atKey_put_other, h2 key' kl' hk']
    rintro rfl
    exact e (K.inj hk' hkey)
theorem wpList_lookup_MV {ops : Array Oper} {rest : List Oper} {o : Oper} {a : Act} {Q : Exit → Act → World → Prop}
    (hg : o.guard = none) (m x : Operand) (t : TypeId) (hop : o.op = Op.lookup t m x false)
    (k e : TypeId) (z : Value) (K : Keyed P k) (ht : P.underlying t = some (.map k e)) (hz : (zeroValue e).run P w = .ok z w) (b n : Nat) (f : Value → Value)
    (hm : a.eval m = .map (some b)) (hown : MapV P k z w b n f) (key : Value) (kl : Lit) (hx : a.eval x = key) (hkey : keyOf P k key = some kl) (r : Value) (hr : f key = r)
    (hK : wpList P ops Q rest (a.put o.dst r) w) :
    wpList P ops Q (o :: rest) a w := by
  subst hr
  refine wpList_plain hg fun K' hK' => ?_
  have hrun := hown.look K ht hz hkey
  unfold Oper.wp
  simp [execOp, hop, hm, hx, hrun, Result.andThen]
  exact hK' _ _ hK
theorem wpList_mapUpdate_MV {ops : Array Oper} {rest : List Oper} {o : Oper} {a : Act} {Q : Exit → Act → World → Prop}
    (hg : o.guard = none) (m x v : Operand) (t : TypeId) (hop : o.op = Op.mapUpdate t m x v)
    (k e : TypeId) (z : Value) (K : Keyed P k) (ht : P.underlying t = some (.map k e)) (b n : Nat) (f : Value → Value)
    (hm : a.eval m = .map (some b)) (hown : MapV P k z w b n f) (hn : n < maxLen) (key val : Value) (kl : Lit) (hx : a.eval x = key) (hv : a.eval v = val) (hkey : keyOf P k key = some kl)
    (hK : ∀ w', MapV P k z w' b (n + 1) (updV f key val) → w.grownBy w' (some b) → wpList P ops Q rest (a.put o.dst undef) w') :
    wpList P ops Q (o :: rest) a w := by
  refine wpList_plain hg fun K' hK' => ?_
  obtain ⟨w', hrun, r1, r2⟩ := hown.store K ht hn val hkey
  unfold Oper.wp
  simp [execOp, hop, hm, hx, hv, hrun, Result.andThen]
  exact hK' _ _ (hK w' r1 r2)
end

end Go.Proofs.YtjiljodchebniaaGreat

namespace Go.Proofs.YtjiljodchebniaaGreat

/-- The first n elements, equal neighbours once. -/
def sqTo (l : List Ed) : Nat → List Ed
  | 0 => []
  | n + 1 => match l[n]? with
    | none => sqTo l n
    | some x => if 0 < n ∧ l[n - 1]? = some x then sqTo l n else sqTo l n ++ [x]
theorem sqTo_some {l : List Ed} {n : Nat} {x : Ed} (h : l[n]? = some x) : sqTo l (n + 1) = if 0 < n ∧ l[n - 1]? = some x then sqTo l n else sqTo l n ++ [x] := by
  rw [sqTo, h]
theorem sqTo_mem (l : List Ed) : ∀ (n : Nat) (e : Ed), e ∈ sqTo l n ↔ e ∈ l.take n
  | 0, e => by simp [sqTo]
  | n + 1, e => by
    have ih := sqTo_mem l n e
    cases h : l[n]? with
    | none =>
      rw [sqTo, h, List.take_add_one, h]
      simpa using ih
    | some x =>
      rw [sqTo_some h, List.take_add_one, h, Option.toList_some, List.mem_append, List.mem_singleton]
      split
      · rename_i hd
        rw [ih]
        constructor
        · exact .inl
        · rintro (h1 | rfl)
          · exact h1
          · rw [List.mem_take_iff_getElem]
            obtain ⟨hl, he⟩ := List.getElem?_eq_some_iff.1 hd.2
            exact ⟨n - 1, by omega, he⟩
      · rw [List.mem_append, ih, List.mem_singleton]
theorem sqTo_len (l : List Ed) : ∀ n, (sqTo l n).length ≤ n
  | 0 => by simp [sqTo]
  | n + 1 => by
    have ih := sqTo_len l n
    cases h : l[n]? with
    | none => rw [sqTo, h]; dsimp only; omega
    | some x =>
      rw [sqTo_some h]
      split
      · omega
      · rw [List.length_append, List.length_singleton]; omega
theorem sqTo_sorted (l : List Ed) (hs : l.Pairwise fun a b => edLt b a = false) : ∀ n, EdS (sqTo l n)
  | 0 => List.Pairwise.nil
  | n + 1 => by
    have ih := sqTo_sorted l hs n
    cases h : l[n]? with
    | none => rw [sqTo, h]; exact ih
    | some x =>
      rw [sqTo_some h]
      split
      · exact ih
      · rename_i hd
        refine List.pairwise_append.2 ⟨ih, List.pairwise_singleton _ _, fun a ha b hb => ?_⟩
        rw [List.mem_singleton] at hb
        subst hb
        obtain ⟨j, hj, rfl⟩ := List.mem_take_iff_getElem.1 ((sqTo_mem l n a).1 ha)
        obtain ⟨hn, hx⟩ := List.getElem?_eq_some_iff.1 h
        have hjn : j < n := by omega
        have hp := List.pairwise_iff_getElem.1 hs
        have hy : l[n - 1]'(by omega) ≠ b := fun e => hd ⟨by omega, by rw [List.getElem?_eq_getElem (by omega), e]⟩
        have h1 := hp (n - 1) n (by omega) hn (by omega)
        rw [hx] at h1
        have h2 : edLt (l[n - 1]'(by omega)) b = true := (edLt_or h1).elim (fun e => absurd e.symm hy) id
        by_cases hj2 : j = n - 1
        · subst hj2; exact h2
        · have h3 := hp j (n - 1) (by omega) (by omega) (by omega)
          rcases edLt_or h3 with e | h4
          · rw [← e]; exact h2
          · exact edLt_trans h4 h2
/-- No two neighbours are equal: all stays. -/
theorem sqTo_all {l : List Ed} : ∀ {n : Nat}, n ≤ l.length → (∀ i, 0 < i → i < n → l[i]? ≠ l[i - 1]?) → sqTo l n = l.take n
  | 0, _, _ => by simp [sqTo]
  | n + 1, hn, h => by
    have hx : l[n]? = some l[n] := List.getElem?_eq_getElem (by omega)
    rw [sqTo_some hx, if_neg, sqTo_all (by omega) fun i h0 h1 => h i h0 (by omega), List.take_add_one, hx]
    · rfl
    · rintro ⟨h0, h1⟩
      exact h n h0 (by omega) (hx.trans h1.symm)
def sqz (l : List Ed) : List Ed := sqTo l l.length
theorem sqz_mem (l : List Ed) (e : Ed) : e ∈ sqz l ↔ e ∈ l := by
  unfold sqz
  rw [sqTo_mem, List.take_length]
/-- What the program makes of the edges that lie beside a marker. -/
def srtE (l : List Ed) : List Ed := l.mergeSort fun x y => !edLt y x
theorem srtE_mem (l : List Ed) (e : Ed) : e ∈ srtE l ↔ e ∈ l := List.mem_mergeSort
theorem srtE_len (l : List Ed) : (srtE l).length = l.length := List.length_mergeSort _
theorem srtE_sorted (l : List Ed) : (srtE l).Pairwise fun a b => edLt b a = false := by
  have h := List.pairwise_mergeSort (le := fun x y => !edLt y x) (fun a b c h1 h2 => by
    simp only [Bool.not_eq_true'] at h1 h2 ⊢
    cases hca : edLt c a with
    | false => rfl
    | true =>
      rcases edLt_or h1 with rfl | h3
      · rw [h2] at hca; cases hca
      · have := edLt_trans hca h3
        rw [h2] at this; cases this) (fun a b => by
    cases h : edLt b a with
    | false => simp
    | true =>
      cases h2 : edLt a b with
      | false => simp
      | true =>
        have := edLt_trans h h2
        rw [edLt_irr] at this
        cases this) l
  exact h.imp fun h => by simpa using h
/-- The edges beside a marker. -/
noncomputable def besB (M : Gr) (e : Ed) : Bool := @decide (TouchC M e) (Classical.propDecidable _)
theorem besB_iff (M : Gr) (e : Ed) : besB M e = true ↔ TouchC M e := by unfold besB; exact @decide_eq_true_iff _ (Classical.propDecidable _)
/-- A list of edges put into a sorted list, those beside the marker. -/
noncomputable def putAllE (M : Gr) (out : List Ed) (l : List Ed) : List Ed := l.foldl (fun o e => if besB M e = true then putE o e else o) out
theorem putAllE_mem (M : Gr) : ∀ (l out : List Ed) (e : Ed), e ∈ putAllE M out l ↔ e ∈ out ∨ (e ∈ l ∧ besB M e = true)
  | [], out, e => by simp [putAllE]
  | x :: l, out, e => by
    unfold putAllE
    rw [List.foldl_cons]
    have ih := putAllE_mem M l (if besB M x = true then putE out x else out) e
    unfold putAllE at ih
    rw [ih]
    split
    · rename_i hx
      rw [putE_mem, List.mem_cons]
      constructor
      · rintro ((rfl | h) | ⟨h, h2⟩)
        · exact .inr ⟨.inl rfl, hx⟩
        · exact .inl h
        · exact .inr ⟨.inr h, h2⟩
      · rintro (h | ⟨rfl | h, h2⟩)
        · exact .inl (.inr h)
        · exact .inl (.inl rfl)
        · exact .inr ⟨h, h2⟩
    · rename_i hx
      rw [List.mem_cons]
      constructor
      · rintro (h | ⟨h, h2⟩)
        · exact .inl h
        · exact .inr ⟨.inr h, h2⟩
      · rintro (h | ⟨rfl | h, h2⟩)
        · exact .inl h
        · exact absurd h2 hx
        · exact .inr ⟨h, h2⟩
theorem putAllE_sorted (M : Gr) : ∀ (l : List Ed) {out : List Ed}, EdS out → EdS (putAllE M out l)
  | [], _, h => h
  | x :: l, out, h => by
    unfold putAllE
    rw [List.foldl_cons]
    have := putAllE_sorted M l (out := if besB M x = true then putE out x else out) (by
      split
      · exact putE_sorted x h
      · exact h)
    unfold putAllE at this
    exact this
/-- L is the list of the edges of G. -/
def EdgesOf (G : Gr) (L : List Ed) : Prop := ∀ e, e ∈ L ↔ EdgeC G e
/-- THE PLAIN LAW OF ViolationEdges. -/
theorem edges_same {M G : Gr} {L K : List Ed} (hL : EdgesOf G L) (hK : EdgesOf G K) : sqz (srtE (L.filter (besB M))) = putAllE M [] K := by
  refine eds_one (sqTo_sorted _ (srtE_sorted _) _) (putAllE_sorted M K List.Pairwise.nil) fun e => ?_
  rw [sqz_mem, srtE_mem, List.mem_filter, putAllE_mem, hL e, hK e]
  simp
theorem edges_same2 {M G H : Gr} {L K L2 K2 : List Ed} (hL : EdgesOf G L) (hK : EdgesOf G K) (hL2 : EdgesOf H L2) (hK2 : EdgesOf H K2) : sqz (srtE ((L ++ L2).filter (besB M))) = putAllE M (putAllE M [] K) K2 := by
  refine eds_one (sqTo_sorted _ (srtE_sorted _) _) (putAllE_sorted M K2 (putAllE_sorted M K List.Pairwise.nil)) fun e => ?_
  rw [sqz_mem, srtE_mem, List.mem_filter, putAllE_mem, putAllE_mem, List.mem_append, hL e, hK e, hL2 e, hK2 e]
  constructor
  · rintro ⟨h | h, h2⟩
    · exact .inl (.inr ⟨h, h2⟩)
    · exact .inr ⟨h, h2⟩
  · rintro ((h | ⟨h, h2⟩) | ⟨h, h2⟩)
    · cases h
    · exact ⟨.inl h, h2⟩
    · exact ⟨.inr h, h2⟩

end Go.Proofs.YtjiljodchebniaaGreat
