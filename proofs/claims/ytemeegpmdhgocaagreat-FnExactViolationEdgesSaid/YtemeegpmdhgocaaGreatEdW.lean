/- Lists of edges in memory: contracts of the laws' helpers. Conditions: lists in memory. -/
import Derived.Test.YtemeegpmdhgocaaGreatCmp
import Derived.Test.YtemeegpmdhgocaaGreatEdgeM
namespace Go.Proofs.YtemeegpmdhgocaaGreat
open Go.RowKit

def eqEd (p q : Ed) : Bool := decide (p = q)
theorem eqEd_iff (p q : Ed) : eqEd p q = true ↔ p = q := by simp [eqEd]
theorem eqEd_no (p q : Ed) : eqEd p q = false ↔ p ≠ q := by simp [eqEd]
def Ed.vals (r : Ed) : List Value := [.int .i64 r.x0, .int .i64 r.y0, .int .i64 r.x1, .int .i64 r.y1]
def Ed.val (r : Ed) : Value := .agg #[.int .i64 r.x0, .int .i64 r.y0, .int .i64 r.x1, .int .i64 r.y1]
def flatE (rs : List Ed) : List Value := rs.flatMap Ed.vals
theorem flatE_length : ∀ rs : List Ed, (flatE rs).length = rs.length * 4
  | [] => rfl
  | r :: rs => by
    have := flatE_length rs
    have e : flatE (r :: rs) = r.vals ++ flatE rs := rfl
    have e4 : r.vals.length = 4 := rfl
    rw [e, List.length_append, this, e4, List.length_cons]
    omega
theorem flatE_append (a b : List Ed) : flatE (a ++ b) = flatE a ++ flatE b := by simp [flatE, List.flatMap_append]
theorem flatE_one (r : Ed) : flatE [r] = r.vals := by simp [flatE]
theorem flatE_get : ∀ (rs : List Ed) (k : Nat) (r : Ed), rs[k]? = some r →
    (flatE rs)[k * 4]? = some (.int .i64 r.x0) ∧ (flatE rs)[k * 4 + 1]? = some (.int .i64 r.y0) ∧ (flatE rs)[k * 4 + 2]? = some (.int .i64 r.x1) ∧ (flatE rs)[k * 4 + 3]? = some (.int .i64 r.y1)
  | [], k, r, h => by simp at h
  | q :: rs, 0, r, h => by
    simp only [List.getElem?_cons_zero, Option.some.injEq] at h
    subst h
    simp [flatE, Ed.vals]
  | q :: rs, k + 1, r, h => by
    have ih := flatE_get rs k r (by simpa using h)
    have e : flatE (q :: rs) = [Value.int .i64 q.x0, .int .i64 q.y0, .int .i64 q.x1, .int .i64 q.y1] ++ flatE rs := by simp [flatE, Ed.vals]
    rw [e, List.getElem?_append_right (by simp; omega), List.getElem?_append_right (by simp; omega), List.getElem?_append_right (by simp; omega), List.getElem?_append_right (by simp; omega)]
    have e0 : (k + 1) * 4 - [Value.int .i64 q.x0, .int .i64 q.y0, .int .i64 q.x1, .int .i64 q.y1].length = k * 4 := by simp; omega
    have e1 : (k + 1) * 4 + 1 - [Value.int .i64 q.x0, .int .i64 q.y0, .int .i64 q.x1, .int .i64 q.y1].length = k * 4 + 1 := by simp; omega
    have e2 : (k + 1) * 4 + 2 - [Value.int .i64 q.x0, .int .i64 q.y0, .int .i64 q.x1, .int .i64 q.y1].length = k * 4 + 2 := by simp; omega
    have e3 : (k + 1) * 4 + 3 - [Value.int .i64 q.x0, .int .i64 q.y0, .int .i64 q.x1, .int .i64 q.y1].length = k * 4 + 3 := by simp; omega
    rw [e0, e1, e2, e3]
    exact ih

theorem flatE_set : ∀ (rs : List Ed) (j : Nat) (a b c d : Int), j < rs.length →
    ((((flatE rs).set (j * 4) (.int .i64 a)).set (j * 4 + 1) (.int .i64 b)).set (j * 4 + 2) (.int .i64 c)).set (j * 4 + 3) (.int .i64 d) = flatE (rs.set j ⟨a, b, c, d⟩)
  | [], j, _, _, _, _, h => by simp at h
  | q :: rs, 0, a, b, c, d, _ => by simp [flatE, Ed.vals]
  | q :: rs, j + 1, a, b, c, d, h => by
    have ih := flatE_set rs j a b c d (by simpa using h)
    have e : ∀ l, flatE (q :: l) = Value.int .i64 q.x0 :: .int .i64 q.y0 :: .int .i64 q.x1 :: .int .i64 q.y1 :: flatE l := fun l => rfl
    have e1 : (j + 1) * 4 = j * 4 + 1 + 1 + 1 + 1 := by omega
    have e2 : (j + 1) * 4 + 1 = (j * 4 + 1) + 1 + 1 + 1 + 1 := by omega
    have e3 : (j + 1) * 4 + 2 = (j * 4 + 2) + 1 + 1 + 1 + 1 := by omega
    have e4 : (j + 1) * 4 + 3 = (j * 4 + 3) + 1 + 1 + 1 + 1 := by omega
    rw [List.set_cons_succ, e, e, e2, e3, e4, e1]
    simp only [List.set_cons_succ]
    rw [ih]

/-- The slice value v is the list rs of edges, in a row from block B on (B = 0: wherever). -/
def EL (w : World) (B : Nat) (v : Value) (rs : List Ed) : Prop := w.ownsRow B 70 4 v rs.length (flatE rs)

section
variable {w w' : World} {B B' : Nat} {v : Value} {rs : List Ed}
theorem EL.on (h : EL w B v rs) (hb : Below w.heap.size w w') : EL w' B v rs := own_on h hb
theorem EL.less (h : EL w B v rs) (hB : B' ≤ B) : EL w B' v rs := own_less h hB
theorem EL.nil (w : World) (B : Nat) : EL w B (.slice none 0 0) [] := World.ownsRow_nil w B _ _
theorem EL.form (h : EL w B v rs) : ∃ A cap, v = .slice A rs.length cap ∧ rs.length ≤ cap ∧ cap ≤ maxLen ∧
    (∀ (k : Nat) (r : Ed), rs[k]? = some r → ∃ g, A = some ⟨g, 0, none⟩ ∧ B ≤ g ∧ g < w.heap.size ∧ w.cell? ⟨g, k * 4, none⟩ = some (.int .i64 r.x0) ∧ w.cell? ⟨g, k * 4 + 1, none⟩ = some (.int .i64 r.y0) ∧
      w.cell? ⟨g, k * 4 + 2, none⟩ = some (.int .i64 r.x1) ∧ w.cell? ⟨g, k * 4 + 3, none⟩ = some (.int .i64 r.y1)) := by
  obtain ⟨A, cap, hv, h1, h2, h3⟩ := own_form h
  refine ⟨A, cap, hv, h1, h2, fun k r hk => ?_⟩
  have hlt : k < rs.length := (List.getElem?_eq_some_iff.1 hk).1
  obtain ⟨g, hA, hg, hgw, hc, _⟩ := h3 (by omega)
  obtain ⟨f0, f1, f2, f3⟩ := flatE_get rs k r hk
  exact ⟨g, hA, hg, hgw, hc _ _ f0, hc _ _ f1, hc _ _ f2, hc _ _ f3⟩
/-- The element k of a list, in memory. -/
theorem EL.elem {A : Option Addr} {n c : Nat} (h : EL w B (.slice A n c) rs) {k : Nat} (hk : k < rs.length) : ∃ g x0 y0 x1 y1, A = some ⟨g, 0, none⟩ ∧ rs[k]? = some ⟨x0, y0, x1, y1⟩ ∧ g < w.heap.size ∧
    w.cell? ⟨g, k * 4, none⟩ = some (.int .i64 x0) ∧ w.cell? ⟨g, k * 4 + 1, none⟩ = some (.int .i64 y0) ∧ w.cell? ⟨g, k * 4 + 2, none⟩ = some (.int .i64 x1) ∧ w.cell? ⟨g, k * 4 + 3, none⟩ = some (.int .i64 y1) := by
  obtain ⟨A', c', e, _, _, hf⟩ := h.form
  have hr : rs[k]? = some rs[k] := List.getElem?_eq_getElem hk
  obtain ⟨g, hA, _, hg, h0, h1, h2, h3⟩ := hf k _ hr
  simp only [Value.slice.injEq] at e
  exact ⟨g, rs[k].x0, rs[k].y0, rs[k].x1, rs[k].y1, e.1.trans hA, hr, hg, h0, h1, h2, h3⟩
end

/-- 'list[j] = r', field by field. -/
theorem EL.set4 {w : World} {B g n c : Nat} {rs : List Ed} (h : EL w B (.slice (some ⟨g, 0, none⟩) n c) rs) {j : Nat} (hj : j < rs.length) (x0 y0 x1 y1 : Int) :
    EL ((((w.setCell ⟨g, j * 4, none⟩ (.int .i64 x0)).setCell ⟨g, j * 4 + 1, none⟩ (.int .i64 y0)).setCell ⟨g, j * 4 + 2, none⟩ (.int .i64 x1)).setCell ⟨g, j * 4 + 3, none⟩ (.int .i64 y1)) B (.slice (some ⟨g, 0, none⟩) n c) (rs.set j ⟨x0, y0, x1, y1⟩) := by
  obtain ⟨A, c', e, _, _, _⟩ := h.form
  simp only [Value.slice.injEq] at e
  obtain ⟨_, rfl, _⟩ := e
  unfold EL at h ⊢
  rw [← flatE_set _ _ _ _ _ _ hj, List.length_set]
  exact (((h.stored _ _).1.stored _ _).1.stored _ _).1.stored _ _ |>.1
theorem EL.frozen {w : World} {B g n c : Nat} {rs : List Ed} (h : EL w B (.slice (some ⟨g, 0, none⟩) n c) rs) (j : Nat) : w.frozen? ⟨g, j, none⟩ = false := by
  obtain ⟨A, c', e, _, _, _⟩ := h.form
  simp only [Value.slice.injEq] at e
  obtain ⟨_, rfl, _⟩ := e
  exact World.ownsRow.frozenAt h j
theorem EL.base {w : World} {B g n c : Nat} {rs : List Ed} (h : EL w B (.slice (some ⟨g, 0, none⟩) n c) rs) : B ≤ g ∧ g < w.heap.size := h.lt g rfl

theorem infoEdge : (Tryz.prog.info? 70).map (fun i => (i.zero, i.size, i.bytes)) = some (some (.agg #[.int .i64 0, .int .i64 0, .int .i64 0, .int .i64 0]), 4, 32) := by kernel_rfl
/-- 'out = append(out, r)' on a list of edges of the call's own. -/
theorem wpList_append_E {w : World} {ops : Array Oper} {rest : List Oper} {o : Oper} {a : Act} {Q : Exit → Act → World → Prop} (hgd : o.guard = none) (s x : Operand)
    (ho : o.op = .call { callee := .builtin .append, args := #[s, x], argTypes := #[32, 32] })
    (B : Nat) (v : Value) (rs : List Ed) (hs : a.eval s = v) (hown : EL w B v rs) (x0 y0 x1 y1 : Int) (hx : a.eval x = .slice (some ⟨w.heap.size, 0, none⟩) 1 1)
    (hlen : rs.length ≤ 1000000) (hB : B ≤ w.heap.size)
    (h : ∀ v' w', EL w' B v' (rs ++ [⟨x0, y0, x1, y1⟩]) → w.grownBy w' v.ownBlock → Below B w w' → wpList Tryz.prog ops Q rest (a.put o.dst v') w') :
    wpList Tryz.prog ops Q (o :: rest) a (w.alloc (.cells #[.int .i64 x0, .int .i64 y0, .int .i64 x1, .int .i64 y1] 70)) := by
  obtain ⟨i, hi, hz, hsz, hby⟩ := info_parts infoEdge
  refine wpList_append_own _ hgd s x 32 ho B 70 i _ 4 32 Tryz.underlying32 hi hz hsz hby rfl (by decide) v rs.length (flatE rs) hs (World.ownsRow.alloc hown _) ⟨w.heap.size, 0, none⟩ 1 1
    [.int .i64 x0, .int .i64 y0, .int .i64 x1, .int .i64 y1] hx rfl ?_ ?_ (by simp only [maxLen]; omega) (by omega) (by simp; omega) ?_
  · intro j u hu
    rw [Addr.add_lit, World.cell?_alloc_new]
    simpa using hu
  · intro u hu
    simp at hu
    rcases hu with rfl | rfl | rfl | rfl <;> rfl
  · intro v' w' h1 h2 _
    have h3 := grown_of_alloc h2
    refine h v' w' ?_ h3 (below_own hown h3 hB)
    unfold EL
    rw [flatE_append, flatE_one, List.length_append]
    exact h1

theorem run_equal_E (a b c d a' b' c' d' : Int) (w : World) :
    (Op.equalIn 10000 70 (.agg #[.int .i64 a, .int .i64 b, .int .i64 c, .int .i64 d]) (.agg #[.int .i64 a', .int .i64 b', .int .i64 c', .int .i64 d'])).run Tryz.prog w = .ok (eqEd ⟨a, b, c, d⟩ ⟨a', b', c', d'⟩) w := by
  by_cases h0 : a = a'
  · by_cases h1 : b = b'
    · by_cases h2 : c = c'
      · by_cases h3 : d = d'
        · simp [go_sem, eqEd, h0, h1, h2, h3]
        · simp [go_sem, eqEd, h0, h1, h2, h3]
      · simp [go_sem, eqEd, h0, h1, h2]
    · simp [go_sem, eqEd, h0, h1]
  · simp [go_sem, eqEd, h0]

@[go_sem high] theorem run_neq_E (a b c d a' b' c' d' : Int) (w : World) :
    (binOp .neq 70 (.agg #[.int .i64 a, .int .i64 b, .int .i64 c, .int .i64 d]) (.agg #[.int .i64 a', .int .i64 b', .int .i64 c', .int .i64 d'])).run Tryz.prog w = .ok (.bool (!eqEd ⟨a, b, c, d⟩ ⟨a', b', c', d'⟩)) w := by
  rw [run_neq_struct, run_equal_E]
  rfl
@[go_sem high] theorem run_eql_E (a b c d a' b' c' d' : Int) (w : World) :
    (binOp .eql 70 (.agg #[.int .i64 a, .int .i64 b, .int .i64 c, .int .i64 d]) (.agg #[.int .i64 a', .int .i64 b', .int .i64 c', .int .i64 d'])).run Tryz.prog w = .ok (.bool (eqEd ⟨a, b, c, d⟩ ⟨a', b', c', d'⟩)) w := by
  rw [run_eql_struct, run_equal_E]
  rfl

/-- eqRect of two equal edges. -/
theorem eqEdge_same (r : Ed) (w : World) : Calls Tryz.prog 40 #[r.val, r.val] w fun e w' => e = .returned (.bool true) ∧ Below w.heap.size w w' := by
  obtain ⟨x0, y0, x1, y1⟩ := r
  unfold Ed.val
  go_enter Tryz.func40, Tryz.ntmps40
  go_wp2
  go_ret
  exact ⟨rfl, (((Below.refl _ _).alloc (Nat.le_refl _) _).alloc (by simp) _)⟩

set_option maxHeartbeats 400000 in
set_option maxRecDepth 100000 in
theorem eqEdgeS_same (v u : Value) (rs : List Ed) (w : World) (hv : EL w 0 v rs) (hu : EL w 0 u rs) :
    Calls Tryz.prog 12 #[v, u] w fun e w' => e = .returned (.bool true) ∧ Below w.heap.size w w' := by
  obtain ⟨A, c1, rfl, hc1, hm1, -⟩ := hv.form
  obtain ⟨A2, c2, rfl, hc2, hm2, -⟩ := hu.form
  have hlen : rs.length ≤ 9223372036854775807 := by unfold maxLen at hm1; omega
  go_enter Tryz.func12, Tryz.ntmps12
  go_wp2
  go_loopw [5] (fun i wr => ∃ k : Nat, k ≤ rs.length ∧ i = .int .i64 k ∧ Below w.heap.size w wr) (fun i _ => rs.length - (intOf i).toNat)
  case atStart => exact ⟨0, Nat.zero_le _, rfl, Below.refl _ _⟩
  case round =>
    obtain ⟨k, hk, rfl, hb⟩ := hrel
    by_cases hlt : k < rs.length
    · obtain ⟨g, x0, y0, x1, y1, hA, hr, hg, f0, f1, f2, f3⟩ := (hv.on hb).elem hlt
      obtain ⟨g', x0', y0', x1', y1', hA', hr', hg', f0', f1', f2', f3'⟩ := (hu.on hb).elem hlt
      have hrr := hr.symm.trans hr'
      simp only [Option.some.injEq, Ed.mk.injEq] at hrr
      obtain ⟨rfl, rfl, rfl, rfl⟩ := hrr
      clear hr' hr
      subst hA
      subst hA'
      clear hv hu
      go_wp2
      go_still_tail 8, (by kernel_rfl)
      change wpList _ _ _ _ _ wr.drew
      have hb2 : Below w.heap.size w wr.drew := hb.drew
      have hsz : wr.drew.heap.size = wr.heap.size := rfl
      generalize wr.drew = w2 at *
      go_wp2_with (go_at_call 40; refine (eqEdge_same ⟨x0, y0, x1, y1⟩ _).mono ?_; rintro e w1 ⟨rfl, hb1⟩)
      exact ⟨⟨k + 1, by omega, by go_num, hb2.trans (hb1.mono hb2.size)⟩, by simp [intOf]; omega⟩
    · go_wp2
      go_ret
      exact ⟨rfl, hb⟩

/-- The emark of the element i. -/
def emark (k : Int) (i : Nat) : Ed := ⟨k + 4 * i, k + 4 * i + 1, k + 4 * i + 2, k + 4 * i + 3⟩
def emarks (k : Int) (n : Nat) : List Ed := (List.range n).map (emark k)
theorem emarks_length (k : Int) (n : Nat) : (emarks k n).length = n := by simp [emarks]
theorem emarks_get (k : Int) (n i : Nat) (h : i < n) : (emarks k n)[i]? = some (emark k i) := by simp [emarks, h]
/-- The first j elements are marked. -/
def emixed (k : Int) (rs : List Ed) (j : Nat) : List Ed := emarks k j ++ rs.drop j
theorem emixed_length (k : Int) (rs : List Ed) (j : Nat) (h : j ≤ rs.length) : (emixed k rs j).length = rs.length := by
  simp only [emixed, List.length_append, emarks_length, List.length_drop]; omega
theorem emixed_step (k : Int) (rs : List Ed) (j : Nat) (h : j < rs.length) : (emixed k rs j).set j (emark k j) = emixed k rs (j + 1) := by
  have e : rs.drop j = rs[j] :: rs.drop (j + 1) := List.drop_eq_getElem_cons h
  have e2 : emarks k (j + 1) = emarks k j ++ [emark k j] := by simp [emarks, List.range_succ]
  unfold emixed
  rw [List.set_append_right _ _ (by rw [emarks_length]; exact Nat.le_refl _), emarks_length, Nat.sub_self, e, List.set_cons_zero, e2, List.append_assoc]
  rfl
theorem emixed_end (k : Int) (rs : List Ed) : emixed k rs rs.length = emarks k rs.length := by simp [emixed]

set_option maxHeartbeats 400000 in
set_option maxRecDepth 100000 in
theorem markEdgeS_any (v : Value) (rs : List Ed) (w : World) (B : Nat) (hv : EL w B v rs) (k0 : Int) (h0 : 0 ≤ k0) (h1 : k0 ≤ 10000000) (hn : rs.length ≤ 1048576) :
    Calls Tryz.prog 19 #[v, .int .i64 k0] w fun e w' => e = .returned (.int .i64 (k0 + 4 * rs.length)) ∧ EL w' B v (emarks k0 rs.length) ∧ w.grownBy w' v.ownBlock := by
  obtain ⟨A, c1, rfl, hc1, hm1, -⟩ := hv.form
  go_enter Tryz.func19, Tryz.ntmps19
  go_wp2
  go_loopw [1, 5] (fun kv i wr => ∃ j : Nat, j ≤ rs.length ∧ i = .int .i64 j ∧ kv = .int .i64 (k0 + 4 * j) ∧ EL wr B (.slice A rs.length c1) (emixed k0 rs j) ∧ w.grownBy wr (Value.slice A rs.length c1).ownBlock) (fun _ i _ => rs.length - (intOf i).toNat)
  case atStart => exact ⟨0, Nat.zero_le _, rfl, by simp, by simpa [emixed, emarks] using hv, only_refl _ _⟩
  case round =>
    obtain ⟨j, hj, rfl, rfl, hR, hg⟩ := hrel
    by_cases hlt : j < rs.length
    · have hjl : j < (emixed k0 rs j).length := by rw [emixed_length k0 rs j hj]; exact hlt
      obtain ⟨g, x0, y0, x1, y1, rfl, _, hgs, f0, f1, f2, f3⟩ := hR.elem hjl
      have z := hR.frozen
      have z0 := z (j * 4)
      have z1 := z (j * 4 + 1)
      have z2 := z (j * 4 + 2)
      have z3 := z (j * 4 + 3)
      clear z hv
      have hS := hR.set4 hjl (k0 + 4 * j) (k0 + 4 * j + 1) (k0 + 4 * j + 1 + 1) (k0 + 4 * j + 1 + 1 + 1)
      have hG := only_store (only_store (only_store (only_store hg (j * 4) (.int .i64 (k0 + 4 * j))) (j * 4 + 1) (.int .i64 (k0 + 4 * j + 1))) (j * 4 + 2) (.int .i64 (k0 + 4 * j + 1 + 1))) (j * 4 + 3) (.int .i64 (k0 + 4 * j + 1 + 1 + 1))
      have HS := Lib.hid hS
      have HG := Lib.hid hG
      clear hS hG hR hg
      go_wp2
      refine ⟨⟨j + 1, by omega, by go_num, by go_num, ?_, HG.out⟩, by simp [intOf]; omega⟩
      rw [← emixed_step k0 rs j hlt]
      have e : emark k0 j = ⟨k0 + 4 * j, k0 + 4 * j + 1, k0 + 4 * j + 1 + 1, k0 + 4 * j + 1 + 1 + 1⟩ := by unfold emark; congr 1 <;> omega
      rw [e]
      exact HS.out
    · go_wp2
      go_ret
      have : j = rs.length := by omega
      subst this
      rw [emixed_end] at hR
      exact ⟨rfl, hR, hg⟩

set_option maxHeartbeats 400000 in
set_option maxRecDepth 100000 in
theorem heldEdgeS_any (v : Value) (n : Nat) (w : World) (k0 : Int) (hv : EL w 0 v (emarks k0 n)) (h0 : 0 ≤ k0) (h1 : k0 ≤ 10000000) (hn : n ≤ 1048576) :
    Calls Tryz.prog 20 #[v, .int .i64 k0] w fun e w' => e = .returned (.int .i64 (k0 + 4 * n)) ∧ w = w' := by
  obtain ⟨A, c1, rfl, hc1, hm1, -⟩ := hv.form
  have hl := emarks_length k0 n
  rw [hl] at hc1
  have Hv := Lib.hid hv
  have Hl := Lib.hid hl
  rw [hl]
  clear hl hv
  go_enter Tryz.func20, Tryz.ntmps20
  go_wp2
  go_loop [1, 5] (fun kv i => ∃ j : Nat, j ≤ n ∧ i = .int .i64 j ∧ kv = .int .i64 (k0 + 4 * j)) (fun _ i => n - (intOf i).toNat)
  case atStart => exact ⟨0, Nat.zero_le _, rfl, by simp⟩
  case round =>
    obtain ⟨j, hj, rfl, rfl⟩ := hrel
    by_cases hlt : j < n
    · obtain ⟨g, x0, y0, x1, y1, rfl, hr, hgs, f0, f1, f2, f3⟩ := Hv.out.elem (k := j) (by rw [Hl.out]; exact hlt)
      rw [emarks_get k0 n j hlt] at hr
      simp only [emark, Option.some.injEq, Ed.mk.injEq] at hr
      obtain ⟨rfl, rfl, rfl, rfl⟩ := hr
      go_wp2
      go_round
      case rel => exact ⟨j + 1, by omega, by go_num, by go_num⟩
      case measure => simp [intOf]; omega
    · go_wp2
      go_ret
      have : j = n := by omega
      subst this
      exact ⟨rfl, rfl⟩


end Go.Proofs.YtemeegpmdhgocaaGreat
