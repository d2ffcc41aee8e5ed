/- What memory holds: lists of violations; changes that keep to some blocks. No conditions. -/
import Derived.Test.YtbljapihmkmolaaGreatTo
import Derived.Test.YtbljapihmkmolaaGreatCmp
import Derived.Test.YtbljapihmkmolaaGreatCombA
import Derived.Test.YtbljapihmkmolaaGreatVio
import Derived.Test.YtbljapihmkmolaaGreatVioOpen
namespace Go.Proofs.YtbljapihmkmolaaGreat
open Go.RowKit

/-- Only blocks from lo on, below hi, have changed; new ones may lie behind. -/
structure Mid (lo hi : Nat) (w w' : World) : Prop where
  os : w'.os = w.os
  tape : w'.tape = w.tape
  output : w'.output = w.output
  size : w.heap.size ≤ w'.heap.size
  block : ∀ k, k < w.heap.size → k < lo ∨ hi ≤ k → w'.heap[k]? = w.heap[k]?
section
variable {w w' w2 : World} {lo hi B n size : Nat} {e : TypeId} {v : Value} {xs : List Value}
theorem Mid.refl (lo hi : Nat) (w : World) : Mid lo hi w w := ⟨rfl, rfl, rfl, Nat.le_refl _, fun _ _ _ => rfl⟩
theorem Mid.trans (h : Mid lo hi w w') (k : Mid lo hi w' w2) : Mid lo hi w w2 :=
  ⟨k.os.trans h.os, k.tape.trans h.tape, k.output.trans h.output, Nat.le_trans h.size k.size, fun b hb ho => (k.block b (Nat.lt_of_lt_of_le hb h.size) ho).trans (h.block b hb ho)⟩
theorem Mid.of_grown {row : Option Nat} (h : w.grownBy w' row) (hr : ∀ g, row = some g → lo ≤ g ∧ g < hi) : Mid lo hi w w' :=
  ⟨h.os, h.tape, h.output, h.size, fun b hb ho => h.block b hb (fun e => by have := hr b e.symm; omega)⟩
theorem Mid.of_below (h : Below w.heap.size w w') : Mid lo hi w w' := ⟨h.os, h.tape, h.output, h.size, fun b hb _ => h.block b hb⟩
theorem Mid.below (h : Mid lo hi w w') (hlo : B ≤ lo) (hB : B ≤ w.heap.size) : Below B w w' := ⟨h.os, h.tape, h.output, h.size, fun b hb => h.block b (by omega) (.inl (by omega))⟩
theorem Mid.own (h : Mid lo hi w w') (ho : w.ownsRow B e size v n xs) (hv : ∀ g, v.ownBlock = some g → g < lo ∨ hi ≤ g) : w'.ownsRow B e size v n xs := by
  refine ⟨ho.1, ?_⟩
  rcases ho.2 with hn | ⟨g, cap, cur, rfl, hb, hgg, rest⟩
  · exact .inl hn
  · refine .inr ⟨g, cap, cur, rfl, hb, ?_, rest⟩
    rw [h.block g (Array.getElem?_eq_some_iff.1 hgg).1 (hv g rfl)]
    exact hgg
end

/-- The cells of a list of violations: the numbers, and the lists' values. -/
def flatV : List (Int × List Rc) → List Value → List Value
  | q :: vs, u :: us => .int .i64 q.1 :: u :: flatV vs us
  | _, _ => []
theorem flatV_length : ∀ (vs : List (Int × List Rc)) (us : List Value), us.length = vs.length → (flatV vs us).length = vs.length * 2
  | [], _, _ => rfl
  | q :: vs, [], h => by simp at h
  | q :: vs, u :: us, h => by
    have ih := flatV_length vs us (by simpa using h)
    simp only [flatV, List.length_cons, ih]
    omega
theorem flatV_append : ∀ (vs : List (Int × List Rc)) (us : List Value) (xs : List (Int × List Rc)) (ys : List Value), us.length = vs.length → flatV (vs ++ xs) (us ++ ys) = flatV vs us ++ flatV xs ys
  | [], [], _, _, _ => rfl
  | [], u :: us, _, _, h => by simp at h
  | q :: vs, [], _, _, h => by simp at h
  | q :: vs, u :: us, xs, ys, h => by simp only [List.cons_append, flatV, flatV_append vs us xs ys (by simpa using h)]
theorem flatV_get : ∀ (vs : List (Int × List Rc)) (us : List Value) (k : Nat) (q : Int × List Rc) (u : Value), vs[k]? = some q → us[k]? = some u → (flatV vs us)[k * 2]? = some (.int .i64 q.1) ∧ (flatV vs us)[k * 2 + 1]? = some u
  | [], _, _, _, _, h, _ => by simp at h
  | _ :: _, [], _, _, _, _, h => by simp at h
  | p :: vs, z :: us, 0, q, u, h, h2 => by
    simp only [List.getElem?_cons_zero, Option.some.injEq] at h h2
    subst h h2
    exact ⟨rfl, rfl⟩
  | p :: vs, z :: us, k + 1, q, u, h, h2 => by
    have ih := flatV_get vs us k q u (by simpa using h) (by simpa using h2)
    have e1 : (k + 1) * 2 = k * 2 + 1 + 1 := by omega
    have e2 : k * 2 + 1 + 1 + 1 = (k * 2 + 1) + 1 + 1 := rfl
    rw [e1]
    simp only [flatV]
    rw [List.getElem?_cons_succ, List.getElem?_cons_succ, e2, List.getElem?_cons_succ, List.getElem?_cons_succ]
    exact ih
theorem flatV_set : ∀ (vs : List (Int × List Rc)) (us : List Value) (k : Nat) (q : Int × List Rc) (u : Value), us.length = vs.length → k < vs.length → ((flatV vs us).set (k * 2) (.int .i64 q.1)).set (k * 2 + 1) u = flatV (vs.set k q) (us.set k u)
  | [], _, _, _, _, _, h => by simp at h
  | _ :: _, [], _, _, _, h, _ => by simp at h
  | p :: vs, z :: us, 0, q, u, _, _ => rfl
  | p :: vs, z :: us, k + 1, q, u, h, h2 => by
    have ih := flatV_set vs us k q u (by simpa using h) (by simpa using h2)
    have e1 : (k + 1) * 2 = k * 2 + 1 + 1 := by omega
    rw [e1]
    simp only [flatV, List.set_cons_succ, ih]
/-- The slice value v is the list vs of violations, whose lists of rectangles are the values us; all in blocks from B on. -/
structure XW (w : World) (B : Nat) (v : Value) (us : List Value) (vs : List (Int × List Rc)) : Prop where
  len : us.length = vs.length
  own : w.ownsRow B 102 2 v vs.length (flatV vs us)
  each : ∀ (k : Nat) (u : Value) (q : Int × List Rc), us[k]? = some u → vs[k]? = some q → RL w B u q.2
section
variable {w w' : World} {B B' lo hi : Nat} {v : Value} {us : List Value} {vs : List (Int × List Rc)}
theorem XW.on (h : XW w B v us vs) (hb : Below w.heap.size w w') : XW w' B v us vs := ⟨h.len, own_on h.own hb, fun k u q hu hq => (h.each k u q hu hq).on hb⟩
theorem XW.less (h : XW w B v us vs) (hB : B' ≤ B) : XW w B' v us vs := ⟨h.len, own_less h.own hB, fun k u q hu hq => (h.each k u q hu hq).less hB⟩
theorem XW.alloc (h : XW w B v us vs) (o : Obj) : XW (w.alloc o) B v us vs := h.on ((Below.refl _ _).alloc (Nat.le_refl _) o)
theorem XW.drew (h : XW w B v us vs) : XW w.drew B v us vs := h.on (Below.refl _ _).drew
theorem XW.form (h : XW w B v us vs) : ∃ A cap, v = .slice A vs.length cap ∧ vs.length ≤ cap ∧ cap ≤ maxLen := by
  obtain ⟨A, cap, hv, a1, a2, _⟩ := own_form h.own
  exact ⟨A, cap, hv, a1, a2⟩
theorem XW.elem {A : Option Addr} {n c k : Nat} {q : Int × List Rc} (h : XW w B (.slice A n c) us vs) (hq : vs[k]? = some q) : ∃ g u, A = some ⟨g, 0, none⟩ ∧ us[k]? = some u ∧ B ≤ g ∧ g < w.heap.size ∧ w.cell? ⟨g, k * 2, none⟩ = some (.int .i64 q.1) ∧ w.cell? ⟨g, k * 2 + 1, none⟩ = some u ∧ RL w B u q.2 := by
  obtain ⟨A', cap, hv, a1, a2, hf⟩ := own_form h.own
  have hk : k < vs.length := (List.getElem?_eq_some_iff.1 hq).1
  obtain ⟨g, hA, hg, hgw, hc, _⟩ := hf (by omega)
  obtain ⟨u, hu⟩ : ∃ u, us[k]? = some u := ⟨_, List.getElem?_eq_getElem (by rw [h.len]; exact hk)⟩
  obtain ⟨f0, f1⟩ := flatV_get vs us k q u hq hu
  simp only [Value.slice.injEq] at hv
  exact ⟨g, u, hv.1.trans hA, hu, hg, hgw, hc _ _ f0, hc _ _ f1, h.each k u q hu hq⟩
theorem XW.frozen {g n c : Nat} (h : XW w B (.slice (some ⟨g, 0, none⟩) n c) us vs) (j : Nat) : w.frozen? ⟨g, j, none⟩ = false := by
  obtain ⟨A, c', e, _, _⟩ := h.form
  simp only [Value.slice.injEq] at e
  obtain ⟨_, rfl, _⟩ := e
  exact World.ownsRow.frozenAt h.own j
/-- All blocks of the list lie from lo on, below hi. -/
def XIn (lo hi : Nat) (v : Value) (us : List Value) : Prop := (∀ g, v.ownBlock = some g → lo ≤ g ∧ g < hi) ∧ ∀ (k : Nat) (u : Value), us[k]? = some u → ∀ g, u.ownBlock = some g → lo ≤ g ∧ g < hi
theorem XW.inside (h : XW w B v us vs) : XIn B w.heap.size v us := by
  refine ⟨own_lt h.own, fun k u hu g hg => ?_⟩
  have hk : k < vs.length := by rw [← h.len]; exact (List.getElem?_eq_some_iff.1 hu).1
  exact own_lt (h.each k u _ hu (List.getElem?_eq_getElem hk)) g hg
theorem XW.mid (h : XW w B v us vs) (hm : Mid lo hi w w') {a b : Nat} (hi' : XIn a b v us) (hab : b ≤ lo ∨ hi ≤ a) : XW w' B v us vs :=
  ⟨h.len, hm.own h.own (fun g hg => by have := hi'.1 g hg; omega), fun k u q hu hq => hm.own (h.each k u q hu hq) (fun g hg => by have := hi'.2 k u hu g hg; omega)⟩
/-- The lists lie apart. -/
def Apart (us : List Value) : Prop := ∀ (i j : Nat) (x y : Value) (g : Nat), i ≠ j → us[i]? = some x → us[j]? = some y → x.ownBlock = some g → y.ownBlock ≠ some g
end

/-- The marks of a list of violations, and the number behind them. -/
def marksV : Int → List (Int × List Rc) → List (Int × List Rc)
  | _, [] => []
  | k, q :: vs => (k, marks (k + 1) q.2.length) :: marksV (k + 1 + 4 * q.2.length) vs
def endV : Int → List (Int × List Rc) → Int
  | k, [] => k
  | k, q :: vs => endV (k + 1 + 4 * q.2.length) vs
theorem marksV_length : ∀ (k : Int) (vs : List (Int × List Rc)), (marksV k vs).length = vs.length
  | _, [] => rfl
  | k, q :: vs => by simp [marksV, marksV_length _ vs]
theorem marksV_snoc : ∀ (k : Int) (vs : List (Int × List Rc)) (q : Int × List Rc), marksV k (vs ++ [q]) = marksV k vs ++ [(endV k vs, marks (endV k vs + 1) q.2.length)]
  | _, [], _ => rfl
  | k, p :: vs, q => by simp only [List.cons_append, marksV, endV, marksV_snoc _ vs q]
theorem endV_snoc : ∀ (k : Int) (vs : List (Int × List Rc)) (q : Int × List Rc), endV k (vs ++ [q]) = endV k vs + 1 + 4 * q.2.length
  | _, [], _ => rfl
  | k, p :: vs, q => by simp only [List.cons_append, endV, endV_snoc _ vs q]
theorem marksV_get : ∀ (k : Int) (vs : List (Int × List Rc)) (j : Nat) (q : Int × List Rc), vs[j]? = some q → (marksV k vs)[j]? = some (endV k (vs.take j), marks (endV k (vs.take j) + 1) q.2.length)
  | _, [], _, _, h => by simp at h
  | k, p :: vs, 0, q, h => by
    simp only [List.getElem?_cons_zero, Option.some.injEq] at h
    subst h
    rfl
  | k, p :: vs, j + 1, q, h => by
    have ih := marksV_get (k + 1 + 4 * p.2.length) vs j q (by simpa using h)
    simpa [marksV, endV] using ih
/-- The number of rectangles of the lists together. -/
def sizeV (vs : List (Int × List Rc)) : Nat := (vs.map fun q => q.2.length).sum
theorem sizeV_take {vs : List (Int × List Rc)} {j : Nat} {q : Int × List Rc} (h : vs[j]? = some q) : sizeV (vs.take (j + 1)) = sizeV (vs.take j) + q.2.length := by
  unfold sizeV
  rw [List.take_add_one, h]
  simp
theorem sizeV_le (vs : List (Int × List Rc)) (j : Nat) : sizeV (vs.take j) ≤ sizeV vs := by
  have e : sizeV vs = sizeV (vs.take j) + sizeV (vs.drop j) := by
    unfold sizeV
    conv => lhs; rw [← List.take_append_drop j vs]
    rw [List.map_append, List.sum_append]
  omega
theorem endV_eq : ∀ (k : Int) (vs : List (Int × List Rc)), endV k vs = k + vs.length + 4 * sizeV vs
  | k, [] => by simp [endV, sizeV]
  | k, q :: vs => by
    have e : sizeV (q :: vs) = q.2.length + sizeV vs := by simp [sizeV]
    simp only [endV, endV_eq _ vs, e, List.length_cons]
    omega
/-- The first j violations are marked. -/
def mixedV (k : Int) (vs : List (Int × List Rc)) (j : Nat) : List (Int × List Rc) := marksV k (vs.take j) ++ vs.drop j
theorem mixedV_length (k : Int) (vs : List (Int × List Rc)) {j : Nat} (h : j ≤ vs.length) : (mixedV k vs j).length = vs.length := by
  simp only [mixedV, List.length_append, marksV_length, List.length_take, List.length_drop]; omega
theorem mixedV_get (k : Int) {vs : List (Int × List Rc)} {j : Nat} {q : Int × List Rc} (h : vs[j]? = some q) : (mixedV k vs j)[j]? = some q := by
  have hj : j < vs.length := (List.getElem?_eq_some_iff.1 h).1
  unfold mixedV
  rw [List.getElem?_append_right (by rw [marksV_length, List.length_take]; omega), marksV_length, List.length_take, Nat.min_eq_left (by omega), Nat.sub_self, List.getElem?_drop]
  exact h
theorem mixedV_step (k : Int) {vs : List (Int × List Rc)} {j : Nat} {q : Int × List Rc} (h : vs[j]? = some q) : (mixedV k vs j).set j (endV k (vs.take j), marks (endV k (vs.take j) + 1) q.2.length) = mixedV k vs (j + 1) := by
  have hj : j < vs.length := (List.getElem?_eq_some_iff.1 h).1
  have hl : (marksV k (vs.take j)).length = j := by rw [marksV_length, List.length_take]; omega
  have e : vs.drop j = q :: vs.drop (j + 1) := by
    rw [List.drop_eq_getElem_cons hj]
    rw [List.getElem?_eq_getElem hj] at h
    cases h
    rfl
  unfold mixedV
  rw [List.set_append_right _ _ (by omega), hl, Nat.sub_self, e, List.set_cons_zero, List.take_add_one, h, Option.toList, marksV_snoc, List.append_assoc]
  rfl
theorem mixedV_end (k : Int) (vs : List (Int × List Rc)) : mixedV k vs vs.length = marksV k vs := by simp [mixedV]
theorem mixedV_zero (k : Int) (vs : List (Int × List Rc)) : mixedV k vs 0 = vs := by simp [mixedV, marksV]

end Go.Proofs.YtbljapihmkmolaaGreat
