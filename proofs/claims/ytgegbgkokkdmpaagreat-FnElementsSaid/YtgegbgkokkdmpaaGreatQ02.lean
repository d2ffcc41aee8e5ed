/- What memory holds, in words that this seat's contracts share: lists of rectangles and of integers in rows of the call's own, sets of cells in blocks of 6400 flags. No conditions. Contracts of the small functions: valid rectangles, areas, ranges, the index of a unit cell, membership in a set. Conditions: where a number is reckoned, the unit cell lies on the chip. '==' and '!=' on rectangles, in one step of the walk. No conditions. Contracts: are all rectangles of a list valid, and not too many? (the program's validRects, the reference's l03Valid); are two lists equal (slices.Equal, l03Same)? No conditions. Contracts: the cells of a list of valid rectangles: the reference's l03Bits. Condition: the rectangles are valid. Contracts: the program's put and cellsOf. No conditions. A row of flags is loaded whole, and two rows are compared, in one step of the walk. No conditions. Plain mathematics: what a counting loop gathers, as a function; the windows of the chip. No conditions. Contracts: the reference's l03Runs and l03Equal. Condition of l03Runs: the row lies on the chip. -/
import Derived.WalkKit
import Derived.WalkSpells
import Derived.Deep.Draws
import Derived.Deep.QuietTactic
import Derived.BigQuiet
import Derived.StillTailTactics
import Derived.Lib.Hide
import Derived.Test.YtgegbgkokkdmpaaGreatChecked
import Derived.Test.YtgegbgkokkdmpaaGreatQ01

namespace Go.Proofs.YtgegbgkokkdmpaaGreat
open Go.RowKit

/-! ## Blocks -/

/-- Block g is just the cells cs of element type t, none frozen. -/
def Bk (w : World) (g : Nat) (t : TypeId) (cs : Array Value) : Prop := w.heap[g]? = some (.cells cs t (0, 0))

section
variable {w w' : World} {g : Nat} {t : TypeId} {cs : Array Value}
theorem Bk.lt (h : Bk w g t cs) : g < w.heap.size := by
  unfold Bk at h
  exact (Array.getElem?_eq_some_iff.1 h).1
theorem Bk.cell (h : Bk w g t cs) (i : Nat) : w.cell? ⟨g, i, none⟩ = cs[i]? := cell_of_row w g i cs t (0, 0) h
theorem Bk.frozen (h : Bk w g t cs) (i : Nat) : w.frozen? ⟨g, i, none⟩ = false := by
  unfold Bk at h
  simp [World.frozen?, h]
theorem Bk.new (w : World) (t : TypeId) (cs : Array Value) : Bk (w.alloc (.cells cs t)) w.heap.size t cs := heap_alloc_new w _
theorem Bk.drew (h : Bk w g t cs) : Bk w.drew g t cs := h
theorem Bk.drewN (h : Bk w g t cs) (n : Nat) : Bk (w.drewN n) g t cs := h
theorem Bk.alloc (h : Bk w g t cs) (o : Obj) : Bk (w.alloc o) g t cs := (Below.heap_alloc w o g h.lt).trans h
theorem Bk.store (h : Bk w g t cs) (i : Nat) (u : Value) : Bk (w.setCell ⟨g, i, none⟩ u) g t (cs.setIfInBounds i u) := heap_setCell_same w g i cs t u h
theorem Bk.other (h : Bk w g t cs) {p : Addr} (hp : g ≠ p.block) (u : Value) : Bk (w.setCell p u) g t cs := (Below.heap_setCell w p u g hp).trans h
theorem Bk.below {B : Nat} (h : Bk w g t cs) (hb : Below B w w') (hg : g < B) : Bk w' g t cs := (hb.block g hg).trans h
/-- Behind a call that keeps all that was there. -/
theorem Bk.on (h : Bk w g t cs) (hb : Below w.heap.size w w') : Bk w' g t cs := h.below hb h.lt
theorem Bk.grown {row : Option Nat} (h : Bk w g t cs) (hb : w.grownBy w' row) (hg : some g ≠ row) : Bk w' g t cs := (hb.block g h.lt hg).trans h
end

/-! ## Rows that the program itself made -/

section
variable {w w' : World} {B B' : Nat} {e : TypeId} {size n : Nat} {v : Value} {xs : List Value}
theorem own_on (h : w.ownsRow B e size v n xs) (hb : Below w.heap.size w w') : w'.ownsRow B e size v n xs := by
  refine ⟨h.1, ?_⟩
  rcases h.2 with h2 | ⟨g, cap, cur, hv, hg, hh, r⟩
  · exact .inl h2
  · exact .inr ⟨g, cap, cur, hv, hg, (hb.block g (Array.getElem?_eq_some_iff.1 hh).1).trans hh, r⟩
theorem own_less (h : w.ownsRow B e size v n xs) (hB : B' ≤ B) : w.ownsRow B' e size v n xs := by
  refine ⟨h.1, ?_⟩
  rcases h.2 with h2 | ⟨g, cap, cur, hv, hg, r⟩
  · exact .inl h2
  · exact .inr ⟨g, cap, cur, hv, by omega, r⟩
/-- A store into a block that the row does not lie in. -/
theorem own_other (h : w.ownsRow B e size v n xs) {p : Addr} (hp : v.ownBlock ≠ some p.block) (u : Value) : (w.setCell p u).ownsRow B e size v n xs := by
  refine ⟨h.1, ?_⟩
  rcases h.2 with h2 | ⟨g, cap, cur, rfl, hg, hh, r⟩
  · exact .inl h2
  · refine .inr ⟨g, cap, cur, rfl, hg, ?_, r⟩
    rw [Below.heap_setCell _ _ _ _ (fun e => hp (by simp [Value.ownBlock, e]))]
    exact hh
theorem own_drewN (h : w.ownsRow B e size v n xs) (k : Nat) : (w.drewN k).ownsRow B e size v n xs := h
/-- A row of the call's own lies below the heap's size. -/
theorem own_lt (h : w.ownsRow B e size v n xs) : ∀ g, v.ownBlock = some g → B ≤ g ∧ g < w.heap.size := h.lt
/-- The value's own form. -/
theorem own_form (h : w.ownsRow B e size v n xs) : ∃ A cap, v = .slice A n cap ∧ n ≤ cap ∧ cap ≤ maxLen ∧
    (0 < n → ∃ g, A = some ⟨g, 0, none⟩ ∧ B ≤ g ∧ g < w.heap.size ∧ (∀ j u, xs[j]? = some u → w.cell? ⟨g, j, none⟩ = some u) ∧ ∀ j, w.frozen? ⟨g, j, none⟩ = false) := by
  rcases h.2 with ⟨rfl, rfl⟩ | ⟨g, cap, cur, rfl, hg, hh, hnc, hcm, hcs, htake⟩
  · exact ⟨none, 0, rfl, Nat.le_refl _, by simp [maxLen], fun h0 => absurd h0 (by omega)⟩
  · refine ⟨some ⟨g, 0, none⟩, cap, rfl, hnc, hcm, fun _ => ⟨g, rfl, hg, (Array.getElem?_eq_some_iff.1 hh).1, fun j u hu => ?_, fun j => frozen_of_row w g j cur e hh⟩⟩
    rw [cell_of_row w g j cur e (0, 0) hh]
    rw [← htake, List.getElem?_take] at hu
    split at hu
    · simpa using hu
    · cases hu
theorem own_len (h : w.ownsRow B e size v n xs) : n ≤ maxLen := by
  obtain ⟨A, cap, _, h1, h2, _⟩ := own_form h
  omega
end

/-! ## Lists of rectangles -/

def Rc.vals (r : Rc) : List Value := [.int .i64 r.x0, .int .i64 r.y0, .int .i64 r.x1, .int .i64 r.y1]
def Rc.val (r : Rc) : Value := .agg #[.int .i64 r.x0, .int .i64 r.y0, .int .i64 r.x1, .int .i64 r.y1]
def flatR (rs : List Rc) : List Value := rs.flatMap Rc.vals
theorem flatR_length : ∀ rs : List Rc, (flatR rs).length = rs.length * 4
  | [] => rfl
  | r :: rs => by
    have := flatR_length rs
    have e : flatR (r :: rs) = r.vals ++ flatR rs := rfl
    have e4 : r.vals.length = 4 := rfl
    rw [e, List.length_append, this, e4, List.length_cons]
    omega
theorem flatR_append (a b : List Rc) : flatR (a ++ b) = flatR a ++ flatR b := by simp [flatR, List.flatMap_append]
theorem flatR_one (r : Rc) : flatR [r] = r.vals := by simp [flatR]
theorem flatR_get : ∀ (rs : List Rc) (k : Nat) (r : Rc), rs[k]? = some r →
    (flatR rs)[k * 4]? = some (.int .i64 r.x0) ∧ (flatR rs)[k * 4 + 1]? = some (.int .i64 r.y0) ∧ (flatR rs)[k * 4 + 2]? = some (.int .i64 r.x1) ∧ (flatR rs)[k * 4 + 3]? = some (.int .i64 r.y1)
  | [], k, r, h => by simp at h
  | q :: rs, 0, r, h => by
    simp only [List.getElem?_cons_zero, Option.some.injEq] at h
    subst h
    simp [flatR, Rc.vals]
  | q :: rs, k + 1, r, h => by
    have ih := flatR_get rs k r (by simpa using h)
    have e : flatR (q :: rs) = [Value.int .i64 q.x0, .int .i64 q.y0, .int .i64 q.x1, .int .i64 q.y1] ++ flatR rs := by simp [flatR, Rc.vals]
    rw [e, List.getElem?_append_right (by simp; omega), List.getElem?_append_right (by simp; omega), List.getElem?_append_right (by simp; omega), List.getElem?_append_right (by simp; omega)]
    have e0 : (k + 1) * 4 - [Value.int .i64 q.x0, .int .i64 q.y0, .int .i64 q.x1, .int .i64 q.y1].length = k * 4 := by simp; omega
    have e1 : (k + 1) * 4 + 1 - [Value.int .i64 q.x0, .int .i64 q.y0, .int .i64 q.x1, .int .i64 q.y1].length = k * 4 + 1 := by simp; omega
    have e2 : (k + 1) * 4 + 2 - [Value.int .i64 q.x0, .int .i64 q.y0, .int .i64 q.x1, .int .i64 q.y1].length = k * 4 + 2 := by simp; omega
    have e3 : (k + 1) * 4 + 3 - [Value.int .i64 q.x0, .int .i64 q.y0, .int .i64 q.x1, .int .i64 q.y1].length = k * 4 + 3 := by simp; omega
    rw [e0, e1, e2, e3]
    exact ih

theorem flatR_set : ∀ (rs : List Rc) (j : Nat) (a b c d : Int), j < rs.length →
    ((((flatR rs).set (j * 4) (.int .i64 a)).set (j * 4 + 1) (.int .i64 b)).set (j * 4 + 2) (.int .i64 c)).set (j * 4 + 3) (.int .i64 d) = flatR (rs.set j ⟨a, b, c, d⟩)
  | [], j, _, _, _, _, h => by simp at h
  | q :: rs, 0, a, b, c, d, _ => by simp [flatR, Rc.vals]
  | q :: rs, j + 1, a, b, c, d, h => by
    have ih := flatR_set rs j a b c d (by simpa using h)
    have e : ∀ l, flatR (q :: l) = Value.int .i64 q.x0 :: .int .i64 q.y0 :: .int .i64 q.x1 :: .int .i64 q.y1 :: flatR l := fun l => rfl
    have e1 : (j + 1) * 4 = j * 4 + 1 + 1 + 1 + 1 := by omega
    have e2 : (j + 1) * 4 + 1 = (j * 4 + 1) + 1 + 1 + 1 + 1 := by omega
    have e3 : (j + 1) * 4 + 2 = (j * 4 + 2) + 1 + 1 + 1 + 1 := by omega
    have e4 : (j + 1) * 4 + 3 = (j * 4 + 3) + 1 + 1 + 1 + 1 := by omega
    rw [List.set_cons_succ, e, e, e2, e3, e4, e1]
    simp only [List.set_cons_succ]
    rw [ih]

/-- The slice value v is the list rs of rectangles, in a row from block B on (B = 0: wherever). -/
def RL (w : World) (B : Nat) (v : Value) (rs : List Rc) : Prop := w.ownsRow B 60 4 v rs.length (flatR rs)

section
variable {w w' : World} {B B' : Nat} {v : Value} {rs : List Rc}
theorem RL.on (h : RL w B v rs) (hb : Below w.heap.size w w') : RL w' B v rs := own_on h hb
theorem RL.less (h : RL w B v rs) (hB : B' ≤ B) : RL w B' v rs := own_less h hB
theorem RL.nil (w : World) (B : Nat) : RL w B (.slice none 0 0) [] := World.ownsRow_nil w B _ _
theorem RL.form (h : RL w B v rs) : ∃ A cap, v = .slice A rs.length cap ∧ rs.length ≤ cap ∧ cap ≤ maxLen ∧
    (∀ (k : Nat) (r : Rc), rs[k]? = some r → ∃ g, A = some ⟨g, 0, none⟩ ∧ B ≤ g ∧ g < w.heap.size ∧ w.cell? ⟨g, k * 4, none⟩ = some (.int .i64 r.x0) ∧ w.cell? ⟨g, k * 4 + 1, none⟩ = some (.int .i64 r.y0) ∧
      w.cell? ⟨g, k * 4 + 2, none⟩ = some (.int .i64 r.x1) ∧ w.cell? ⟨g, k * 4 + 3, none⟩ = some (.int .i64 r.y1)) := by
  obtain ⟨A, cap, hv, h1, h2, h3⟩ := own_form h
  refine ⟨A, cap, hv, h1, h2, fun k r hk => ?_⟩
  have hlt : k < rs.length := (List.getElem?_eq_some_iff.1 hk).1
  obtain ⟨g, hA, hg, hgw, hc, _⟩ := h3 (by omega)
  obtain ⟨f0, f1, f2, f3⟩ := flatR_get rs k r hk
  exact ⟨g, hA, hg, hgw, hc _ _ f0, hc _ _ f1, hc _ _ f2, hc _ _ f3⟩
/-- The element k of a list, in memory. -/
theorem RL.elem {A : Option Addr} {n c : Nat} (h : RL w B (.slice A n c) rs) {k : Nat} (hk : k < rs.length) : ∃ g x0 y0 x1 y1, A = some ⟨g, 0, none⟩ ∧ rs[k]? = some ⟨x0, y0, x1, y1⟩ ∧ g < w.heap.size ∧
    w.cell? ⟨g, k * 4, none⟩ = some (.int .i64 x0) ∧ w.cell? ⟨g, k * 4 + 1, none⟩ = some (.int .i64 y0) ∧ w.cell? ⟨g, k * 4 + 2, none⟩ = some (.int .i64 x1) ∧ w.cell? ⟨g, k * 4 + 3, none⟩ = some (.int .i64 y1) := by
  obtain ⟨A', c', e, _, _, hf⟩ := h.form
  have hr : rs[k]? = some rs[k] := List.getElem?_eq_getElem hk
  obtain ⟨g, hA, _, hg, h0, h1, h2, h3⟩ := hf k _ hr
  simp only [Value.slice.injEq] at e
  exact ⟨g, rs[k].x0, rs[k].y0, rs[k].x1, rs[k].y1, e.1.trans hA, hr, hg, h0, h1, h2, h3⟩
end

/-- 'list[j] = r', field by field. -/
theorem RL.set4 {w : World} {B g n c : Nat} {rs : List Rc} (h : RL w B (.slice (some ⟨g, 0, none⟩) n c) rs) {j : Nat} (hj : j < rs.length) (x0 y0 x1 y1 : Int) :
    RL ((((w.setCell ⟨g, j * 4, none⟩ (.int .i64 x0)).setCell ⟨g, j * 4 + 1, none⟩ (.int .i64 y0)).setCell ⟨g, j * 4 + 2, none⟩ (.int .i64 x1)).setCell ⟨g, j * 4 + 3, none⟩ (.int .i64 y1)) B (.slice (some ⟨g, 0, none⟩) n c) (rs.set j ⟨x0, y0, x1, y1⟩) := by
  obtain ⟨A, c', e, _, _, _⟩ := h.form
  simp only [Value.slice.injEq] at e
  obtain ⟨_, rfl, _⟩ := e
  unfold RL at h ⊢
  rw [← flatR_set _ _ _ _ _ _ hj, List.length_set]
  exact (((h.stored _ _).1.stored _ _).1.stored _ _).1.stored _ _ |>.1
theorem RL.frozen {w : World} {B g n c : Nat} {rs : List Rc} (h : RL w B (.slice (some ⟨g, 0, none⟩) n c) rs) (j : Nat) : w.frozen? ⟨g, j, none⟩ = false := by
  obtain ⟨A, c', e, _, _, _⟩ := h.form
  simp only [Value.slice.injEq] at e
  obtain ⟨_, rfl, _⟩ := e
  exact World.ownsRow.frozenAt h j
theorem RL.base {w : World} {B g n c : Nat} {rs : List Rc} (h : RL w B (.slice (some ⟨g, 0, none⟩) n c) rs) : B ≤ g ∧ g < w.heap.size := h.lt g rfl

/-- Only block g, and what is new, has turned: a store into block g. -/
theorem only_store {a w : World} {g : Nat} (h : a.grownBy w (some g)) (j : Nat) (u : Value) : a.grownBy (w.setCell ⟨g, j, none⟩ u) (some g) :=
  ⟨h.os, h.tape, h.output, by simpa [World.setCell] using h.size, fun i hi hne => (Below.heap_setCell w _ u i (fun e => hne (by rw [e]))).trans (h.block i hi hne)⟩
theorem only_alloc {a w : World} {row : Option Nat} (h : a.grownBy w row) (o : Obj) : a.grownBy (w.alloc o) row :=
  ⟨h.os, h.tape, h.output, Nat.le_trans h.size (by simp), fun i hi hne => (Below.heap_alloc w o i (Nat.lt_of_lt_of_le hi h.size)).trans (h.block i hi hne)⟩
theorem only_below {a w w' : World} {row : Option Nat} (h : a.grownBy w row) (hb : Below w.heap.size w w') : a.grownBy w' row :=
  ⟨hb.os.trans h.os, hb.tape.trans h.tape, hb.output.trans h.output, Nat.le_trans h.size hb.size, fun i hi hne => (hb.block i (Nat.lt_of_lt_of_le hi h.size)).trans (h.block i hi hne)⟩
theorem only_refl (a : World) (row : Option Nat) : a.grownBy a row := ⟨rfl, rfl, rfl, Nat.le_refl _, fun _ _ _ => rfl⟩
theorem only_drew {a w : World} {row : Option Nat} (h : a.grownBy w row) : a.grownBy w.drew row := ⟨h.os, h.tape, h.output, h.size, h.block⟩
theorem only_drewN {a w : World} {row : Option Nat} (h : a.grownBy w row) (n : Nat) : a.grownBy (w.drewN n) row := ⟨h.os, h.tape, h.output, h.size, h.block⟩
theorem below_drewN {B : Nat} {a w : World} (h : Below B a w) (n : Nat) : Below B a (w.drewN n) := ⟨h.os, h.tape, h.output, h.size, h.block⟩
/-- A block other than the written one, kept. -/
theorem only_bk {a w : World} {g g' : Nat} {t : TypeId} {cs : Array Value} (h : a.grownBy w (some g)) (hb : Bk a g' t cs) (hne : g' ≠ g) : Bk w g' t cs := hb.grown h (by simpa using hne)
theorem only_own {w w' : World} {g B n size : Nat} {e : TypeId} {v : Value} {xs : List Value} (h : w.grownBy w' (some g)) (ho : w.ownsRow B e size v n xs) (hne : v.ownBlock ≠ some g) : w'.ownsRow B e size v n xs := ho.kept h (.inr hne)
theorem only_trans {a w w' : World} {row : Option Nat} (h : a.grownBy w row) (k : w.grownBy w' row) : a.grownBy w' row :=
  ⟨k.os.trans h.os, k.tape.trans h.tape, k.output.trans h.output, Nat.le_trans h.size k.size, fun i hi hne => (k.block i (Nat.lt_of_lt_of_le hi h.size) hne).trans (h.block i hi hne)⟩

/-- A row below block N, kept while one from N on is written. -/
theorem own_far {w w' : World} {B N n size : Nat} {e : TypeId} {v u : Value} {xs : List Value} (h : w.ownsRow B e size v n xs) (hN : ∀ g, v.ownBlock = some g → g < N) (hg : w.grownBy w' u.ownBlock) (hu : ∀ g, u.ownBlock = some g → N ≤ g) : w'.ownsRow B e size v n xs := by
  refine h.kept hg ?_
  cases hv : v.ownBlock with
  | none => exact .inl rfl
  | some g =>
    right
    intro e
    have h1 := hN g hv
    have h2 := hu g e.symm
    omega

/-- What is there behind a law on append, seen from the world before the new element was laid. -/
theorem grown_of_alloc {w w' : World} {o : Obj} {row : Option Nat} (h : (w.alloc o).grownBy w' row) : w.grownBy w' row :=
  ⟨h.os, h.tape, h.output, Nat.le_trans (by simp) h.size, fun k hk hne => (h.block k (by simp; omega) hne).trans (Below.heap_alloc w o k hk)⟩

theorem below_own {w w' : World} {B : Nat} {e : TypeId} {size n : Nat} {v : Value} {xs : List Value} (h : w.ownsRow B e size v n xs) (hg : w.grownBy w' v.ownBlock) (hB : B ≤ w.heap.size) : Below B w w' :=
  (Below.refl B w).grown hg hB fun k hk => (h.lt k hk).1

theorem infoRect : (Tryz.prog.info? 60).map (fun i => (i.zero, i.size, i.bytes)) = some (some (.agg #[.int .i64 0, .int .i64 0, .int .i64 0, .int .i64 0]), 4, 32) := by kernel_rfl
theorem infoInt : (Tryz.prog.info? 2).map (fun i => (i.zero, i.size, i.bytes)) = some (some (.int .i64 0), 1, 8) := by kernel_rfl

/-- 'out = append(out, r)' on a list of rectangles of the call's own. -/
theorem wpList_append_R {w : World} {ops : Array Oper} {rest : List Oper} {o : Oper} {a : Act} {Q : Exit → Act → World → Prop} (hgd : o.guard = none) (s x : Operand)
    (ho : o.op = .call { callee := .builtin .append, args := #[s, x], argTypes := #[38, 38] })
    (B : Nat) (v : Value) (rs : List Rc) (hs : a.eval s = v) (hown : RL w B v rs) (x0 y0 x1 y1 : Int) (hx : a.eval x = .slice (some ⟨w.heap.size, 0, none⟩) 1 1)
    (hlen : rs.length ≤ 1000000) (hB : B ≤ w.heap.size)
    (h : ∀ v' w', RL w' B v' (rs ++ [⟨x0, y0, x1, y1⟩]) → w.grownBy w' v.ownBlock → Below B w w' → wpList Tryz.prog ops Q rest (a.put o.dst v') w') :
    wpList Tryz.prog ops Q (o :: rest) a (w.alloc (.cells #[.int .i64 x0, .int .i64 y0, .int .i64 x1, .int .i64 y1] 60)) := by
  obtain ⟨i, hi, hz, hsz, hby⟩ := info_parts infoRect
  refine wpList_append_own _ hgd s x 38 ho B 60 i _ 4 32 Tryz.underlying38 hi hz hsz hby rfl (by decide) v rs.length (flatR rs) hs (World.ownsRow.alloc hown _) ⟨w.heap.size, 0, none⟩ 1 1
    [.int .i64 x0, .int .i64 y0, .int .i64 x1, .int .i64 y1] hx rfl ?_ ?_ (by simp only [maxLen]; omega) (by omega) (by simp; omega) ?_
  · intro j u hu
    rw [Addr.add_lit, World.cell?_alloc_new]
    simpa using hu
  · intro u hu
    simp at hu
    rcases hu with rfl | rfl | rfl | rfl <;> rfl
  · intro v' w' h1 h2 _
    have h3 := grown_of_alloc h2
    refine h v' w' ?_ h3 (below_own hown h3 hB)
    unfold RL
    rw [flatR_append, flatR_one, List.length_append]
    exact h1

/-! ## Lists of integers -/

def valsI (xs : List Int) : List Value := xs.map (Value.int .i64)
def IL (w : World) (B : Nat) (v : Value) (xs : List Int) : Prop := w.ownsRow B 2 1 v xs.length (valsI xs)

/-! ## Sets of cells -/

/-- Block g is a set of cells: 6400 flags. -/
def GB (w : World) (g : Nat) (t : TypeId) (G : Gr) : Prop := ∃ cs, Bk w g t cs ∧ (6400 ≤ cs.size ∧ (t ≠ 4 → cs.size = 6400)) ∧ ∀ i, i < 6400 → cs[i]? = some (.bool (G i))

section
variable {w w' : World} {g : Nat} {t : TypeId} {G H : Gr}
theorem GB.lt (h : GB w g t G) : g < w.heap.size := let ⟨_, hb, _⟩ := h; hb.lt
theorem GB.on (h : GB w g t G) (hb : Below w.heap.size w w') : GB w' g t G := let ⟨cs, h1, h2⟩ := h; ⟨cs, h1.on hb, h2⟩
theorem GB.below {B : Nat} (h : GB w g t G) (hb : Below B w w') (hg : g < B) : GB w' g t G := let ⟨cs, h1, h2⟩ := h; ⟨cs, h1.below hb hg, h2⟩
theorem GB.alloc (h : GB w g t G) (o : Obj) : GB (w.alloc o) g t G := let ⟨cs, h1, h2⟩ := h; ⟨cs, h1.alloc o, h2⟩
theorem GB.drew (h : GB w g t G) : GB w.drew g t G := h
theorem GB.drewN (h : GB w g t G) (n : Nat) : GB (w.drewN n) g t G := h
theorem GB.cell (h : GB w g t G) {i : Nat} (hi : i < 6400) : w.cell? ⟨g, i, none⟩ = some (.bool (G i)) := let ⟨_, h1, _, h3⟩ := h; (h1.cell i).trans (h3 i hi)
theorem GB.frozen (h : GB w g t G) (i : Nat) : w.frozen? ⟨g, i, none⟩ = false := let ⟨_, h1, _⟩ := h; h1.frozen i
theorem GB.same (h : GB w g t G) (hs : sameG G H) : GB w g t H := let ⟨cs, h1, h2, h3⟩ := h; ⟨cs, h1, h2, fun i hi => by rw [h3 i hi, hs i hi]⟩
theorem GB.store (h : GB w g t G) {j : Nat} (hj : j < 6400) (b : Bool) : GB (w.setCell ⟨g, j, none⟩ (.bool b)) g t (updG G j b) := by
  obtain ⟨cs, h1, h2, h3⟩ := h
  refine ⟨_, h1.store j _, by simpa using h2, fun i hi => ?_⟩
  by_cases e : i = j
  · subst e
    rw [Array.getElem?_setIfInBounds_self_of_lt (by have := h2.1; omega)]
    simp [updG]
  · rw [Array.getElem?_setIfInBounds_ne (fun h => e h.symm), h3 i hi]
    simp [updG, e]
theorem GB.other (h : GB w g t G) {p : Addr} (hp : g ≠ p.block) (u : Value) : GB (w.setCell p u) g t G := let ⟨cs, h1, h2⟩ := h; ⟨cs, h1.other hp u, h2⟩
theorem GB.grown {row : Option Nat} (h : GB w g t G) (hb : w.grownBy w' row) (hg : some g ≠ row) : GB w' g t G := let ⟨cs, h1, h2⟩ := h; ⟨cs, h1.grown hb hg, h2⟩
end

end Go.Proofs.YtgegbgkokkdmpaaGreat

namespace Go.Proofs.YtgegbgkokkdmpaaGreat
open Go.RowKit

/-- lo ≤ x ≤ hi. -/
def inB (lo x hi : Int) : Bool := decide (lo ≤ x ∧ x ≤ hi)
theorem inB_iff (lo x hi : Int) : inB lo x hi = true ↔ lo ≤ x ∧ x ≤ hi := by simp [inB]
theorem inB_no (lo x hi : Int) : inB lo x hi = false ↔ ¬ (lo ≤ x ∧ x ≤ hi) := by simp only [inB, decide_eq_false_iff_not]

/-- within. -/
theorem within_any (x lo hi : Int) (w : World) : Calls Tryz.prog 35 #[.int .i64 x, .int .i64 lo, .int .i64 hi] w fun e w' => e = .returned (.bool (inB lo x hi)) ∧ w = w' := by
  go_enter Tryz.func35, Tryz.ntmps35
  go_wp2
  all_goals
    go_ret
    refine ⟨?_, rfl⟩
    simp [inB, *] <;> omega

/-- l01In. -/
theorem l01In_any (x lo hi : Int) (w : World) : Calls Tryz.prog 82 #[.int .i64 x, .int .i64 lo, .int .i64 hi] w fun e w' => e = .returned (.bool (inB lo x hi)) ∧ w = w' := by
  go_enter Tryz.func82, Tryz.ntmps82
  go_wp2
  all_goals
    go_ret
    refine ⟨?_, rfl⟩
    simp [inB, *] <;> omega

theorem okRc_no {r : Rc} (h : ¬ (-40 ≤ r.x0 ∧ r.x0 < r.x1 ∧ r.x1 ≤ 40 ∧ -40 ≤ r.y0 ∧ r.y0 < r.y1 ∧ r.y1 ≤ 40)) : okRc r = false := decide_eq_false h
theorem okRc_yes {r : Rc} (h : -40 ≤ r.x0 ∧ r.x0 < r.x1 ∧ r.x1 ≤ 40 ∧ -40 ≤ r.y0 ∧ r.y0 < r.y1 ∧ r.y1 ≤ 40) : okRc r = true := decide_eq_true h
theorem ret_bool {a b : Bool} (h : a = b) : Ending.returned (.bool a) = .returned (.bool b) := by rw [h]

/-- The program's IsValidRect. -/
theorem valid_impl (r : Rc) (w : World) : Calls Tryz.prog 55 #[r.val] w fun e w' => e = .returned (.bool (okRc r)) ∧ Below w.heap.size w w' := by
  obtain ⟨x0, y0, x1, y1⟩ := r
  unfold Rc.val
  go_enter Tryz.func55, Tryz.ntmps55
  go_wp2
  all_goals
    go_ret
    refine ⟨ret_bool ?_, (Below.refl _ _).alloc (Nat.le_refl _) _⟩
    simp [okRc, *] <;> omega

/-- A box of four cells. -/
theorem box4 {w : World} {g : Nat} {t : TypeId} {a b c d : Value} (h : Bk w g t #[a, b, c, d]) : w.cell? ⟨g, 0, none⟩ = some a ∧ w.cell? ⟨g, 1, none⟩ = some b ∧ w.cell? ⟨g, 2, none⟩ = some c ∧ w.cell? ⟨g, 3, none⟩ = some d :=
  ⟨h.cell 0, h.cell 1, h.cell 2, h.cell 3⟩
theorem box2 {w : World} {g : Nat} {t : TypeId} {a b : Value} (h : Bk w g t #[a, b]) : w.cell? ⟨g, 0, none⟩ = some a ∧ w.cell? ⟨g, 1, none⟩ = some b := ⟨h.cell 0, h.cell 1⟩

theorem l03At_any (x y : Int) (h : -1000 ≤ x ∧ x ≤ 1000 ∧ -1000 ≤ y ∧ y ≤ 1000) (w : World) : Calls Tryz.prog 51 #[.int .i64 x, .int .i64 y] w fun e w' => e = .returned (.int .i64 (ix x y)) ∧ w = w' := by
  unfold ix
  go_enter Tryz.func51, Tryz.ntmps51
  go_wp2
  go_ret
  exact ⟨rfl, rfl⟩

/-- A set of flags that a slice leads to, in a block from B on. -/
def GS (w : World) (B : Nat) (v : Value) (G : Gr) : Prop := ∃ g c, v = .slice (some ⟨g, 0, none⟩) 6400 c ∧ B ≤ g ∧ GB w g 4 G
theorem GS.on {w w' : World} {B : Nat} {v : Value} {G : Gr} (h : GS w B v G) (hb : Below w.heap.size w w') : GS w' B v G := let ⟨g, c, hv, hB, h1⟩ := h; ⟨g, c, hv, hB, h1.on hb⟩
theorem GS.less {w : World} {B B' : Nat} {v : Value} {G : Gr} (h : GS w B v G) (hB' : B' ≤ B) : GS w B' v G := let ⟨g, c, hv, hB, h1⟩ := h; ⟨g, c, hv, Nat.le_trans hB' hB, h1⟩

/-- isUnitCell. -/
theorem isUnitCell_any (x y : Int) (w : World) : Calls Tryz.prog 103 #[.agg #[.int .i64 x, .int .i64 y]] w fun e w' => e = .returned (.bool (onC x y)) ∧ Below w.heap.size w w' := by
  have h0 : Below w.heap.size w (w.alloc (.cells #[.int .i64 x, .int .i64 y] 107)) := (Below.refl _ _).alloc (Nat.le_refl _) _
  by_cases hx : inB (-40) x 39 = true
  · go_enter Tryz.func103, Tryz.ntmps103
    go_wp2_with (go_at_call 35; refine (within_any _ _ _ _).mono ?_; rintro e w' ⟨rfl, rfl⟩)
    go_ret
    refine ⟨ret_bool ?_, h0⟩
    rw [inB_iff] at hx
    simp [onC, inB, hx]
  · have hx' : inB (-40) x 39 = false := by simpa using hx
    clear hx
    go_enter Tryz.func103, Tryz.ntmps103
    go_wp2_with (go_at_call 35; refine (within_any _ _ _ _).mono ?_; rintro e w' ⟨rfl, rfl⟩)
    go_ret
    refine ⟨ret_bool ?_, h0⟩
    have h9 := (inB_no _ _ _).1 hx'
    exact (onC_no (by omega)).symm

theorem onC_of_in {x y : Int} : inB (-40) x 39 = true → inB (-40) y 39 = true → onC x y = true := by
  intro h1 h2
  rw [inB_iff] at h1 h2
  rw [onC_iff]
  omega

theorem GB.at_ {w : World} {g : Nat} {t : TypeId} {G : Gr} (h : GB w g t G) {x y : Int} (hc : onC x y = true) : w.cell? ⟨g, (y + 40).toNat * 80 + (x + 40).toNat, none⟩ = some (.bool (G (ix x y).toNat)) := by
  obtain ⟨e, hl⟩ := ix_nat hc
  rw [e]
  exact h.cell hl
/-- The flag of a unit cell, as the reference reckons its index. -/
theorem GB.ix_ {w : World} {g : Nat} {G : Gr} (h : GB w g 4 G) {x y : Int} (hc : onC x y = true) : w.cell? ⟨g, (ix x y).toNat, none⟩ = some (.bool (G (ix x y).toNat)) := by
  obtain ⟨e, hl⟩ := ix_nat hc
  rw [← e] at hl
  exact h.cell hl

/-- l03Has. -/
theorem l03Has_any (v : Value) (G : Gr) (x y : Int) (w : World) (hG : GS w 0 v G) :
    Calls Tryz.prog 72 #[v, .int .i64 x, .int .i64 y] w fun e w' => e = .returned (.bool (hasG G x y)) ∧ w = w' := by
  obtain ⟨g, c, rfl, -, hg⟩ := hG
  by_cases h : onC x y = true
  · have hh := (onC_iff x y).1 h
    have hi1 : inB (-40) x 39 = true := (inB_iff _ _ _).2 (by omega)
    have hi2 : inB (-40) y 39 = true := (inB_iff _ _ _).2 (by omega)
    have hc := hg.ix_ h
    have hb : 0 ≤ ix x y ∧ ix x y < 6400 := by unfold ix; omega
    have Hh := Lib.hid h
    clear h hg
    go_enter Tryz.func72, Tryz.ntmps72
    go_wp2_with (first | (go_at_call 82; refine (l01In_any _ _ _ _).mono ?_; rintro e w1 ⟨rfl, rfl⟩) | (go_at_call 51; refine (l03At_any x y (by omega) _).mono ?_; rintro e w1 ⟨rfl, rfl⟩))
    go_ret
    exact ⟨ret_bool (hasG_on Hh.out).symm, rfl⟩
  · have h' : onC x y = false := by simpa using h
    clear h
    by_cases hx : inB (-40) x 39 = true
    · have hy : inB (-40) y 39 = false := by
        rw [inB_no]
        rw [inB_iff] at hx
        intro hy
        rw [(onC_iff x y).2 (by omega)] at h'
        cases h'
      go_enter Tryz.func72, Tryz.ntmps72
      go_wp2_with (go_at_call 82; refine (l01In_any _ _ _ _).mono ?_; rintro e w1 ⟨rfl, rfl⟩)
      go_ret
      exact ⟨ret_bool (hasG_off h').symm, rfl⟩
    · have hx' : inB (-40) x 39 = false := by simpa using hx
      clear hx
      go_enter Tryz.func72, Tryz.ntmps72
      go_wp2_with (go_at_call 82; refine (l01In_any _ _ _ _).mono ?_; rintro e w1 ⟨rfl, rfl⟩)
      go_ret
      exact ⟨ret_bool (hasG_off h').symm, rfl⟩

end Go.Proofs.YtgegbgkokkdmpaaGreat

namespace Go.Proofs.YtgegbgkokkdmpaaGreat
open Go.RowKit

section
variable {P : Program} (w : World)
@[go_sem high] theorem run_max_i (ts : Array TypeId) (t : TypeId) (k k' : IntKind) (x y : Int) : (Builtin.max_ ts t #[.int k x, .int k' y]).run P w = .ok (.int k (max x y)) w := by
  rw [run_max_int2]
  have e : (if y > x then y else x) = max x y := by split <;> omega
  rw [e]
@[go_sem high] theorem run_min_i (ts : Array TypeId) (t : TypeId) (k k' : IntKind) (x y : Int) : (Builtin.min_ ts t #[.int k x, .int k' y]).run P w = .ok (.int k (min x y)) w := by
  rw [run_min_int2]
  have e : (if y < x then y else x) = min x y := by split <;> omega
  rw [e]
end

/-- Two rectangles are equal. -/
def eqRc (p q : Rc) : Bool := decide (p = q)
theorem eqRc_iff (p q : Rc) : eqRc p q = true ↔ p = q := by simp [eqRc]
theorem eqRc_no (p q : Rc) : eqRc p q = false ↔ p ≠ q := by simp [eqRc]

theorem run_equal_R (a b c d a' b' c' d' : Int) (w : World) :
    (Op.equalIn 10000 60 (.agg #[.int .i64 a, .int .i64 b, .int .i64 c, .int .i64 d]) (.agg #[.int .i64 a', .int .i64 b', .int .i64 c', .int .i64 d'])).run Tryz.prog w = .ok (eqRc ⟨a, b, c, d⟩ ⟨a', b', c', d'⟩) w := by
  by_cases h0 : a = a'
  · by_cases h1 : b = b'
    · by_cases h2 : c = c'
      · by_cases h3 : d = d'
        · simp [go_sem, eqRc, h0, h1, h2, h3]
        · simp [go_sem, eqRc, h0, h1, h2, h3]
      · simp [go_sem, eqRc, h0, h1, h2]
    · simp [go_sem, eqRc, h0, h1]
  · simp [go_sem, eqRc, h0]

@[go_sem high] theorem run_neq_R (a b c d a' b' c' d' : Int) (w : World) :
    (binOp .neq 60 (.agg #[.int .i64 a, .int .i64 b, .int .i64 c, .int .i64 d]) (.agg #[.int .i64 a', .int .i64 b', .int .i64 c', .int .i64 d'])).run Tryz.prog w = .ok (.bool (!eqRc ⟨a, b, c, d⟩ ⟨a', b', c', d'⟩)) w := by
  rw [run_neq_struct, run_equal_R]
  rfl
@[go_sem high] theorem run_eql_R (a b c d a' b' c' d' : Int) (w : World) :
    (binOp .eql 60 (.agg #[.int .i64 a, .int .i64 b, .int .i64 c, .int .i64 d]) (.agg #[.int .i64 a', .int .i64 b', .int .i64 c', .int .i64 d'])).run Tryz.prog w = .ok (.bool (eqRc ⟨a, b, c, d⟩ ⟨a', b', c', d'⟩)) w := by
  rw [run_eql_struct, run_equal_R]
  rfl

end Go.Proofs.YtgegbgkokkdmpaaGreat

namespace Go.Proofs.YtgegbgkokkdmpaaGreat
open Go.RowKit

/-- The four cells of an element that is known. -/
theorem RL.four {w : World} {B g n c : Nat} {rs : List Rc} (h : RL w B (.slice (some ⟨g, 0, none⟩) n c) rs) {k : Nat} {x0 y0 x1 y1 : Int} (hr : rs[k]? = some ⟨x0, y0, x1, y1⟩) :
    w.cell? ⟨g, k * 4, none⟩ = some (.int .i64 x0) ∧ w.cell? ⟨g, k * 4 + 1, none⟩ = some (.int .i64 y0) ∧ w.cell? ⟨g, k * 4 + 2, none⟩ = some (.int .i64 x1) ∧ w.cell? ⟨g, k * 4 + 3, none⟩ = some (.int .i64 y1) := by
  obtain ⟨A', c', e, _, _, hf⟩ := h.form
  simp only [Value.slice.injEq] at e
  obtain ⟨g', hA, _, hg, h0, h1, h2, h3⟩ := hf k _ hr
  rw [← e.1] at hA
  simp only [Option.some.injEq, Addr.mk.injEq, and_true] at hA
  subst hA
  exact ⟨h0, h1, h2, h3⟩

def validL (rs : List Rc) : Bool := decide (rs.length ≤ 3200) && okAll rs
theorem validL_iff (rs : List Rc) : validL rs = true ↔ rs.length ≤ 3200 ∧ okAll rs = true := by simp [validL]
theorem okAll_take_succ {rs : List Rc} {k : Nat} {r : Rc} (h : rs[k]? = some r) : okAll (rs.take (k + 1)) = (okAll (rs.take k) && okRc r) := by
  rw [List.take_add_one, h]
  simp [okAll, List.all_append]
theorem okAll_no {rs : List Rc} {k : Nat} {r : Rc} (h : rs[k]? = some r) (hr : okRc r = false) : okAll rs = false := by
  rw [Bool.eq_false_iff]
  intro hall
  rw [okAll, List.all_eq_true] at hall
  have := hall r (List.mem_of_getElem? h)
  rw [hr] at this
  cases this
theorem okAll_get {rs : List Rc} (h : okAll rs = true) {k : Nat} {r : Rc} (hk : rs[k]? = some r) : okRc r = true := by
  rw [okAll, List.all_eq_true] at h
  exact h r (List.mem_of_getElem? hk)

set_option maxHeartbeats 400000 in
/-- validRects. -/
theorem validRects_any (v : Value) (rs : List Rc) (w : World) (hv : RL w 0 v rs) : Calls Tryz.prog 62 #[v] w fun e w' => e = .returned (.bool (validL rs)) ∧ Below w.heap.size w w' := by
  obtain ⟨A, c, rfl, hc, hm, -⟩ := hv.form
  by_cases h32 : rs.length ≤ 3200
  · go_enter Tryz.func62, Tryz.ntmps62
    go_wp2
    go_loopw [10] (fun i wr => ∃ k : Nat, k ≤ rs.length ∧ i = .int .i64 k ∧ Hid (okAll (rs.take k) = true) ∧ Below w.heap.size w wr) (fun i _ => rs.length - (intOf i).toNat)
    case atStart => exact ⟨0, Nat.zero_le _, rfl, Lib.hid rfl, Below.refl _ _⟩
    case round =>
      obtain ⟨k, hk, rfl, hok, hb⟩ := hrel
      by_cases hlt : k < rs.length
      · obtain ⟨g, x0, y0, x1, y1, rfl, hr, hg, f0, f1, f2, f3⟩ := (hv.on hb).elem hlt
        have Hr := Lib.hid hr
        clear hr
        go_wp2_with (go_at_call 55; refine (valid_impl ⟨x0, y0, x1, y1⟩ _).mono ?_; rintro e w1 ⟨rfl, hb1⟩)
        · have h0 : (!okRc ⟨x0, y0, x1, y1⟩) = true := by assumption
          go_ret
          refine ⟨ret_bool ?_, (hb.alloc hb.size _).trans (hb1.mono (by simp; have := hb.size; omega))⟩
          rw [validL, okAll_no Hr.out (by simpa using h0), Bool.and_false]
        · have h0 : (!okRc ⟨x0, y0, x1, y1⟩) = false := by assumption
          refine ⟨⟨k + 1, by omega, by go_num, Lib.hid ?_, (hb.alloc hb.size _).trans (hb1.mono (by simp; have := hb.size; omega))⟩, by simp [intOf]; omega⟩
          rw [okAll_take_succ Hr.out, hok.out]
          simpa using h0
      · go_wp2
        go_ret
        refine ⟨ret_bool ?_, hb⟩
        have := hok.out
        rw [List.take_of_length_le (by omega)] at this
        simp [validL, h32, this]
  · go_enter Tryz.func62, Tryz.ntmps62
    go_wp2
    go_ret
    exact ⟨ret_bool (by simp [validL, h32]), Below.refl _ _⟩

/-- Two lists are equal. -/
def eqL (rs qs : List Rc) : Bool := decide (rs = qs)
theorem eqL_iff (rs qs : List Rc) : eqL rs qs = true ↔ rs = qs := by simp [eqL]
theorem take_succ_eq {α : Type} {a b : List α} {k : Nat} {x y : α} (h : a.take k = b.take k) (ha : a[k]? = some x) (hb : b[k]? = some y) (e : x = y) : a.take (k + 1) = b.take (k + 1) := by
  rw [List.take_add_one, List.take_add_one, h, ha, hb, e]
theorem ne_at {α : Type} {a b : List α} {k : Nat} {x y : α} (ha : a[k]? = some x) (hb : b[k]? = some y) (e : x ≠ y) : a ≠ b := by
  rintro rfl
  rw [ha] at hb
  exact e (Option.some.inj hb)

set_option maxHeartbeats 400000 in
set_option maxRecDepth 100000 in
/-- slices.Equal. -/
theorem slicesEqual_any (v u : Value) (rs qs : List Rc) (w : World) (hv : RL w 0 v rs) (hu : RL w 0 u qs) : Calls Tryz.prog 63 #[v, u] w fun e w' => e = .returned (.bool (eqL rs qs)) ∧ Below w.heap.size w w' := by
  obtain ⟨A, c, rfl, hc, hm, -⟩ := hv.form
  obtain ⟨A2, c2, rfl, hc2, hm2, -⟩ := hu.form
  unfold maxLen at hm hm2
  by_cases hl : rs.length = qs.length
  · have Hl := Lib.hid hl
    rw [hl] at hc ⊢
    clear hl
    go_enter Tryz.func63, Tryz.ntmps63
    go_wp2
    go_loopw [13] (fun i wr => ∃ k : Nat, k ≤ qs.length ∧ i = .int .i64 k ∧ Hid (rs.take k = qs.take k) ∧ Below w.heap.size w wr) (fun i _ => qs.length - (intOf i).toNat)
    case atStart => exact ⟨0, Nat.zero_le _, rfl, Lib.hid rfl, Below.refl _ _⟩
    case round =>
      obtain ⟨k, hk, rfl, hok, hb⟩ := hrel
      by_cases hlt : k < qs.length
      · obtain ⟨g, x0, y0, x1, y1, hA, hr, hg, f0, f1, f2, f3⟩ := (hv.on hb).elem (k := k) (by rw [Hl.out]; exact hlt)
        obtain ⟨g', x0', y0', x1', y1', hA', hr', hg', f0', f1', f2', f3'⟩ := (hu.on hb).elem hlt
        subst hA hA'
        have Hr := Lib.hid hr
        have Hr' := Lib.hid hr'
        clear hr hr' hv hu
        go_wp2
        go_quiet (fail)
        go_wp2
        · have h0 : (!eqRc ⟨x0, y0, x1, y1⟩ ⟨x0', y0', x1', y1'⟩) = true := by assumption
          go_ret
          refine ⟨ret_bool ?_, below_drewN hb _⟩
          have hne := (eqRc_no _ _).1 (by simpa using h0)
          exact (decide_eq_false (ne_at Hr.out Hr'.out hne)).symm
        · have h0 : (!eqRc ⟨x0, y0, x1, y1⟩ ⟨x0', y0', x1', y1'⟩) = false := by assumption
          have heq := (eqRc_iff _ _).1 (by simpa using h0)
          refine ⟨⟨k + 1, by omega, by go_num, Lib.hid (take_succ_eq hok.out Hr.out Hr'.out heq), below_drewN hb _⟩, by simp [intOf]; omega⟩
      · go_wp2
        go_ret
        refine ⟨ret_bool ?_, hb⟩
        have h1 := hok.out
        have h2 := Hl.out
        rw [List.take_of_length_le (by omega), List.take_of_length_le (by omega)] at h1
        simp [eqL, h1]
  · have hne : ((rs.length : Int) != (qs.length : Int)) = true := by rw [bne_iff_ne]; omega
    go_enter Tryz.func63, Tryz.ntmps63
    go_wp2
    go_ret
    refine ⟨ret_bool ?_, Below.refl _ _⟩
    exact (decide_eq_false (fun e => hl (by rw [e]))).symm

end Go.Proofs.YtgegbgkokkdmpaaGreat

namespace Go.Proofs.YtgegbgkokkdmpaaGreat
open Go.RowKit

theorem GB.cong {w : World} {g : Nat} {t : TypeId} {G H : Gr} (h : GB w g t G) (e : G = H) : GB w g t H := e ▸ h

def noCells : Array Value := madeCells #[.bool false] 6400
theorem noCells_size : noCells.size = 6400 := size_madeCells _ _
theorem noCells_get (i : Nat) (h : i < 6400) : noCells[i]? = some (.bool false) := by
  have h1 : noCells.toList = List.replicate 6400 (.bool false) := toList_madeCells_one _ _
  rw [← Array.getElem?_toList, h1, List.getElem?_replicate, if_pos h]
theorem GB.made (w : World) (t : TypeId) : GB (w.alloc (.cells noCells t)) w.heap.size t emptyG := ⟨noCells, Bk.new w t _, ⟨Nat.le_of_eq noCells_size.symm, fun _ => noCells_size⟩, noCells_get⟩

theorem infoBool : (Tryz.prog.info? 4).map (fun i => (i.zero, i.size, i.bytes)) = some (some (.bool false), 1, 1) := by kernel_rfl
theorem run_make_6400 (w : World) : (Instr.makeSlice 83 (.int .i64 6400) (.int .i64 6400)).run Tryz.prog w = .ok (.slice (some ⟨w.heap.size, 0, none⟩) 6400 6400) (w.alloc (.cells noCells 4)) := by
  obtain ⟨i, hi, hz, hsz, hby⟩ := info_parts infoBool
  have := run_make (P := Tryz.prog) w 83 4 i (.bool false) Tryz.underlying83 hi hz .i64 .i64 6400 6400 (by omega) (by omega) (by rw [hby]; decide) (by omega)
  rw [this, hsz]
  rfl

theorem orR_step {G : Gr} {x0 x y : Int} (h2 : -40 ≤ x0) (h3 : x0 ≤ x) (hc : onC x y = true) : updG (orR G ⟨x0, y, x, y + 1⟩) (ix x y).toNat true = orR G ⟨x0, y, x + 1, y + 1⟩ := by
  rw [onC_iff] at hc
  exact orR_cell G x0 x y h2 h3 (by omega) _ (by unfold ix; omega)

theorem cellsG_take_succ {rs : List Rc} {k : Nat} {r : Rc} (h : rs[k]? = some r) : cellsG (rs.take (k + 1)) = orR (cellsG (rs.take k)) r := by
  rw [List.take_add_one, h]
  exact cellsG_snoc _ _

set_option maxHeartbeats 800000 in
set_option maxRecDepth 100000 in
/-- l03Bits. -/
theorem l03Bits_any (v : Value) (rs : List Rc) (w : World) (hv : RL w 0 v rs) (hok : okAll rs = true) : Calls Tryz.prog 31 #[v] w fun e w' => ∃ u, e = .returned u ∧ GS w' w.heap.size u (cellsG rs) ∧ Below w.heap.size w w' := by
  obtain ⟨A, c, rfl, hc, hm, -⟩ := hv.form
  have Hok := Lib.hid hok
  clear hok
  have hm' : rs.length ≤ 9223372036854775807 := by unfold maxLen at hm; omega
  have hmk := run_make_6400
  have g0 := GB.made w 4
  have b0 : Below w.heap.size w (w.alloc (.cells noCells 4)) := (Below.refl _ _).alloc (Nat.le_refl _) _
  go_enter Tryz.func31, Tryz.ntmps31
  go_wp2
  clear hmk
  go_loopw [4] (fun i wr => ∃ k : Nat, k ≤ rs.length ∧ i = .int .i64 k ∧ GB wr w.heap.size 4 (cellsG (rs.take k)) ∧ Below w.heap.size w wr) (fun i _ => rs.length - (intOf i).toNat)
  case atStart => exact ⟨0, Nat.zero_le _, rfl, g0, b0⟩
  case round =>
    obtain ⟨k, hk, rfl, hG, hb⟩ := hrel
    clear g0 b0
    by_cases hlt : k < rs.length
    · obtain ⟨g, x0, y0, x1, y1, rfl, hr, hg, f0, f1, f2, f3⟩ := (hv.on hb).elem hlt
      have Hr := Lib.hid hr
      have hval := (okRc_iff _).1 (okAll_get Hok.out hr)
      dsimp only at hval
      clear hr
      have hgw : g < w.heap.size := (own_lt hv g rfl).2
      go_wp2
      go_loopw [5] (fun yv wi => ∃ y : Int, y0 ≤ y ∧ y ≤ y1 ∧ yv = .int .i64 y ∧ GB wi w.heap.size 4 (orR (cellsG (rs.take k)) ⟨x0, y0, x1, y⟩) ∧ Below w.heap.size w wi) (fun yv _ => (40 - intOf yv).toNat)
      case atStart => exact ⟨y0, by omega, by omega, rfl, by rw [orR_empty _ _ (.inr (Int.le_refl _))]; exact hG, hb⟩
      case round =>
        obtain ⟨y, hy0, hy1, rfl, hG', hb'⟩ := hrel
        clear f0 f1 f2 f3 hG hb
        obtain ⟨f0, f1, f2, f3⟩ := (hv.on hb').four Hr.out
        by_cases hy : y < y1
        · go_wp2
          go_loopw [6] (fun xv wj => ∃ x : Int, x0 ≤ x ∧ x ≤ x1 ∧ xv = .int .i64 x ∧ GB wj w.heap.size 4 (orR (orR (cellsG (rs.take k)) ⟨x0, y0, x1, y⟩) ⟨x0, y, x, y + 1⟩) ∧ Below w.heap.size w wj) (fun xv _ => (40 - intOf xv).toNat)
          case atStart => exact ⟨x0, by omega, by omega, rfl, by rw [orR_empty _ ⟨x0, y, x0, y + 1⟩ (.inl (Int.le_refl _))]; exact hG', hb'⟩
          case round =>
            obtain ⟨x, hx0, hx1, rfl, hG2, hb2⟩ := hrel
            clear f0 f1 f2 f3 hG' hb'
            obtain ⟨f0, f1, f2, f3⟩ := (hv.on hb2).four Hr.out
            by_cases hx : x < x1
            · have hon : onC x y = true := (onC_iff x y).2 (by omega)
              have hc := hG2.ix_ hon
              have hz := hG2.frozen (ix x y).toNat
              have hi : 0 ≤ ix x y ∧ ix x y < 6400 := by unfold ix; omega
              have Hon := Lib.hid hon
              clear hon
              go_wp2_with (go_at_call 51; refine (l03At_any x y (by omega) _).mono ?_; rintro e w1 ⟨rfl, rfl⟩)
              refine ⟨⟨x + 1, by omega, by omega, rfl, ?_, hb2.setCell (Nat.le_refl _) _⟩, by simp [intOf]; omega⟩
              exact (hG2.store (by omega) true).cong (orR_step (by omega) hx0 Hon.out)
            · go_wp2
              have hxe : x = x1 := by omega
              refine ⟨⟨y + 1, by omega, by omega, rfl, ?_, hb2⟩, by simp [intOf]; omega⟩
              rw [hxe] at hG2
              exact hG2.cong (orR_row _ _ _ _ _ hy0)
        · go_wp2
          have hye : y = y1 := by omega
          refine ⟨⟨k + 1, by omega, by go_num, ?_, hb'⟩, by simp [intOf]; omega⟩
          rw [hye] at hG'
          exact hG'.cong (cellsG_take_succ Hr.out).symm
    · go_wp2
      go_ret
      have : k = rs.length := by omega
      subst this
      rw [List.take_length] at hG
      exact ⟨_, rfl, ⟨_, _, rfl, Nat.le_refl _, hG⟩, hb⟩

end Go.Proofs.YtgegbgkokkdmpaaGreat

namespace Go.Proofs.YtgegbgkokkdmpaaGreat
open Go.RowKit

theorem orR_endY {G : Gr} {x0 x1 a b y : Int} (h : y = a ∨ y ≤ b) (hb : b ≤ y) : orR G ⟨x0, a, x1, y⟩ = orR G ⟨x0, a, x1, b⟩ := by
  funext i
  have : inR ⟨x0, a, x1, y⟩ i = inR ⟨x0, a, x1, b⟩ i := by
    rw [Bool.eq_iff_iff]
    simp only [inR_iff]
    omega
  simp only [orR, this]
theorem orR_endX {G : Gr} {a b x y0 y1 : Int} (h : x = a ∨ x ≤ b) (hb : b ≤ x) : orR G ⟨a, y0, x, y1⟩ = orR G ⟨a, y0, b, y1⟩ := by
  funext i
  have : inR ⟨a, y0, x, y1⟩ i = inR ⟨a, y0, b, y1⟩ i := by
    rw [Bool.eq_iff_iff]
    simp only [inR_iff]
    omega
  simp only [orR, this]
/-- A rectangle, clipped. -/
def clipR (r : Rc) : Rc := ⟨max r.x0 (-40), max r.y0 (-40), min r.x1 40, min r.y1 40⟩

set_option maxHeartbeats 800000 in
set_option maxRecDepth 100000 in
/-- put. -/
theorem put_any (g : Nat) (G : Gr) (r : Rc) (w : World) (hG : GB w g 97 G) :
    Calls Tryz.prog 61 #[.pointer (some ⟨g, 0, none⟩), r.val] w fun e w' => e = .returned (.tuple #[]) ∧ GB w' g 97 (orR G r) ∧ w.grownBy w' (some g) := by
  obtain ⟨x0, y0, x1, y1⟩ := r
  unfold Rc.val
  dsimp only
  have hclip : ∀ i, i < 6400 → orR G (clipR ⟨x0, y0, x1, y1⟩) i = orR G ⟨x0, y0, x1, y1⟩ i := fun i hi => orR_clip G ⟨x0, y0, x1, y1⟩ i hi
  have Hclip := Lib.hid hclip
  clear hclip
  have hgl := hG.lt
  have g0 := hG.alloc (.cells #[.int .i64 x0, .int .i64 y0, .int .i64 x1, .int .i64 y1] 60)
  have b0 : Bk (w.alloc (.cells #[.int .i64 x0, .int .i64 y0, .int .i64 x1, .int .i64 y1] 60)) w.heap.size 60 #[.int .i64 x0, .int .i64 y0, .int .i64 x1, .int .i64 y1] := Bk.new w _ _
  have o0 : w.grownBy (w.alloc (.cells #[.int .i64 x0, .int .i64 y0, .int .i64 x1, .int .i64 y1] 60)) (some g) := World.grownBy_alloc w _ _
  go_enter Tryz.func61, Tryz.ntmps61
  go_wp2
  go_loopw [4] (fun yv wr => ∃ y : Int, max y0 (-40) ≤ y ∧ (y = max y0 (-40) ∨ y ≤ min y1 40) ∧ yv = .int .i64 y ∧ GB wr g 97 (orR G ⟨max x0 (-40), max y0 (-40), min x1 40, y⟩) ∧ Bk wr w.heap.size 60 #[.int .i64 x0, .int .i64 y0, .int .i64 x1, .int .i64 y1] ∧ w.grownBy wr (some g)) (fun yv _ => (40 - intOf yv).toNat)
  case atStart => exact ⟨_, by omega, .inl rfl, rfl, by rw [orR_empty _ _ (.inr (Int.le_refl _))]; exact g0, b0, o0⟩
  case round =>
    obtain ⟨y, hy0, hy1, rfl, hG1, hB1, hO1⟩ := hrel
    have Hy1 := Lib.hid hy1
    clear g0 b0 o0 hy1
    obtain ⟨f0, f1, f2, f3⟩ := box4 hB1
    by_cases hy : y < min y1 40
    · go_wp2
      go_loopw [5] (fun xv wj => ∃ x : Int, max x0 (-40) ≤ x ∧ Hid (x = max x0 (-40) ∨ x ≤ min x1 40) ∧ xv = .int .i64 x ∧ GB wj g 97 (orR (orR G ⟨max x0 (-40), max y0 (-40), min x1 40, y⟩) ⟨max x0 (-40), y, x, y + 1⟩) ∧ Bk wj w.heap.size 60 #[.int .i64 x0, .int .i64 y0, .int .i64 x1, .int .i64 y1] ∧ w.grownBy wj (some g)) (fun xv _ => (40 - intOf xv).toNat)
      case atStart => exact ⟨_, by omega, Lib.hid (.inl rfl), rfl, by rw [orR_empty _ ⟨_, y, _, y + 1⟩ (.inl (Int.le_refl _))]; exact hG1, hB1, hO1⟩
      case round =>
        obtain ⟨x, hx0, hx1, rfl, hG2, hB2, hO2⟩ := hrel
        clear f0 f1 f2 f3 hG1 hB1 hO1
        obtain ⟨f0, f1, f2, f3⟩ := box4 hB2
        by_cases hx : x < min x1 40
        · have hon : onC x y = true := (onC_iff x y).2 (by omega)
          have hc := hG2.at_ hon
          have hz := hG2.frozen ((y + 40).toNat * 80 + (x + 40).toNat)
          have Hon := Lib.hid hon
          have hi0 : 0 ≤ y + 40 ∧ y + 40 < 80 := by omega
          have hi1 : 0 ≤ x + 40 ∧ x + 40 < 80 := by omega
          clear hon
          go_wp2
          refine ⟨⟨x + 1, by omega, Lib.hid (.inr (by omega)), rfl, ?_, hB2.other (by show w.heap.size ≠ g; omega) _, only_store hO2 _ _⟩, by simp [intOf]; omega⟩
          obtain ⟨e, hl⟩ := ix_nat Hon.out
          rw [← e] at hl ⊢
          exact (hG2.store hl true).cong (orR_step (by omega) hx0 Hon.out)
        · go_wp2
          refine ⟨⟨y + 1, by omega, .inr (by omega), rfl, ?_, hB2, hO2⟩, by simp [intOf]; omega⟩
          rw [orR_endX hx1.out (by omega)] at hG2
          exact hG2.cong (orR_row _ _ _ _ _ hy0)
    · go_wp2
      go_end0
      refine ⟨rfl, ?_, hO1⟩
      rw [orR_endY Hy1.out (by omega)] at hG1
      exact hG1.same Hclip.out

def isNo : Value → Bool | .bool b => !b | _ => false
theorem zero_all : Tryz.zeroCells97.toList.all isNo = true := by kernel_rfl
theorem zero_get (i : Nat) (h : i < 6400) : Tryz.zeroCells97[i]? = some (.bool false) := by
  have hs := Tryz.zeroCells97_size
  have hi : i < Tryz.zeroCells97.size := by rw [hs]; exact h
  have h1 : Tryz.zeroCells97[i]? = some (Tryz.zeroCells97[i]'hi) := Array.getElem?_eq_getElem hi
  have h2 := List.all_eq_true.1 zero_all (Tryz.zeroCells97[i]'hi) (by rw [Array.mem_toList_iff]; exact Array.getElem_mem hi)
  rw [h1]
  generalize Tryz.zeroCells97[i]'hi = v at h2
  cases v <;> simp [isNo] at h2
  simp [h2]
theorem GB.zero (w : World) (t : TypeId) : GB (w.alloc (.cells Tryz.zeroCells97 t)) w.heap.size t emptyG := ⟨_, Bk.new w t _, ⟨Nat.le_of_eq Tryz.zeroCells97_size.symm, fun _ => Tryz.zeroCells97_size⟩, zero_get⟩

theorem only_far {w w1 w2 : World} {B g : Nat} (hb : Below B w w1) (hg : w1.grownBy w2 (some g)) (hB : B ≤ w1.heap.size) (h : B ≤ g) : Below B w w2 := hb.grown hg hB fun _ e => by simp at e; omega

set_option maxHeartbeats 400000 in
set_option maxRecDepth 100000 in
/-- cellsOf. -/
theorem cellsOf_any (v : Value) (rs : List Rc) (w : World) (hv : RL w 0 v rs) : Calls Tryz.prog 40 #[v] w fun e w' => ∃ g, e = .returned (.pointer (some ⟨g, 0, none⟩)) ∧ w.heap.size ≤ g ∧ GB w' g 97 (cellsG rs) ∧ Below w.heap.size w w' := by
  obtain ⟨A, c, rfl, hc, hm, -⟩ := hv.form
  have hm' : rs.length ≤ 9223372036854775807 := by unfold maxLen at hm; omega
  have g0 := GB.zero w 97
  have b0 : Below w.heap.size w (w.alloc (.cells Tryz.zeroCells97 97)) := (Below.refl _ _).alloc (Nat.le_refl _) _
  go_enter Tryz.func40, Tryz.ntmps40
  go_wp2
  go_loopw [10] (fun i wr => ∃ k : Nat, k ≤ rs.length ∧ i = .int .i64 k ∧ GB wr w.heap.size 97 (cellsG (rs.take k)) ∧ Below w.heap.size w wr) (fun i _ => rs.length - (intOf i).toNat)
  case atStart => exact ⟨0, Nat.zero_le _, rfl, g0, b0⟩
  case round =>
    obtain ⟨k, hk, rfl, hG, hb⟩ := hrel
    clear g0 b0
    by_cases hlt : k < rs.length
    · obtain ⟨g, x0, y0, x1, y1, rfl, hr, hg, f0, f1, f2, f3⟩ := (hv.on hb).elem hlt
      have Hr := Lib.hid hr
      clear hr
      go_wp2_with (go_at_call 61; refine (put_any _ _ ⟨x0, y0, x1, y1⟩ _ (hG.alloc _)).mono ?_; rintro e w1 ⟨rfl, hG1, hO1⟩)
      refine ⟨⟨k + 1, by omega, by go_num, hG1.cong (cellsG_take_succ Hr.out).symm, only_far (hb.alloc hb.size _) hO1 (by simp; have := hb.size; omega) (Nat.le_refl _)⟩, by simp [intOf]; omega⟩
    · go_wp2
      go_ret
      have : k = rs.length := by omega
      subst this
      rw [List.take_length] at hG
      exact ⟨_, rfl, Nat.le_refl _, hG, hb⟩

end Go.Proofs.YtgegbgkokkdmpaaGreat

namespace Go.Proofs.YtgegbgkokkdmpaaGreat
open Go.RowKit

/-- The row y of a set, as a value. -/
def rowA (G : Gr) (y : Nat) : Array Value := ((List.range 80).map fun x => Value.bool (G (y * 80 + x))).toArray
theorem rowA_size (G : Gr) (y : Nat) : (rowA G y).size = 80 := by simp [rowA]
theorem rowA_get (G : Gr) (y x : Nat) (h : x < 80) : (rowA G y)[x]? = some (.bool (G (y * 80 + x))) := by simp [rowA, h]
theorem rowA_list (G : Gr) (y : Nat) : (rowA G y).toList = (List.range 80).map fun x => Value.bool (G (y * 80 + x)) := by simp [rowA]

theorem infoRow : (Tryz.prog.info? 95).map (·.size) = some 80 := by kernel_rfl

theorem run_load_row {w : World} {g : Nat} {t : TypeId} {G : Gr} (h : GB w g t G) {y : Nat} (hy : y < 80) : (loadVar 95 ⟨g, y * 80, none⟩).run Tryz.prog w = .ok (.agg (rowA G y)) w := by
  have hl : (loadCells ⟨g, y * 80, none⟩ (rowA G y).toList.length).run Tryz.prog w = .ok (rowA G y).toList.toArray w :=
    run_loadCells_list w _ _ (fun j v hv => by
      have hj : j < 80 := by
        have := (List.getElem?_eq_some_iff.1 hv).1
        rw [Array.length_toList, rowA_size] at this
        exact this
      rw [Addr.add_lit, h.cell (by omega), ← hv, Array.getElem?_toList, rowA_get G y j hj])
  cases hq : Tryz.prog.info? 95 with
  | none => have := infoRow; rw [hq] at this; simp at this
  | some i =>
    have hs : i.size = 80 := by have := infoRow; rw [hq] at this; simpa using this
    have hagg : (isAgg 95).run Tryz.prog w = .ok true w := by
      unfold isAgg
      rw [Sem.run_bind, run_underlying Tryz.underlying95 w]
      rfl
    simp only [Array.length_toList, Array.toArray_toList, rowA_size] at hl
    simp [loadVar, Sem.run_bind, hagg, sizeOf, typeInfo, hq, hs, hl]

theorem run_part_bool {w : World} {cs : Array Value} {j : Nat} {b : Bool} (h : cs[j]? = some (.bool b)) : (part 4 cs j).run Tryz.prog w = .ok (.bool b) w := by
  have hagg : (isAgg 4).run Tryz.prog w = .ok false w := by
    unfold isAgg
    rw [Sem.run_bind, run_underlying Tryz.underlying4 w]
    rfl
  simp [part, Sem.run_bind, hagg, h]

theorem run_eq_bools (w : World) (d d' : Nat) (hd : d' = d + 1) (xs ys : Array Value) (p q : Nat → Bool) (hx : ∀ j, j < 80 → xs[j]? = some (.bool (p j))) (hy : ∀ j, j < 80 → ys[j]? = some (.bool (q j))) :
    (Op.equalIn (d' + 1) 95 (.agg xs) (.agg ys)).run Tryz.prog w = .ok ((List.range 80).all fun j => p j == q j) w := by
  obtain ⟨i, hi, hz, hsz, hby⟩ := info_parts infoBool
  have hsize : (sizeOf 4).run Tryz.prog w = .ok 1 w := by simp [sizeOf, typeInfo, hi, hsz]
  simp only [Op.equalIn, Sem.run_bind, run_underlying Tryz.underlying95, Result.andThen_ok, hsize]
  rw [Std.Legacy.Range.forIn_eq_forIn_range']
  have e : List.range' (([0:80] : Std.Legacy.Range)).start (([0:80] : Std.Legacy.Range)).size (([0:80] : Std.Legacy.Range)).step = List.range 80 := by
    rw [List.range_eq_range']
    rfl
  rw [e]
  have hb : ∀ j ∈ List.range 80, j < 80 := fun j hj => List.mem_range.1 hj
  generalize List.range 80 = l at hb
  clear e
  induction l with
  | nil => simp
  | cons j l ih =>
    have hj : j < 80 := hb j (by simp)
    have hpx : (part 4 xs (j * 1)).run Tryz.prog w = .ok (.bool (p j)) w := run_part_bool (by rw [Nat.mul_one]; exact hx j hj)
    have hpy : (part 4 ys (j * 1)).run Tryz.prog w = .ok (.bool (q j)) w := run_part_bool (by rw [Nat.mul_one]; exact hy j hj)
    have heq : (Op.equalIn d' 4 (.bool (p j)) (.bool (q j))).run Tryz.prog w = .ok (p j == q j) w := by rw [hd]; exact run_equalIn_bool' w d _ _ _ Tryz.underlying4
    have ih' := ih (fun k hk => hb k (by simp [hk]))
    simp only [List.forIn_cons, Sem.run_bind, hpx, hpy, heq, Result.andThen_ok, List.all_cons]
    cases hc : (p j == q j)
    · simp
    · simp only [Bool.not_true, Bool.false_eq_true, if_false, Sem.run_pure, Result.andThen_ok, Bool.true_and]
      exact ih'

/-- Two rows of a set are compared. -/
theorem run_eql_rows (w : World) (G : Gr) (a b : Nat) : (binOp .eql 95 (.agg (rowA G a)) (.agg (rowA G b))).run Tryz.prog w = .ok (.bool (rowEq G a b)) w := by
  rw [run_eql_struct, run_eq_bools w 9998 9999 rfl _ _ _ _ (fun j hj => rowA_get G a j hj) (fun j hj => rowA_get G b j hj)]
  rfl

section
variable {P : Program} {C : World → Prop} {a : Act} {o : Oper} {K : Act → Prop}
/-- A load that reads whole, as a step of a quiet walk. -/
theorem quiet_load (ty : TypeId) (x : Operand) (ho : o.op = .load ty x) (ad : Addr) (hx : a.eval x = .pointer (some ad)) (v : Value) (hrun : ∀ w, C w → (loadVar ty ad).run P w = .ok v w) (hk : K (a.put o.dst v)) : o.quiet P a C K := by
  refine ⟨v, fun w hw => ?_, hk⟩
  unfold Oper.quietAt execOp
  simp only [ho, hx, Instr.loadAt, Instr.sureAddr, Sem.run_bind, Sem.run_pure, Result.andThen_ok, hrun w hw]
  exact ⟨rfl, rfl⟩
theorem quiet_eql (t t' : TypeId) (x y : Operand) (ho : o.op = .binOp .eql t x y t') (xs ys : Array Value) (hx : a.eval x = .agg xs) (hy : a.eval y = .agg ys) (hg : P.eqGuardType P.depth t = false) (b : Bool)
    (hrun : ∀ w, (binOp .eql t (.agg xs) (.agg ys)).run P w = .ok (.bool b) w) (hk : K (a.put o.dst (.bool b))) : o.quiet P a C K := by
  refine ⟨_, fun w hw => ?_, hk⟩
  unfold Oper.quietAt execOp
  simp only [ho, hx, hy, Sem.run_bind, run_eqGuard_agg w .eql t x y xs ys hg, Sem.run_pure, Result.andThen_ok, hrun w]
  exact ⟨rfl, rfl⟩
end

end Go.Proofs.YtgegbgkokkdmpaaGreat

namespace Go.Proofs.YtgegbgkokkdmpaaGreat

section
variable {σ α : Type} (c : σ → Bool) (step : σ → σ) (out : σ → List α)
/-- What a loop gathers in at most n rounds. -/
def gatherN : Nat → σ → List α
  | 0, _ => []
  | n + 1, s => if c s = true then out s ++ gatherN n (step s) else []
variable (μ : σ → Nat)
/-- What a loop gathers whose measure is μ. -/
def gather (s : σ) : List α := gatherN c step out (μ s) s
variable (hμ : ∀ s, c s = true → μ (step s) < μ s)
include hμ
theorem gatherN_enough : ∀ n s, μ s ≤ n → gatherN c step out n s = gather c step out μ s := by
  intro n
  induction n using Nat.strongRecOn with
  | _ n ih =>
    intro s hs
    unfold gather
    by_cases hc : c s = true
    · have hlt := hμ s hc
      obtain ⟨m, hm⟩ : ∃ m, μ s = m + 1 := ⟨μ s - 1, by omega⟩
      obtain ⟨k, rfl⟩ : ∃ k, n = k + 1 := ⟨n - 1, by omega⟩
      rw [hm, gatherN, gatherN, if_pos hc, if_pos hc]
      congr 1
      rw [ih k (by omega) _ (by omega)]
      by_cases hk : m < k + 1
      · rw [ih m hk _ (by omega)]
      · have : m = k := by omega
        subst this
        rw [ih m (by omega) _ (by omega)]
    · have h0 : ∀ k, gatherN c step out k s = [] := by
        intro k
        cases k with
        | zero => rfl
        | succ k => rw [gatherN, if_neg hc]
      rw [h0, h0]
theorem gather_step (s : σ) (hc : c s = true) : gather c step out μ s = out s ++ gather c step out μ (step s) := by
  have hlt := hμ s hc
  obtain ⟨m, hm⟩ : ∃ m, μ s = m + 1 := ⟨μ s - 1, by omega⟩
  have h1 := gatherN_enough c step out μ hμ m (step s) (by omega)
  unfold gather at h1 ⊢
  rw [hm, gatherN, if_pos hc, h1]
omit hμ in
theorem gather_stop (s : σ) (hc : c s = false) : gather c step out μ s = [] := by
  unfold gather
  cases μ s with
  | zero => rfl
  | succ k => rw [gatherN, if_neg (by rw [hc]; exact Bool.false_ne_true)]
/-- A bound on the length: at most b a round. -/
theorem gather_length (b : Nat) (hb : ∀ s, (out s).length ≤ b) : ∀ n s, μ s ≤ n → (gather c step out μ s).length ≤ n * b := by
  intro n
  induction n with
  | zero =>
    intro s hs
    unfold gather
    have e : μ s = 0 := by omega
    rw [e]
    simp [gatherN]
  | succ n ih =>
    intro s hs
    by_cases hc : c s = true
    · rw [gather_step c step out μ hμ s hc, List.length_append]
      have hlt := hμ s hc
      have := ih (step s) (by omega)
      have := hb s
      rw [Nat.add_mul]
      omega
    · rw [gather_stop c step out μ s (by simpa using hc)]
      simp
end

/-- A part is no longer than the whole. -/
theorem part_len {α : Type} {a b c : List α} {n : Nat} (h : a ++ b = c) (hc : c.length ≤ n) : a.length ≤ n := by
  have := congrArg List.length h
  rw [List.length_append] at this
  omega

/-! ## The windows of a side -/

def winX (s y x : Int) : List Rc := gather (fun x : Int => decide (0 < s ∧ x < 40)) (fun x => x + s) (fun x => [⟨x, y, min (x + s) 40, min (y + s) 40⟩]) (fun x => (40 - x).toNat) x
theorem winX_step (s y x : Int) (hs : 0 < s) (hx : x < 40) : winX s y x = [⟨x, y, min (x + s) 40, min (y + s) 40⟩] ++ winX s y (x + s) :=
  gather_step _ _ _ _ (fun x h => by simp at h ⊢; omega) x (by simp [hs, hx])
theorem winX_step' {s y x a b : Int} (hs : 0 < s) (hx : x < 40) (ha : a = min (x + s) 40) (hb : b = min (y + s) 40) : winX s y x = [⟨x, y, a, b⟩] ++ winX s y (x + s) := by
  rw [winX_step s y x hs hx, ha, hb]
theorem winX_stop (s y x : Int) (hx : 40 ≤ x) : winX s y x = [] := gather_stop _ _ _ _ x (by simp; omega)
theorem winX_length (s y x : Int) (n : Nat) (h : 40 - x ≤ n) : (winX s y x).length ≤ n := by
  have := gather_length (fun x : Int => decide (0 < s ∧ x < 40)) (fun x => x + s) (fun x => [(⟨x, y, min (x + s) 40, min (y + s) 40⟩ : Rc)]) (fun x => (40 - x).toNat) (fun x h => by simp at h ⊢; omega) 1 (fun _ => Nat.le_refl _) n x (by omega)
  unfold winX
  omega
def winY (s y : Int) : List Rc := gather (fun y : Int => decide (0 < s ∧ y < 40)) (fun y => y + s) (fun y => winX s y (-40)) (fun y => (40 - y).toNat) y
theorem winY_step (s y : Int) (hs : 0 < s) (hy : y < 40) : winY s y = winX s y (-40) ++ winY s (y + s) :=
  gather_step _ _ _ _ (fun y h => by simp at h ⊢; omega) y (by simp [hs, hy])
theorem winY_stop (s y : Int) (hy : 40 ≤ y) : winY s y = [] := gather_stop _ _ _ _ y (by simp; omega)
theorem winY_length (s : Int) : (winY s (-40)).length ≤ 6400 := by
  have := gather_length (fun y : Int => decide (0 < s ∧ y < 40)) (fun y => y + s) (fun y => winX s y (-40)) (fun y => (40 - y).toNat) (fun y h => by simp at h ⊢; omega) 80 (fun y => winX_length s y (-40) 80 (by omega)) 80 (-40) (by omega)
  unfold winY
  omega
/-- The windows of a side. -/
def wins (s : Int) : List Rc := if 4 ≤ s ∧ s ≤ 40 then winY s (-40) else []

end Go.Proofs.YtgegbgkokkdmpaaGreat

namespace Go.Proofs.YtgegbgkokkdmpaaGreat
open Go.RowKit

/-- 'out = append(out, n)' on a list of integers of the call's own. -/
theorem wpList_append_I {w : World} {ops : Array Oper} {rest : List Oper} {o : Oper} {a : Act} {Q : Exit → Act → World → Prop} (hgd : o.guard = none) (s x : Operand)
    (ho : o.op = .call { callee := .builtin .append, args := #[s, x], argTypes := #[34, 34] })
    (B : Nat) (v : Value) (xs : List Int) (hs : a.eval s = v) (hown : IL w B v xs) (n : Int) (hx : a.eval x = .slice (some ⟨w.heap.size, 0, none⟩) 1 1)
    (hlen : xs.length ≤ 1000000) (hB : B ≤ w.heap.size)
    (h : ∀ v' w', IL w' B v' (xs ++ [n]) → w.grownBy w' v.ownBlock → Below B w w' → wpList Tryz.prog ops Q rest (a.put o.dst v') w') :
    wpList Tryz.prog ops Q (o :: rest) a (w.alloc (.cells #[.int .i64 n] 2)) := by
  obtain ⟨i, hi, hz, hsz, hby⟩ := info_parts infoInt
  refine wpList_append_own _ hgd s x 34 ho B 2 i _ 1 8 Tryz.underlying34 hi hz hsz hby rfl (by decide) v xs.length (valsI xs) hs (World.ownsRow.alloc hown _) ⟨w.heap.size, 0, none⟩ 1 1
    [.int .i64 n] hx rfl ?_ ?_ (by simp only [maxLen]; omega) (by omega) (by simp; omega) ?_
  · intro j u hu
    rw [Addr.add_lit, World.cell?_alloc_new]
    simpa using hu
  · intro u hu
    simp at hu
    subst hu; rfl
  · intro v' w' h1 h2 _
    have h3 := grown_of_alloc h2
    refine h v' w' ?_ h3 (below_own hown h3 hB)
    unfold IL
    have e : valsI (xs ++ [n]) = valsI xs ++ [.int .i64 n] := by simp [valsI]
    rw [e, List.length_append]
    exact h1

section
variable {w w' : World} {B B' : Nat} {v : Value} {xs : List Int}
theorem IL.on (h : IL w B v xs) (hb : Below w.heap.size w w') : IL w' B v xs := own_on h hb
theorem IL.less (h : IL w B v xs) (hB : B' ≤ B) : IL w B' v xs := own_less h hB
theorem IL.form (h : IL w B v xs) : ∃ A cap, v = .slice A xs.length cap ∧ xs.length ≤ cap ∧ cap ≤ maxLen := by
  obtain ⟨A, cap, hv, h1, h2, _⟩ := own_form h
  exact ⟨A, cap, hv, h1, h2⟩
/-- The element k, in memory. -/
theorem IL.elem {A : Option Addr} {n c : Nat} (h : IL w B (.slice A n c) xs) {k : Nat} (hk : k < xs.length) : ∃ g x, A = some ⟨g, 0, none⟩ ∧ xs[k]? = some x ∧ B ≤ g ∧ g < w.heap.size ∧ w.cell? ⟨g, k, none⟩ = some (.int .i64 x) := by
  obtain ⟨A', cap, hv, h1, h2, h3⟩ := own_form h
  simp only [Value.slice.injEq] at hv
  obtain ⟨g, hA, hB, hg, hc, _⟩ := h3 (by omega)
  have hx : xs[k]? = some xs[k] := List.getElem?_eq_getElem hk
  exact ⟨g, xs[k], hv.1.trans hA, hx, hB, hg, hc k _ (by rw [valsI, List.getElem?_map, hx]; rfl)⟩
end

theorem hasG_at {G : Gr} {a n : Nat} (ha : a < 80) : hasG G ((n : Int) - 40) ((a : Int) - 40) = at_ G a n := by
  by_cases hn : n < 80
  · have hc : onC ((n : Int) - 40) ((a : Int) - 40) = true := (onC_iff _ _).2 (by omega)
    rw [hasG_on hc, at_in G ha hn]
    congr 1
    unfold ix
    omega
  · have hc : onC ((n : Int) - 40) ((a : Int) - 40) = false := onC_no (by omega)
    rw [hasG_off hc, at_out G (by omega)]
theorem turns_at {G : Gr} {a n : Nat} (ha : a < 80) : (hasG G ((n : Int) - 40) ((a : Int) - 40) != hasG G ((n : Int) - 40 - 1) ((a : Int) - 40)) = turns G a n := by
  rw [hasG_at ha]
  unfold turns
  by_cases hn : n = 0
  · subst hn
    have hc : onC (((0 : Nat) : Int) - 40 - 1) ((a : Int) - 40) = false := onC_no (by omega)
    rw [hasG_off hc]
    simp
  · have e : (n : Int) - 40 - 1 = ((n - 1 : Nat) : Int) - 40 := by omega
    rw [e, hasG_at ha]
    have : decide (0 < n) = true := decide_eq_true (by omega)
    rw [this, Bool.true_and]

/-- The changes below n, as the reference lists them. -/
def runsTo (G : Gr) (a n : Nat) : List Int := (turnsTo G a n).map fun x : Nat => (x : Int) - 40
theorem runsTo_yes {G : Gr} {a n : Nat} (h : turns G a n = true) : runsTo G a (n + 1) = runsTo G a n ++ [(n : Int) - 40] := by
  unfold runsTo
  rw [turnsTo_succ, if_pos h, List.map_append]
  rfl
theorem runsTo_no {G : Gr} {a n : Nat} (h : turns G a n = false) : runsTo G a (n + 1) = runsTo G a n := by
  unfold runsTo
  rw [turnsTo_succ, if_neg (by rw [h]; simp), List.append_nil]
theorem runsTo_length (G : Gr) (a n : Nat) : (runsTo G a n).length ≤ n := by
  rw [runsTo, List.length_map, turnsTo]
  exact Nat.le_trans (List.length_filter_le _ _) (by simp)

set_option maxHeartbeats 400000 in
set_option maxRecDepth 100000 in
/-- l03Runs. -/
theorem l03Runs_any (v : Value) (G : Gr) (a : Nat) (w : World) (hG : GS w 0 v G) (ha : a < 80) : Calls Tryz.prog 52 #[v, .int .i64 ((a : Int) - 40)] w fun e w' => ∃ u, e = .returned u ∧ IL w' w.heap.size u (runsL G a) ∧ Below w.heap.size w w' := by
  have i0 : IL (w.alloc (.cells #[] 2)) w.heap.size (.slice (some ⟨w.heap.size, 0, none⟩) 0 0) [] := World.ownsRow_lit w #[] 0 (Nat.le_refl _) (by simp [maxLen]) rfl
  have b0 : Below w.heap.size w (w.alloc (.cells #[] 2)) := (Below.refl _ _).alloc (Nat.le_refl _) _
  go_enter Tryz.func52, Tryz.ntmps52
  go_wp2
  go_loopw [5, 6] (fun out xv wr => ∃ n : Nat, n ≤ 81 ∧ xv = .int .i64 ((n : Int) - 40) ∧ IL wr w.heap.size out (runsTo G a n) ∧ Below w.heap.size w wr) (fun _ xv _ => (41 - intOf xv).toNat)
  case atStart => exact ⟨0, by omega, rfl, i0, b0⟩
  case round =>
    obtain ⟨n, hn, rfl, hI, hb⟩ := hrel
    clear i0 b0
    have hG1 := hG.on hb
    by_cases hlt : n ≤ 80
    · have hl : (runsTo G a n).length ≤ 1000000 := Nat.le_trans (runsTo_length G a n) (by omega)
      have hB := hb.size
      have Ht := Lib.hid (turns_at (G := G) (n := n) ha)
      go_wp2_with (first | (go_at_call 72; refine (l03Has_any v G _ _ _ hG1).mono ?_; rintro e w1 ⟨rfl, rfl⟩) | (at_builtin; refine wpList_append_I rfl (.tmp 22) (.tmp 24) rfl w.heap.size _ _ rfl hI _ rfl hl hB ?_))
      · intro v1 w1 ho1 hg1 hb1
        have h0 : (hasG G ((n : Int) - 40) ((a : Int) - 40) != hasG G ((n : Int) - 40 - 1) ((a : Int) - 40)) = true := by assumption
        go_wp2
        refine ⟨⟨n + 1, by omega, by go_num, ?_, hb.trans hb1⟩, by simp [intOf]; omega⟩
        rw [runsTo_yes (Ht.out ▸ h0)]
        exact ho1
      · have h0 : (hasG G ((n : Int) - 40) ((a : Int) - 40) != hasG G ((n : Int) - 40 - 1) ((a : Int) - 40)) = false := by assumption
        refine ⟨⟨n + 1, by omega, by go_num, ?_, hb⟩, by simp [intOf]; omega⟩
        rw [runsTo_no (Ht.out ▸ h0)]
        exact hI
    · go_wp2
      go_ret
      have : n = 81 := by omega
      subst this
      exact ⟨_, rfl, hI, hb⟩

/-- Two lists are equal. -/
def eqI (xs ys : List Int) : Bool := decide (xs = ys)

set_option maxHeartbeats 400000 in
set_option maxRecDepth 100000 in
/-- l03Equal. -/
theorem l03Equal_any (v u : Value) (xs ys : List Int) (w : World) (hv : IL w 0 v xs) (hu : IL w 0 u ys) : Calls Tryz.prog 53 #[v, u] w fun e w' => e = .returned (.bool (eqI xs ys)) ∧ Below w.heap.size w w' := by
  obtain ⟨A, c, rfl, hc, hm⟩ := hv.form
  obtain ⟨A2, c2, rfl, hc2, hm2⟩ := hu.form
  unfold maxLen at hm hm2
  by_cases hl : xs.length = ys.length
  · have Hl := Lib.hid hl
    rw [hl] at hc ⊢
    clear hl
    go_enter Tryz.func53, Tryz.ntmps53
    go_wp2
    go_loopw [5] (fun i wr => ∃ k : Nat, k ≤ ys.length ∧ i = .int .i64 k ∧ Hid (xs.take k = ys.take k) ∧ Below w.heap.size w wr) (fun i _ => ys.length - (intOf i).toNat)
    case atStart => exact ⟨0, Nat.zero_le _, rfl, Lib.hid rfl, Below.refl _ _⟩
    case round =>
      obtain ⟨k, hk, rfl, hok, hb⟩ := hrel
      by_cases hlt : k < ys.length
      · obtain ⟨g, x, hA, hr, _, hg, f0⟩ := (hv.on hb).elem (k := k) (by rw [Hl.out]; exact hlt)
        obtain ⟨g', x', hA', hr', _, hg', f0'⟩ := (hu.on hb).elem hlt
        subst hA hA'
        have Hr := Lib.hid hr
        have Hr' := Lib.hid hr'
        clear hr hr' hv hu
        go_wp2
        go_quiet (fail)
        go_wp2
        · have h0 : (x != x') = true := by assumption
          go_ret
          refine ⟨ret_bool ?_, below_drewN hb _⟩
          exact (decide_eq_false (ne_at Hr.out Hr'.out (by simpa using h0))).symm
        · have h0 : (x != x') = false := by assumption
          refine ⟨⟨k + 1, by omega, by go_num, Lib.hid (take_succ_eq hok.out Hr.out Hr'.out (by simpa using h0)), below_drewN hb _⟩, by simp [intOf]; omega⟩
      · go_wp2
        go_ret
        refine ⟨ret_bool ?_, hb⟩
        have h1 := hok.out
        have h2 := Hl.out
        rw [List.take_of_length_le (by omega), List.take_of_length_le (by omega)] at h1
        simp [eqI, h1]
  · have hne : ((xs.length : Int) != (ys.length : Int)) = true := by rw [bne_iff_ne]; omega
    go_enter Tryz.func53, Tryz.ntmps53
    go_wp2
    go_ret
    refine ⟨ret_bool ?_, Below.refl _ _⟩
    exact (decide_eq_false (fun e => hl (by rw [e]))).symm

end Go.Proofs.YtgegbgkokkdmpaaGreat
