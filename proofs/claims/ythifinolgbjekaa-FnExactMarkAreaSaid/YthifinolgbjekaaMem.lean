/- What memory holds, in words that this seat's contracts share: lists of rectangles and of integers in rows of the call's own, sets of cells in blocks of 6400 flags. No conditions. -/
import Derived.WalkKit
import Derived.WalkSpells
import Derived.Deep.Draws
import Derived.Deep.QuietTactic
import Derived.BigQuiet
import Derived.StillTailTactics
import Derived.Lib.Hide
import Derived.Test.YthifinolgbjekaaChecked
import Derived.Test.YthifinolgbjekaaGrid
namespace Go.Proofs.Ythifinolgbjekaa
open Go.RowKit

/-! ## Blocks -/

/-- Block g is just the cells cs of element type t, none frozen. -/
def Bk (w : World) (g : Nat) (t : TypeId) (cs : Array Value) : Prop := w.heap[g]? = some (.cells cs t (0, 0))

section
variable {w w' : World} {g : Nat} {t : TypeId} {cs : Array Value}
theorem Bk.lt (h : Bk w g t cs) : g < w.heap.size := by
  unfold Bk at h
  exact (Array.getElem?_eq_some_iff.1 h).1
theorem Bk.cell (h : Bk w g t cs) (i : Nat) : w.cell? ⟨g, i, none⟩ = cs[i]? := cell_of_row w g i cs t (0, 0) h
theorem Bk.frozen (h : Bk w g t cs) (i : Nat) : w.frozen? ⟨g, i, none⟩ = false := by
  unfold Bk at h
  simp [World.frozen?, h]
theorem Bk.new (w : World) (t : TypeId) (cs : Array Value) : Bk (w.alloc (.cells cs t)) w.heap.size t cs := heap_alloc_new w _
theorem Bk.drew (h : Bk w g t cs) : Bk w.drew g t cs := h
theorem Bk.drewN (h : Bk w g t cs) (n : Nat) : Bk (w.drewN n) g t cs := h
theorem Bk.alloc (h : Bk w g t cs) (o : Obj) : Bk (w.alloc o) g t cs := (Below.heap_alloc w o g h.lt).trans h
theorem Bk.store (h : Bk w g t cs) (i : Nat) (u : Value) : Bk (w.setCell ⟨g, i, none⟩ u) g t (cs.setIfInBounds i u) := heap_setCell_same w g i cs t u h
theorem Bk.other (h : Bk w g t cs) {p : Addr} (hp : g ≠ p.block) (u : Value) : Bk (w.setCell p u) g t cs := (Below.heap_setCell w p u g hp).trans h
theorem Bk.below {B : Nat} (h : Bk w g t cs) (hb : Below B w w') (hg : g < B) : Bk w' g t cs := (hb.block g hg).trans h
/-- Behind a call that keeps all that was there. -/
theorem Bk.on (h : Bk w g t cs) (hb : Below w.heap.size w w') : Bk w' g t cs := h.below hb h.lt
theorem Bk.grown {row : Option Nat} (h : Bk w g t cs) (hb : w.grownBy w' row) (hg : some g ≠ row) : Bk w' g t cs := (hb.block g h.lt hg).trans h
end

/-! ## Rows that the program itself made -/

section
variable {w w' : World} {B B' : Nat} {e : TypeId} {size n : Nat} {v : Value} {xs : List Value}
theorem own_on (h : w.ownsRow B e size v n xs) (hb : Below w.heap.size w w') : w'.ownsRow B e size v n xs := by
  refine ⟨h.1, ?_⟩
  rcases h.2 with h2 | ⟨g, cap, cur, hv, hg, hh, r⟩
  · exact .inl h2
  · exact .inr ⟨g, cap, cur, hv, hg, (hb.block g (Array.getElem?_eq_some_iff.1 hh).1).trans hh, r⟩
theorem own_less (h : w.ownsRow B e size v n xs) (hB : B' ≤ B) : w.ownsRow B' e size v n xs := by
  refine ⟨h.1, ?_⟩
  rcases h.2 with h2 | ⟨g, cap, cur, hv, hg, r⟩
  · exact .inl h2
  · exact .inr ⟨g, cap, cur, hv, by omega, r⟩
/-- A store into a block that the row does not lie in. -/
theorem own_other (h : w.ownsRow B e size v n xs) {p : Addr} (hp : v.ownBlock ≠ some p.block) (u : Value) : (w.setCell p u).ownsRow B e size v n xs := by
  refine ⟨h.1, ?_⟩
  rcases h.2 with h2 | ⟨g, cap, cur, rfl, hg, hh, r⟩
  · exact .inl h2
  · refine .inr ⟨g, cap, cur, rfl, hg, ?_, r⟩
    rw [Below.heap_setCell _ _ _ _ (fun e => hp (by simp [Value.ownBlock, e]))]
    exact hh
theorem own_drewN (h : w.ownsRow B e size v n xs) (k : Nat) : (w.drewN k).ownsRow B e size v n xs := h
/-- A row of the call's own lies below the heap's size. -/
theorem own_lt (h : w.ownsRow B e size v n xs) : ∀ g, v.ownBlock = some g → B ≤ g ∧ g < w.heap.size := h.lt
/-- The value's own form. -/
theorem own_form (h : w.ownsRow B e size v n xs) : ∃ A cap, v = .slice A n cap ∧ n ≤ cap ∧ cap ≤ maxLen ∧
    (0 < n → ∃ g, A = some ⟨g, 0, none⟩ ∧ B ≤ g ∧ g < w.heap.size ∧ (∀ j u, xs[j]? = some u → w.cell? ⟨g, j, none⟩ = some u) ∧ ∀ j, w.frozen? ⟨g, j, none⟩ = false) := by
  rcases h.2 with ⟨rfl, rfl⟩ | ⟨g, cap, cur, rfl, hg, hh, hnc, hcm, hcs, htake⟩
  · exact ⟨none, 0, rfl, Nat.le_refl _, by simp [maxLen], fun h0 => absurd h0 (by omega)⟩
  · refine ⟨some ⟨g, 0, none⟩, cap, rfl, hnc, hcm, fun _ => ⟨g, rfl, hg, (Array.getElem?_eq_some_iff.1 hh).1, fun j u hu => ?_, fun j => frozen_of_row w g j cur e hh⟩⟩
    rw [cell_of_row w g j cur e (0, 0) hh]
    rw [← htake, List.getElem?_take] at hu
    split at hu
    · simpa using hu
    · cases hu
theorem own_len (h : w.ownsRow B e size v n xs) : n ≤ maxLen := by
  obtain ⟨A, cap, _, h1, h2, _⟩ := own_form h
  omega
end

/-! ## Lists of rectangles -/

def Rc.vals (r : Rc) : List Value := [.int .i64 r.x0, .int .i64 r.y0, .int .i64 r.x1, .int .i64 r.y1]
def Rc.val (r : Rc) : Value := .agg #[.int .i64 r.x0, .int .i64 r.y0, .int .i64 r.x1, .int .i64 r.y1]
def flatR (rs : List Rc) : List Value := rs.flatMap Rc.vals
theorem flatR_length : ∀ rs : List Rc, (flatR rs).length = rs.length * 4
  | [] => rfl
  | r :: rs => by
    have := flatR_length rs
    have e : flatR (r :: rs) = r.vals ++ flatR rs := rfl
    have e4 : r.vals.length = 4 := rfl
    rw [e, List.length_append, this, e4, List.length_cons]
    omega
theorem flatR_append (a b : List Rc) : flatR (a ++ b) = flatR a ++ flatR b := by simp [flatR, List.flatMap_append]
theorem flatR_one (r : Rc) : flatR [r] = r.vals := by simp [flatR]
theorem flatR_get : ∀ (rs : List Rc) (k : Nat) (r : Rc), rs[k]? = some r →
    (flatR rs)[k * 4]? = some (.int .i64 r.x0) ∧ (flatR rs)[k * 4 + 1]? = some (.int .i64 r.y0) ∧ (flatR rs)[k * 4 + 2]? = some (.int .i64 r.x1) ∧ (flatR rs)[k * 4 + 3]? = some (.int .i64 r.y1)
  | [], k, r, h => by simp at h
  | q :: rs, 0, r, h => by
    simp only [List.getElem?_cons_zero, Option.some.injEq] at h
    subst h
    simp [flatR, Rc.vals]
  | q :: rs, k + 1, r, h => by
    have ih := flatR_get rs k r (by simpa using h)
    have e : flatR (q :: rs) = [Value.int .i64 q.x0, .int .i64 q.y0, .int .i64 q.x1, .int .i64 q.y1] ++ flatR rs := by simp [flatR, Rc.vals]
    rw [e, List.getElem?_append_right (by simp; omega), List.getElem?_append_right (by simp; omega), List.getElem?_append_right (by simp; omega), List.getElem?_append_right (by simp; omega)]
    have e0 : (k + 1) * 4 - [Value.int .i64 q.x0, .int .i64 q.y0, .int .i64 q.x1, .int .i64 q.y1].length = k * 4 := by simp; omega
    have e1 : (k + 1) * 4 + 1 - [Value.int .i64 q.x0, .int .i64 q.y0, .int .i64 q.x1, .int .i64 q.y1].length = k * 4 + 1 := by simp; omega
    have e2 : (k + 1) * 4 + 2 - [Value.int .i64 q.x0, .int .i64 q.y0, .int .i64 q.x1, .int .i64 q.y1].length = k * 4 + 2 := by simp; omega
    have e3 : (k + 1) * 4 + 3 - [Value.int .i64 q.x0, .int .i64 q.y0, .int .i64 q.x1, .int .i64 q.y1].length = k * 4 + 3 := by simp; omega
    rw [e0, e1, e2, e3]
    exact ih

theorem flatR_set : ∀ (rs : List Rc) (j : Nat) (a b c d : Int), j < rs.length →
    ((((flatR rs).set (j * 4) (.int .i64 a)).set (j * 4 + 1) (.int .i64 b)).set (j * 4 + 2) (.int .i64 c)).set (j * 4 + 3) (.int .i64 d) = flatR (rs.set j ⟨a, b, c, d⟩)
  | [], j, _, _, _, _, h => by simp at h
  | q :: rs, 0, a, b, c, d, _ => by simp [flatR, Rc.vals]
  | q :: rs, j + 1, a, b, c, d, h => by
    have ih := flatR_set rs j a b c d (by simpa using h)
    have e : ∀ l, flatR (q :: l) = Value.int .i64 q.x0 :: .int .i64 q.y0 :: .int .i64 q.x1 :: .int .i64 q.y1 :: flatR l := fun l => rfl
    have e1 : (j + 1) * 4 = j * 4 + 1 + 1 + 1 + 1 := by omega
    have e2 : (j + 1) * 4 + 1 = (j * 4 + 1) + 1 + 1 + 1 + 1 := by omega
    have e3 : (j + 1) * 4 + 2 = (j * 4 + 2) + 1 + 1 + 1 + 1 := by omega
    have e4 : (j + 1) * 4 + 3 = (j * 4 + 3) + 1 + 1 + 1 + 1 := by omega
    rw [List.set_cons_succ, e, e, e2, e3, e4, e1]
    simp only [List.set_cons_succ]
    rw [ih]

/-- The slice value v is the list rs of rectangles, in a row from block B on (B = 0: wherever). -/
def RL (w : World) (B : Nat) (v : Value) (rs : List Rc) : Prop := w.ownsRow B 37 4 v rs.length (flatR rs)

section
variable {w w' : World} {B B' : Nat} {v : Value} {rs : List Rc}
theorem RL.on (h : RL w B v rs) (hb : Below w.heap.size w w') : RL w' B v rs := own_on h hb
theorem RL.less (h : RL w B v rs) (hB : B' ≤ B) : RL w B' v rs := own_less h hB
theorem RL.nil (w : World) (B : Nat) : RL w B (.slice none 0 0) [] := World.ownsRow_nil w B _ _
theorem RL.form (h : RL w B v rs) : ∃ A cap, v = .slice A rs.length cap ∧ rs.length ≤ cap ∧ cap ≤ maxLen ∧
    (∀ (k : Nat) (r : Rc), rs[k]? = some r → ∃ g, A = some ⟨g, 0, none⟩ ∧ B ≤ g ∧ g < w.heap.size ∧ w.cell? ⟨g, k * 4, none⟩ = some (.int .i64 r.x0) ∧ w.cell? ⟨g, k * 4 + 1, none⟩ = some (.int .i64 r.y0) ∧
      w.cell? ⟨g, k * 4 + 2, none⟩ = some (.int .i64 r.x1) ∧ w.cell? ⟨g, k * 4 + 3, none⟩ = some (.int .i64 r.y1)) := by
  obtain ⟨A, cap, hv, h1, h2, h3⟩ := own_form h
  refine ⟨A, cap, hv, h1, h2, fun k r hk => ?_⟩
  have hlt : k < rs.length := (List.getElem?_eq_some_iff.1 hk).1
  obtain ⟨g, hA, hg, hgw, hc, _⟩ := h3 (by omega)
  obtain ⟨f0, f1, f2, f3⟩ := flatR_get rs k r hk
  exact ⟨g, hA, hg, hgw, hc _ _ f0, hc _ _ f1, hc _ _ f2, hc _ _ f3⟩
/-- The element k of a list, in memory. -/
theorem RL.elem {A : Option Addr} {n c : Nat} (h : RL w B (.slice A n c) rs) {k : Nat} (hk : k < rs.length) : ∃ g x0 y0 x1 y1, A = some ⟨g, 0, none⟩ ∧ rs[k]? = some ⟨x0, y0, x1, y1⟩ ∧ g < w.heap.size ∧
    w.cell? ⟨g, k * 4, none⟩ = some (.int .i64 x0) ∧ w.cell? ⟨g, k * 4 + 1, none⟩ = some (.int .i64 y0) ∧ w.cell? ⟨g, k * 4 + 2, none⟩ = some (.int .i64 x1) ∧ w.cell? ⟨g, k * 4 + 3, none⟩ = some (.int .i64 y1) := by
  obtain ⟨A', c', e, _, _, hf⟩ := h.form
  have hr : rs[k]? = some rs[k] := List.getElem?_eq_getElem hk
  obtain ⟨g, hA, _, hg, h0, h1, h2, h3⟩ := hf k _ hr
  simp only [Value.slice.injEq] at e
  exact ⟨g, rs[k].x0, rs[k].y0, rs[k].x1, rs[k].y1, e.1.trans hA, hr, hg, h0, h1, h2, h3⟩
end

/-- 'list[j] = r', field by field. -/
theorem RL.set4 {w : World} {B g n c : Nat} {rs : List Rc} (h : RL w B (.slice (some ⟨g, 0, none⟩) n c) rs) {j : Nat} (hj : j < rs.length) (x0 y0 x1 y1 : Int) :
    RL ((((w.setCell ⟨g, j * 4, none⟩ (.int .i64 x0)).setCell ⟨g, j * 4 + 1, none⟩ (.int .i64 y0)).setCell ⟨g, j * 4 + 2, none⟩ (.int .i64 x1)).setCell ⟨g, j * 4 + 3, none⟩ (.int .i64 y1)) B (.slice (some ⟨g, 0, none⟩) n c) (rs.set j ⟨x0, y0, x1, y1⟩) := by
  obtain ⟨A, c', e, _, _, _⟩ := h.form
  simp only [Value.slice.injEq] at e
  obtain ⟨_, rfl, _⟩ := e
  unfold RL at h ⊢
  rw [← flatR_set _ _ _ _ _ _ hj, List.length_set]
  exact (((h.stored _ _).1.stored _ _).1.stored _ _).1.stored _ _ |>.1
theorem RL.frozen {w : World} {B g n c : Nat} {rs : List Rc} (h : RL w B (.slice (some ⟨g, 0, none⟩) n c) rs) (j : Nat) : w.frozen? ⟨g, j, none⟩ = false := by
  obtain ⟨A, c', e, _, _, _⟩ := h.form
  simp only [Value.slice.injEq] at e
  obtain ⟨_, rfl, _⟩ := e
  exact World.ownsRow.frozenAt h j
theorem RL.base {w : World} {B g n c : Nat} {rs : List Rc} (h : RL w B (.slice (some ⟨g, 0, none⟩) n c) rs) : B ≤ g ∧ g < w.heap.size := h.lt g rfl

/-- Only block g, and what is new, has turned: a store into block g. -/
theorem only_store {a w : World} {g : Nat} (h : a.grownBy w (some g)) (j : Nat) (u : Value) : a.grownBy (w.setCell ⟨g, j, none⟩ u) (some g) :=
  ⟨h.os, h.tape, h.output, by simpa [World.setCell] using h.size, fun i hi hne => (Below.heap_setCell w _ u i (fun e => hne (by rw [e]))).trans (h.block i hi hne)⟩
theorem only_alloc {a w : World} {row : Option Nat} (h : a.grownBy w row) (o : Obj) : a.grownBy (w.alloc o) row :=
  ⟨h.os, h.tape, h.output, Nat.le_trans h.size (by simp), fun i hi hne => (Below.heap_alloc w o i (Nat.lt_of_lt_of_le hi h.size)).trans (h.block i hi hne)⟩
theorem only_below {a w w' : World} {row : Option Nat} (h : a.grownBy w row) (hb : Below w.heap.size w w') : a.grownBy w' row :=
  ⟨hb.os.trans h.os, hb.tape.trans h.tape, hb.output.trans h.output, Nat.le_trans h.size hb.size, fun i hi hne => (hb.block i (Nat.lt_of_lt_of_le hi h.size)).trans (h.block i hi hne)⟩
theorem only_refl (a : World) (row : Option Nat) : a.grownBy a row := ⟨rfl, rfl, rfl, Nat.le_refl _, fun _ _ _ => rfl⟩
theorem only_drew {a w : World} {row : Option Nat} (h : a.grownBy w row) : a.grownBy w.drew row := ⟨h.os, h.tape, h.output, h.size, h.block⟩
theorem only_drewN {a w : World} {row : Option Nat} (h : a.grownBy w row) (n : Nat) : a.grownBy (w.drewN n) row := ⟨h.os, h.tape, h.output, h.size, h.block⟩
theorem below_drewN {B : Nat} {a w : World} (h : Below B a w) (n : Nat) : Below B a (w.drewN n) := ⟨h.os, h.tape, h.output, h.size, h.block⟩
/-- A block other than the written one, kept. -/
theorem only_bk {a w : World} {g g' : Nat} {t : TypeId} {cs : Array Value} (h : a.grownBy w (some g)) (hb : Bk a g' t cs) (hne : g' ≠ g) : Bk w g' t cs := hb.grown h (by simpa using hne)
theorem only_own {w w' : World} {g B n size : Nat} {e : TypeId} {v : Value} {xs : List Value} (h : w.grownBy w' (some g)) (ho : w.ownsRow B e size v n xs) (hne : v.ownBlock ≠ some g) : w'.ownsRow B e size v n xs := ho.kept h (.inr hne)
theorem only_trans {a w w' : World} {row : Option Nat} (h : a.grownBy w row) (k : w.grownBy w' row) : a.grownBy w' row :=
  ⟨k.os.trans h.os, k.tape.trans h.tape, k.output.trans h.output, Nat.le_trans h.size k.size, fun i hi hne => (k.block i (Nat.lt_of_lt_of_le hi h.size) hne).trans (h.block i hi hne)⟩

/-- A row below block N, kept while one from N on is written. -/
theorem own_far {w w' : World} {B N n size : Nat} {e : TypeId} {v u : Value} {xs : List Value} (h : w.ownsRow B e size v n xs) (hN : ∀ g, v.ownBlock = some g → g < N) (hg : w.grownBy w' u.ownBlock) (hu : ∀ g, u.ownBlock = some g → N ≤ g) : w'.ownsRow B e size v n xs := by
  refine h.kept hg ?_
  cases hv : v.ownBlock with
  | none => exact .inl rfl
  | some g =>
    right
    intro e
    have h1 := hN g hv
    have h2 := hu g e.symm
    omega

/-- What is there behind a law on append, seen from the world before the new element was laid. -/
theorem grown_of_alloc {w w' : World} {o : Obj} {row : Option Nat} (h : (w.alloc o).grownBy w' row) : w.grownBy w' row :=
  ⟨h.os, h.tape, h.output, Nat.le_trans (by simp) h.size, fun k hk hne => (h.block k (by simp; omega) hne).trans (Below.heap_alloc w o k hk)⟩

theorem below_own {w w' : World} {B : Nat} {e : TypeId} {size n : Nat} {v : Value} {xs : List Value} (h : w.ownsRow B e size v n xs) (hg : w.grownBy w' v.ownBlock) (hB : B ≤ w.heap.size) : Below B w w' :=
  (Below.refl B w).grown hg hB fun k hk => (h.lt k hk).1

theorem infoRect : (Try.prog.info? 37).map (fun i => (i.zero, i.size, i.bytes)) = some (some (.agg #[.int .i64 0, .int .i64 0, .int .i64 0, .int .i64 0]), 4, 32) := by kernel_rfl
theorem infoInt : (Try.prog.info? 2).map (fun i => (i.zero, i.size, i.bytes)) = some (some (.int .i64 0), 1, 8) := by kernel_rfl

/-- 'out = append(out, r)' on a list of rectangles of the call's own. -/
theorem wpList_append_R {w : World} {ops : Array Oper} {rest : List Oper} {o : Oper} {a : Act} {Q : Exit → Act → World → Prop} (hgd : o.guard = none) (s x : Operand)
    (ho : o.op = .call { callee := .builtin .append, args := #[s, x], argTypes := #[24, 24] })
    (B : Nat) (v : Value) (rs : List Rc) (hs : a.eval s = v) (hown : RL w B v rs) (x0 y0 x1 y1 : Int) (hx : a.eval x = .slice (some ⟨w.heap.size, 0, none⟩) 1 1)
    (hlen : rs.length ≤ 1000000) (hB : B ≤ w.heap.size)
    (h : ∀ v' w', RL w' B v' (rs ++ [⟨x0, y0, x1, y1⟩]) → w.grownBy w' v.ownBlock → Below B w w' → wpList Try.prog ops Q rest (a.put o.dst v') w') :
    wpList Try.prog ops Q (o :: rest) a (w.alloc (.cells #[.int .i64 x0, .int .i64 y0, .int .i64 x1, .int .i64 y1] 37)) := by
  obtain ⟨i, hi, hz, hsz, hby⟩ := info_parts infoRect
  refine wpList_append_own _ hgd s x 24 ho B 37 i _ 4 32 Try.underlying24 hi hz hsz hby rfl (by decide) v rs.length (flatR rs) hs (World.ownsRow.alloc hown _) ⟨w.heap.size, 0, none⟩ 1 1
    [.int .i64 x0, .int .i64 y0, .int .i64 x1, .int .i64 y1] hx rfl ?_ ?_ (by simp only [maxLen]; omega) (by omega) (by simp; omega) ?_
  · intro j u hu
    rw [Addr.add_lit, World.cell?_alloc_new]
    simpa using hu
  · intro u hu
    simp at hu
    rcases hu with rfl | rfl | rfl | rfl <;> rfl
  · intro v' w' h1 h2 _
    have h3 := grown_of_alloc h2
    refine h v' w' ?_ h3 (below_own hown h3 hB)
    unfold RL
    rw [flatR_append, flatR_one, List.length_append]
    exact h1

/-! ## Lists of integers -/

def valsI (xs : List Int) : List Value := xs.map (Value.int .i64)
def IL (w : World) (B : Nat) (v : Value) (xs : List Int) : Prop := w.ownsRow B 2 1 v xs.length (valsI xs)

/-! ## Sets of cells -/

/-- Block g is a set of cells: 6400 flags. -/
def GB (w : World) (g : Nat) (t : TypeId) (G : Gr) : Prop := ∃ cs, Bk w g t cs ∧ (6400 ≤ cs.size ∧ (t ≠ 4 → cs.size = 6400)) ∧ ∀ i, i < 6400 → cs[i]? = some (.bool (G i))

section
variable {w w' : World} {g : Nat} {t : TypeId} {G H : Gr}
theorem GB.lt (h : GB w g t G) : g < w.heap.size := let ⟨_, hb, _⟩ := h; hb.lt
theorem GB.on (h : GB w g t G) (hb : Below w.heap.size w w') : GB w' g t G := let ⟨cs, h1, h2⟩ := h; ⟨cs, h1.on hb, h2⟩
theorem GB.below {B : Nat} (h : GB w g t G) (hb : Below B w w') (hg : g < B) : GB w' g t G := let ⟨cs, h1, h2⟩ := h; ⟨cs, h1.below hb hg, h2⟩
theorem GB.alloc (h : GB w g t G) (o : Obj) : GB (w.alloc o) g t G := let ⟨cs, h1, h2⟩ := h; ⟨cs, h1.alloc o, h2⟩
theorem GB.drew (h : GB w g t G) : GB w.drew g t G := h
theorem GB.drewN (h : GB w g t G) (n : Nat) : GB (w.drewN n) g t G := h
theorem GB.cell (h : GB w g t G) {i : Nat} (hi : i < 6400) : w.cell? ⟨g, i, none⟩ = some (.bool (G i)) := let ⟨_, h1, _, h3⟩ := h; (h1.cell i).trans (h3 i hi)
theorem GB.frozen (h : GB w g t G) (i : Nat) : w.frozen? ⟨g, i, none⟩ = false := let ⟨_, h1, _⟩ := h; h1.frozen i
theorem GB.same (h : GB w g t G) (hs : sameG G H) : GB w g t H := let ⟨cs, h1, h2, h3⟩ := h; ⟨cs, h1, h2, fun i hi => by rw [h3 i hi, hs i hi]⟩
theorem GB.store (h : GB w g t G) {j : Nat} (hj : j < 6400) (b : Bool) : GB (w.setCell ⟨g, j, none⟩ (.bool b)) g t (updG G j b) := by
  obtain ⟨cs, h1, h2, h3⟩ := h
  refine ⟨_, h1.store j _, by simpa using h2, fun i hi => ?_⟩
  by_cases e : i = j
  · subst e
    rw [Array.getElem?_setIfInBounds_self_of_lt (by have := h2.1; omega)]
    simp [updG]
  · rw [Array.getElem?_setIfInBounds_ne (fun h => e h.symm), h3 i hi]
    simp [updG, e]
theorem GB.other (h : GB w g t G) {p : Addr} (hp : g ≠ p.block) (u : Value) : GB (w.setCell p u) g t G := let ⟨cs, h1, h2⟩ := h; ⟨cs, h1.other hp u, h2⟩
theorem GB.grown {row : Option Nat} (h : GB w g t G) (hb : w.grownBy w' row) (hg : some g ≠ row) : GB w' g t G := let ⟨cs, h1, h2⟩ := h; ⟨cs, h1.grown hb hg, h2⟩
end

end Go.Proofs.Ythifinolgbjekaa
