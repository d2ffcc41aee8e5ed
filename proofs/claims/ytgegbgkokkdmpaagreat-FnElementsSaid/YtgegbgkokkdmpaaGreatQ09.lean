/- What memory holds: lists of records of one-cell fields; libraries of cells. No conditions. The laws' own helpers on rectangles: two equal lists are found equal; a list that is marked reads back as marked. Contracts: the laws' own copies of their arguments, and the count of what is left. Condition: a list has at most 1048576 elements. What the laws' walks share. No conditions. -/
import Derived.Test.YtgegbgkokkdmpaaGreatQ07
import Derived.Test.YtgegbgkokkdmpaaGreatQ08
import Derived.Test.YtgegbgkokkdmpaaGreatQ02

namespace Go.Proofs.YtgegbgkokkdmpaaGreat
open Go.RowKit

/-! ## Lists of records -/

/-- The slice value v is the list xs of records of n cells each, of element type t, in a row from block B on. -/
def FL {α : Type} (t : TypeId) (n : Nat) (enc : α → List Value) (w : World) (B : Nat) (v : Value) (xs : List α) : Prop := w.ownsRow B t n v xs.length (xs.flatMap enc)

theorem flat_len {α : Type} {n : Nat} {enc : α → List Value} (he : ∀ x, (enc x).length = n) : ∀ xs : List α, (xs.flatMap enc).length = xs.length * n
  | [] => by simp
  | x :: xs => by rw [List.flatMap_cons, List.length_append, flat_len he xs, he, List.length_cons, Nat.succ_mul]; omega
theorem flat_get {α : Type} {n : Nat} {enc : α → List Value} (he : ∀ x, (enc x).length = n) : ∀ (xs : List α) (k : Nat) (x : α), xs[k]? = some x → ∀ (j : Nat) (u : Value), (enc x)[j]? = some u → (xs.flatMap enc)[k * n + j]? = some u
  | [], k, x, h => by simp at h
  | y :: xs, 0, x, h => by
    simp only [List.getElem?_cons_zero, Option.some.injEq] at h
    subst h
    intro j u hu
    have hj := (List.getElem?_eq_some_iff.1 hu).1
    rw [List.flatMap_cons, Nat.zero_mul, Nat.zero_add, List.getElem?_append_left hj]
    exact hu
  | y :: xs, k + 1, x, h => by
    intro j u hu
    have ih := flat_get he xs k x (by simpa using h) j u hu
    rw [List.flatMap_cons, List.getElem?_append_right (by rw [he, Nat.succ_mul]; omega), he]
    have e : (k + 1) * n + j - n = k * n + j := by rw [Nat.succ_mul]; omega
    rw [e]
    exact ih
/-- A record's cells, put one by one. -/
def putAll (l : List Value) (o : Nat) : List Value → List Value
  | [] => l
  | u :: us => putAll (l.set o u) (o + 1) us
theorem putAll_len (l : List Value) (o : Nat) (us : List Value) : (putAll l o us).length = l.length := by
  induction us generalizing l o with
  | nil => rfl
  | cons u us ih => rw [putAll, ih, List.length_set]
theorem putAll_app (a b c us : List Value) : b.length = us.length → putAll (a ++ b ++ c) a.length us = a ++ us ++ c := by
  induction us generalizing a b with
  | nil => intro h; simp only [List.length_nil, List.length_eq_zero_iff] at h; subst h; rfl
  | cons u us ih =>
    intro h
    match b, h with
    | x :: b, h =>
      rw [putAll]
      have e : (a ++ x :: b ++ c).set a.length u = (a ++ [u]) ++ b ++ c := by
        rw [List.append_assoc, List.set_append_right _ _ (Nat.le_refl _), Nat.sub_self]
        simp
      rw [e, show a.length + 1 = (a ++ [u]).length by simp, ih (a ++ [u]) b (by simpa using h)]
      simp
theorem flat_put {α : Type} {n : Nat} {enc : α → List Value} (he : ∀ x, (enc x).length = n) (xs : List α) (k : Nat) (y : α) (hk : k < xs.length) : putAll (xs.flatMap enc) (k * n) (enc y) = (xs.set k y).flatMap enc := by
  have hx : xs = xs.take k ++ xs[k] :: xs.drop (k + 1) := by rw [List.getElem_cons_drop, List.take_append_drop]
  have e1 : xs.flatMap enc = (xs.take k).flatMap enc ++ enc xs[k] ++ (xs.drop (k + 1)).flatMap enc := by
    conv => lhs; rw [hx]
    rw [List.flatMap_append, List.flatMap_cons, List.append_assoc]
  have e2 : (xs.set k y).flatMap enc = (xs.take k).flatMap enc ++ enc y ++ (xs.drop (k + 1)).flatMap enc := by
    rw [List.set_eq_take_append_cons_drop, if_pos hk, List.flatMap_append, List.flatMap_cons, List.append_assoc]
  have el : ((xs.take k).flatMap enc).length = k * n := by rw [flat_len he, List.length_take, Nat.min_eq_left (Nat.le_of_lt hk)]
  rw [e1, e2, ← el]
  exact putAll_app _ _ _ _ (by rw [he, he])
/-- The stores of a record. -/
def putW (w : World) (g o : Nat) : List Value → World
  | [] => w
  | u :: us => putW (w.setCell ⟨g, o, none⟩ u) g (o + 1) us
theorem own_put {w : World} {B : Nat} {t : TypeId} {size g n c N : Nat} {xs : List Value} (us : List Value) (o : Nat) (h : w.ownsRow B t size (.slice (some ⟨g, 0, none⟩) n c) N xs) : (putW w g o us).ownsRow B t size (.slice (some ⟨g, 0, none⟩) n c) N (putAll xs o us) := by
  induction us generalizing w xs o with
  | nil => exact h
  | cons u us ih =>
    refine ih (o + 1) ?_
    obtain ⟨A, cap, e, _⟩ := own_form h
    simp only [Value.slice.injEq] at e
    obtain ⟨_, rfl, _⟩ := e
    exact (h.stored _ _).1
theorem below_put {B g : Nat} {a w : World} (us : List Value) (o : Nat) (h : Below B a w) (hg : B ≤ g) : Below B a (putW w g o us) := by
  induction us generalizing w o with
  | nil => exact h
  | cons u us ih => exact ih (o + 1) (h.setCell (p := ⟨g, o, none⟩) hg u)
theorem size_put {g : Nat} {w : World} (us : List Value) (o : Nat) : (putW w g o us).heap.size = w.heap.size := by
  induction us generalizing w o with
  | nil => rfl
  | cons u us ih => rw [putW, ih]; simp [World.setCell]

section
variable {α : Type} {t : TypeId} {n : Nat} {enc : α → List Value} {w w' : World} {B B' : Nat} {v : Value} {xs : List α}
theorem FL.on (h : FL t n enc w B v xs) (hb : Below w.heap.size w w') : FL t n enc w' B v xs := own_on h hb
theorem FL.less (h : FL t n enc w B v xs) (hB : B' ≤ B) : FL t n enc w B' v xs := own_less h hB
theorem FL.alloc (h : FL t n enc w B v xs) (o : Obj) : FL t n enc (w.alloc o) B v xs := World.ownsRow.alloc h o
theorem FL.drew (h : FL t n enc w B v xs) : FL t n enc w.drew B v xs := own_drewN h 1
theorem FL.nil (w : World) (B : Nat) : FL t n enc w B (.slice none 0 0) [] := World.ownsRow_nil w B _ _
theorem FL.form (h : FL t n enc w B v xs) : ∃ A cap, v = .slice A xs.length cap ∧ xs.length ≤ cap ∧ cap ≤ maxLen := by
  obtain ⟨A, cap, hv, h1, h2, _⟩ := own_form h
  exact ⟨A, cap, hv, h1, h2⟩
/-- The record k, in memory. -/
theorem FL.elem (he : ∀ x, (enc x).length = n) {A : Option Addr} {m c : Nat} (h : FL t n enc w B (.slice A m c) xs) {k : Nat} (hk : k < xs.length) :
    ∃ g x, A = some ⟨g, 0, none⟩ ∧ xs[k]? = some x ∧ B ≤ g ∧ g < w.heap.size ∧ ∀ (j : Nat) (u : Value), (enc x)[j]? = some u → w.cell? ⟨g, k * n + j, none⟩ = some u := by
  obtain ⟨A', cap, hv, h1, h2, h3⟩ := own_form h
  simp only [Value.slice.injEq] at hv
  obtain ⟨g, hA, hB, hg, hc, _⟩ := h3 (by omega)
  have hx : xs[k]? = some xs[k] := List.getElem?_eq_getElem hk
  exact ⟨g, xs[k], hv.1.trans hA, hx, hB, hg, fun j u hu => hc _ _ (flat_get he xs k _ hx j u hu)⟩
theorem FL.frozen {g m c : Nat} (h : FL t n enc w B (.slice (some ⟨g, 0, none⟩) m c) xs) (j : Nat) : w.frozen? ⟨g, j, none⟩ = false := by
  obtain ⟨A, c', e, _, _⟩ := h.form
  simp only [Value.slice.injEq] at e
  obtain ⟨_, rfl, _⟩ := e
  exact World.ownsRow.frozenAt h j
theorem FL.put (he : ∀ x, (enc x).length = n) {g m c : Nat} (h : FL t n enc w B (.slice (some ⟨g, 0, none⟩) m c) xs) {k : Nat} (hk : k < xs.length) (y : α) : FL t n enc (putW w g (k * n) (enc y)) B (.slice (some ⟨g, 0, none⟩) m c) (xs.set k y) := by
  unfold FL
  rw [← flat_put he xs k y hk, List.length_set]
  exact own_put _ _ h
theorem FL.base {g m c : Nat} (h : FL t n enc w B (.slice (some ⟨g, 0, none⟩) m c) xs) : B ≤ g ∧ g < w.heap.size := h.lt g rfl
end

/-- What is known of a list of records that came in. -/
structure AL {α : Type} (n : Nat) (enc : α → List Value) (w : World) (A : Option Addr) (m : Nat) (xs : List α) : Prop where
  len : xs.length = m
  elem : ∀ (k : Nat) (x : α), xs[k]? = some x → ∃ b off, A = some ⟨b, off, none⟩ ∧ b < w.heap.size ∧ ∀ (j : Nat) (u : Value), (enc x)[j]? = some u → w.cell? ⟨b, off + k * n + j, none⟩ = some u
theorem AL.on {α : Type} {n : Nat} {enc : α → List Value} {w w' : World} {A : Option Addr} {m : Nat} {xs : List α} (h : AL n enc w A m xs) (hb : Below w.heap.size w w') : AL n enc w' A m xs :=
  ⟨h.len, fun k x hx => by
    obtain ⟨b, off, hA, hbl, hc⟩ := h.elem k x hx
    exact ⟨b, off, hA, Nat.lt_of_lt_of_le hbl hb.size, fun j u hu => (hb.cell (p := ⟨b, _, none⟩) hbl).trans (hc j u hu)⟩⟩

/-! ## Libraries -/

structure ShapeD where
  layer : Int
  box : Rc
structure LabelD where
  layer : Int
  x : Int
  y : Int
  name : ByteArray
structure InstD where
  cell : Int
  o : Int
  x : Int
  y : Int
  cols : Int
  rows : Int
  sx : Int
  sy : Int
structure CellD where
  name : ByteArray
  shapes : List ShapeD
  labels : List LabelD
  insts : List InstD

def ShapeD.vals (s : ShapeD) : List Value := [.int .i64 s.layer, .int .i64 s.box.x0, .int .i64 s.box.y0, .int .i64 s.box.x1, .int .i64 s.box.y1]
def LabelD.vals (l : LabelD) : List Value := [.int .i64 l.layer, .int .i64 l.x, .int .i64 l.y, .string l.name]
def InstD.vals (i : InstD) : List Value := [.int .i64 i.cell, .int .i64 i.o, .int .i64 i.x, .int .i64 i.y, .int .i64 i.cols, .int .i64 i.rows, .int .i64 i.sx, .int .i64 i.sy]
theorem ShapeD.len (s : ShapeD) : s.vals.length = 5 := rfl
theorem LabelD.len (s : LabelD) : s.vals.length = 4 := rfl
theorem InstD.len (s : InstD) : s.vals.length = 8 := rfl
abbrev ShL := FL 70 5 ShapeD.vals
abbrev LaL := FL 121 4 LabelD.vals
abbrev InL := FL 74 8 InstD.vals
abbrev ShA := AL 5 ShapeD.vals
abbrev LaA := AL 4 LabelD.vals
abbrev InA := AL 8 InstD.vals

/-- What the three slices of a cell are. -/
structure Sl3 where
  s : Value
  l : Value
  i : Value
structure C3 (w : World) (B : Nat) (u : Sl3) (c : CellD) : Prop where
  s : ShL w B u.s c.shapes
  l : LaL w B u.l c.labels
  i : InL w B u.i c.insts
def cellV (p : CellD × Sl3) : List Value := [.string p.1.name, p.2.s, p.2.l, p.2.i]
theorem cellV_len (p : CellD × Sl3) : (cellV p).length = 4 := rfl
/-- The slice value v is a list of cells. -/
structure CW (w : World) (B : Nat) (v : Value) (ps : List (CellD × Sl3)) : Prop where
  own : FL 67 4 cellV w B v ps
  each : ∀ (k : Nat) (p : CellD × Sl3), ps[k]? = some p → C3 w B p.2 p.1
section
variable {w w' : World} {B B' : Nat} {u : Sl3} {c : CellD} {v : Value} {ps : List (CellD × Sl3)}
theorem C3.on (h : C3 w B u c) (hb : Below w.heap.size w w') : C3 w' B u c := ⟨h.s.on hb, h.l.on hb, h.i.on hb⟩
theorem C3.less (h : C3 w B u c) (hB : B' ≤ B) : C3 w B' u c := ⟨h.s.less hB, h.l.less hB, h.i.less hB⟩
theorem CW.on (h : CW w B v ps) (hb : Below w.heap.size w w') : CW w' B v ps := ⟨h.own.on hb, fun k p hp => (h.each k p hp).on hb⟩
theorem CW.less (h : CW w B v ps) (hB : B' ≤ B) : CW w B' v ps := ⟨h.own.less hB, fun k p hp => (h.each k p hp).less hB⟩
theorem CW.alloc (h : CW w B v ps) (o : Obj) : CW (w.alloc o) B v ps := h.on ((Below.refl _ _).alloc (Nat.le_refl _) o)
theorem CW.drew (h : CW w B v ps) : CW w.drew B v ps := h.on (Below.refl _ _).drew
theorem CW.form (h : CW w B v ps) : ∃ A cap, v = .slice A ps.length cap ∧ ps.length ≤ cap ∧ cap ≤ maxLen := h.own.form
/-- The cell k, in memory. -/
theorem CW.elem {A : Option Addr} {m n k : Nat} (h : CW w B (.slice A m n) ps) (hk : k < ps.length) : ∃ g p, A = some ⟨g, 0, none⟩ ∧ ps[k]? = some p ∧ g < w.heap.size ∧ w.cell? ⟨g, k * 4, none⟩ = some (.string p.1.name) ∧ w.cell? ⟨g, k * 4 + 1, none⟩ = some p.2.s ∧
    w.cell? ⟨g, k * 4 + 2, none⟩ = some p.2.l ∧ w.cell? ⟨g, k * 4 + 3, none⟩ = some p.2.i ∧ C3 w B p.2 p.1 := by
  obtain ⟨g, p, hA, hp, -, hg, hc⟩ := h.own.elem cellV_len hk
  exact ⟨g, p, hA, hp, hg, hc 0 _ rfl, hc 1 _ rfl, hc 2 _ rfl, hc 3 _ rfl, h.each k p hp⟩
end

/-- What is known of a list of cells that came in. -/
structure CA (w : World) (A : Option Addr) (m : Nat) (cs : List CellD) : Prop where
  len : cs.length = m
  elem : ∀ (k : Nat) (c : CellD), cs[k]? = some c → ∃ b off A1 n1 c1 A2 n2 c2 A3 n3 c3, A = some ⟨b, off, none⟩ ∧ b < w.heap.size ∧ w.cell? ⟨b, off + k * 4, none⟩ = some (.string c.name) ∧ w.cell? ⟨b, off + k * 4 + 1, none⟩ = some (.slice A1 n1 c1) ∧
    w.cell? ⟨b, off + k * 4 + 2, none⟩ = some (.slice A2 n2 c2) ∧ w.cell? ⟨b, off + k * 4 + 3, none⟩ = some (.slice A3 n3 c3) ∧ (n1 ≤ c1 ∧ c1 ≤ maxLen) ∧ (n2 ≤ c2 ∧ c2 ≤ maxLen) ∧ (n3 ≤ c3 ∧ c3 ≤ maxLen) ∧ ShA w A1 n1 c.shapes ∧ LaA w A2 n2 c.labels ∧ InA w A3 n3 c.insts
theorem CA.on {w w' : World} {A : Option Addr} {m : Nat} {cs : List CellD} (h : CA w A m cs) (hb : Below w.heap.size w w') : CA w' A m cs :=
  ⟨h.len, fun k c hc => by
    obtain ⟨b, off, A1, n1, c1, A2, n2, c2, A3, n3, c3, hA, hbl, h0, h1, h2, h3, m1, m2, m3, s1, s2, s3⟩ := h.elem k c hc
    exact ⟨b, off, A1, n1, c1, A2, n2, c2, A3, n3, c3, hA, Nat.lt_of_lt_of_le hbl hb.size, (hb.cell (p := ⟨b, _, none⟩) hbl).trans h0, (hb.cell (p := ⟨b, _, none⟩) hbl).trans h1, (hb.cell (p := ⟨b, _, none⟩) hbl).trans h2, (hb.cell (p := ⟨b, _, none⟩) hbl).trans h3, m1, m2, m3, s1.on hb, s2.on hb, s3.on hb⟩⟩

end Go.Proofs.YtgegbgkokkdmpaaGreat

namespace Go.Proofs.YtgegbgkokkdmpaaGreat
open Go.RowKit

/-- The mark of the element i. -/
def mark (k : Int) (i : Nat) : Rc := ⟨k + 4 * i, k + 4 * i + 1, k + 4 * i + 2, k + 4 * i + 3⟩
def marks (k : Int) (n : Nat) : List Rc := (List.range n).map (mark k)
theorem marks_length (k : Int) (n : Nat) : (marks k n).length = n := by simp [marks]
theorem marks_get (k : Int) (n i : Nat) (h : i < n) : (marks k n)[i]? = some (mark k i) := by simp [marks, h]
/-- The first j elements are marked. -/
def mixed (k : Int) (rs : List Rc) (j : Nat) : List Rc := marks k j ++ rs.drop j
theorem mixed_length (k : Int) (rs : List Rc) (j : Nat) (h : j ≤ rs.length) : (mixed k rs j).length = rs.length := by
  simp only [mixed, List.length_append, marks_length, List.length_drop]; omega
theorem mixed_step (k : Int) (rs : List Rc) (j : Nat) (h : j < rs.length) : (mixed k rs j).set j (mark k j) = mixed k rs (j + 1) := by
  have e : rs.drop j = rs[j] :: rs.drop (j + 1) := List.drop_eq_getElem_cons h
  have e2 : marks k (j + 1) = marks k j ++ [mark k j] := by simp [marks, List.range_succ]
  unfold mixed
  rw [List.set_append_right _ _ (by rw [marks_length]; exact Nat.le_refl _), marks_length, Nat.sub_self, e, List.set_cons_zero, e2, List.append_assoc]
  rfl
theorem mixed_end (k : Int) (rs : List Rc) : mixed k rs rs.length = marks k rs.length := by simp [mixed]

end Go.Proofs.YtgegbgkokkdmpaaGreat

namespace Go.Proofs.YtgegbgkokkdmpaaGreat
open Go.RowKit

theorem flatR_zeros (n : Nat) : (madeCells #[.int .i64 0, .int .i64 0, .int .i64 0, .int .i64 0] (n * 4)).toList = flatR (List.replicate n ⟨0, 0, 0, 0⟩) := by
  have h : ∀ n, flatR (List.replicate n ⟨0, 0, 0, 0⟩) = List.replicate (n * 4) (Value.int .i64 0) := by
    intro n
    induction n with
    | zero => rfl
    | succ n ih =>
      have e : (n + 1) * 4 = n * 4 + 4 := by omega
      rw [List.replicate_succ, show flatR ((⟨0, 0, 0, 0⟩ : Rc) :: List.replicate n ⟨0, 0, 0, 0⟩) = Rc.vals ⟨0, 0, 0, 0⟩ ++ flatR (List.replicate n ⟨0, 0, 0, 0⟩) from rfl, ih, e, Nat.add_comm, ← List.replicate_append_replicate]
      rfl
  rw [h]
  apply List.ext_getElem?
  intro j
  simp only [madeCells, Array.toList_map, Array.toList_range, List.getElem?_map, List.getElem?_replicate]
  by_cases hj : j < n * 4
  · rw [List.getElem?_range hj, if_pos hj]
    simp only [Option.map_some, Option.some.injEq]
    have h4 : j % 4 < 4 := Nat.mod_lt _ (by omega)
    show (#[Value.int .i64 0, .int .i64 0, .int .i64 0, .int .i64 0] : Array Value)[j % 4]! = _
    generalize j % 4 = q at h4
    match q, h4 with
    | 0, _ => rfl
    | 1, _ => rfl
    | 2, _ => rfl
    | 3, _ => rfl
  · rw [if_neg hj, List.getElem?_eq_none (by simp; omega)]
    rfl

theorem RL.some4 {w : World} {B g n c : Nat} {rs : List Rc} (h : RL w B (.slice (some ⟨g, 0, none⟩) n c) rs) {k : Nat} (hk : k < rs.length) : ∃ x0 y0 x1 y1 : Int,
    w.cell? ⟨g, k * 4, none⟩ = some (.int .i64 x0) ∧ w.cell? ⟨g, k * 4 + 1, none⟩ = some (.int .i64 y0) ∧ w.cell? ⟨g, k * 4 + 2, none⟩ = some (.int .i64 x1) ∧ w.cell? ⟨g, k * 4 + 3, none⟩ = some (.int .i64 y1) := by
  obtain ⟨g', x0, y0, x1, y1, hA, _, _, h0, h1, h2, h3⟩ := h.elem hk
  simp only [Option.some.injEq, Addr.mk.injEq, and_true] at hA
  subst hA
  exact ⟨x0, y0, x1, y1, h0, h1, h2, h3⟩

/-- The first k elements are laid. -/
def laidR (rs : List Rc) (k : Nat) : List Rc := rs.take k ++ List.replicate (rs.length - k) ⟨0, 0, 0, 0⟩
theorem laidR_length (rs : List Rc) (k : Nat) (h : k ≤ rs.length) : (laidR rs k).length = rs.length := by simp [laidR]; omega
theorem laidR_step {rs : List Rc} {k : Nat} {r : Rc} (h : rs[k]? = some r) : (laidR rs k).set k r = laidR rs (k + 1) := by
  have hk : k < rs.length := (List.getElem?_eq_some_iff.1 h).1
  have hl : (rs.take k).length = k := by rw [List.length_take]; omega
  have e : rs.length - k = (rs.length - (k + 1)) + 1 := by omega
  unfold laidR
  rw [List.set_append_right _ _ (by omega), hl, Nat.sub_self, e, List.replicate_succ, List.set_cons_zero, List.take_add_one, h, List.append_assoc]
  rfl

end Go.Proofs.YtgegbgkokkdmpaaGreat

namespace Go.Proofs.YtgegbgkokkdmpaaGreat
open Go.RowKit

/-- A row from block N on, kept while one below N is written. -/
theorem own_near {w w' : World} {B N n size : Nat} {e : TypeId} {v u : Value} {xs : List Value} (h : w.ownsRow B e size v n xs) (hN : ∀ g, v.ownBlock = some g → N ≤ g) (hg : w.grownBy w' u.ownBlock) (hu : ∀ g, u.ownBlock = some g → g < N) : w'.ownsRow B e size v n xs := by
  refine h.kept hg ?_
  cases hv : v.ownBlock with
  | none => exact .inl rfl
  | some g =>
    right
    intro e
    have h1 := hN g hv
    have h2 := hu g e.symm
    omega

theorem RL.far {w w' : World} {B N : Nat} {v u : Value} {rs : List Rc} (h : RL w B v rs) (hN : ∀ g, v.ownBlock = some g → g < N) (hg : w.grownBy w' u.ownBlock) (hu : ∀ g, u.ownBlock = some g → N ≤ g) : RL w' B v rs := own_far h hN hg hu
theorem RL.near {w w' : World} {B N : Nat} {v u : Value} {rs : List Rc} (h : RL w B v rs) (hN : ∀ g, v.ownBlock = some g → N ≤ g) (hg : w.grownBy w' u.ownBlock) (hu : ∀ g, u.ownBlock = some g → g < N) : RL w' B v rs := own_near h hN hg hu

end Go.Proofs.YtgegbgkokkdmpaaGreat
