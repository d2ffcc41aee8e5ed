/- Plain law of FnElements: elements, occurrences, flattened shapes of a valid library. No conditions. Lists of elements and of occurrences in memory. No conditions. -/
import Derived.Test.YtgegbgkokkdmpaaGreatQ21
import Derived.Test.YtgegbgkokkdmpaaGreatQ24
import Derived.Test.YtgegbgkokkdmpaaGreatQ14

namespace Go.Proofs.YtgegbgkokkdmpaaGreat

/-! Elements of a cell. -/
def elT (i : InstD) (c r : Nat) : Tf := ⟨i.o, i.x + c * i.sx, i.y + r * i.sy⟩
/-- The first n elements of row r. -/
def rowEl (i : InstD) (r n : Nat) : List (Int × Tf) := (List.range n).map fun c => (i.cell, elT i c r)
/-- The first n rows. -/
def insEl (i : InstD) (n : Nat) : List (Int × Tf) := (List.range n).flatMap fun r => rowEl i r i.cols.toNat
def elsTo (is : List InstD) (n : Nat) : List (Int × Tf) := (is.take n).flatMap fun i => insEl i i.rows.toNat
def elsOf (c : CellD) : List (Int × Tf) := elsTo c.insts c.insts.length
theorem rowEl_len (i : InstD) (r n : Nat) : (rowEl i r n).length = n := by simp [rowEl]
theorem rowEl_succ (i : InstD) (r n : Nat) : rowEl i r (n + 1) = rowEl i r n ++ [(i.cell, elT i n r)] := by simp [rowEl, List.range_succ]
theorem insEl_succ (i : InstD) (n : Nat) : insEl i (n + 1) = insEl i n ++ rowEl i n i.cols.toNat := by simp [insEl, List.range_succ, List.flatMap_append]
theorem insEl_len (i : InstD) : ∀ n, (insEl i n).length = n * i.cols.toNat
  | 0 => by simp [insEl]
  | n + 1 => by rw [insEl_succ, List.length_append, insEl_len i n, rowEl_len, Nat.succ_mul]
theorem elsTo_succ {is : List InstD} {n : Nat} {i : InstD} (h : is[n]? = some i) : elsTo is (n + 1) = elsTo is n ++ insEl i i.rows.toNat := by
  unfold elsTo
  rw [List.take_add_one, h, Option.toList_some, List.flatMap_append]
  simp
/-- What a valid instance is. -/
theorem inst_facts {i : InstD} {k : Int} (h : instB i k = true) : (0 ≤ i.cell ∧ i.cell ≤ k - 1) ∧ ((0 ≤ i.o ∧ i.o ≤ 7) ∧ (-80 ≤ i.x ∧ i.x ≤ 80) ∧ (-80 ≤ i.y ∧ i.y ≤ 80)) ∧ (1 ≤ i.cols ∧ i.cols ≤ 4) ∧ (1 ≤ i.rows ∧ i.rows ≤ 4) ∧ (-80 ≤ i.sx ∧ i.sx ≤ 80) ∧ (-80 ≤ i.sy ∧ i.sy ≤ 80) := by
  unfold instB transB inB at h
  simp only [Bool.and_eq_true, decide_eq_true_eq] at h
  obtain ⟨⟨⟨⟨⟨⟨⟨h1, ⟨h2, h3⟩, h4⟩, h5⟩, h6⟩, h7⟩, h8⟩, -⟩, -⟩ := h
  exact ⟨h1, ⟨h2, h3, h4⟩, h5, h6, h7, h8⟩
/-- What a valid library's cell is. -/
theorem lib_facts {cs : List CellD} (h : libB cs = true) : (1 ≤ cs.length ∧ cs.length ≤ 8) ∧ ∀ (k : Nat) (c : CellD), cs[k]? = some c → c.shapes.length ≤ 24 ∧ c.insts.length ≤ 8 ∧ (∀ s ∈ c.shapes, shapeB s = true) ∧ (∀ i ∈ c.insts, instB i (k : Int) = true) := by
  unfold libB at h
  simp only [Bool.and_eq_true, decide_eq_true_eq] at h
  refine ⟨by omega, fun k c hc => ?_⟩
  have hk := (List.getElem?_eq_some_iff.1 hc).1
  have h2 := List.all_eq_true.1 h.2 k (List.mem_range.2 hk)
  rw [okAt_eq hc, Bool.and_eq_true] at h2
  have h3 := h2.1
  unfold cellB badS badI at h3
  simp only [Bool.and_eq_true, decide_eq_true_eq, Bool.not_eq_true', List.any_eq_false, Bool.not_eq_false] at h3
  refine ⟨by omega, by omega, fun s hs => ?_, fun i hi => ?_⟩
  · have := h3.1.1.2 s hs
    simpa using this
  · have := h3.2 i hi
    simpa using this
theorem elsTo_len {is : List InstD} {k : Int} (h : ∀ i ∈ is, instB i k = true) : ∀ n, n ≤ is.length → (elsTo is n).length ≤ 16 * n := by
  intro n
  induction n with
  | zero => intro _; simp [elsTo]
  | succ n ih =>
    intro hn
    have hx : is[n]? = some is[n] := List.getElem?_eq_getElem (by omega)
    have hi := inst_facts (h _ (List.getElem_mem (by omega : n < is.length)))
    rw [elsTo_succ hx, List.length_append, insEl_len]
    have := ih (by omega)
    have : is[n].rows.toNat * is[n].cols.toNat ≤ 4 * 4 := Nat.mul_le_mul (by omega) (by omega)
    omega
theorem elsOf_len {c : CellD} {k : Int} (h : ∀ i ∈ c.insts, instB i k = true) (h8 : c.insts.length ≤ 8) : (elsOf c).length ≤ 128 := by
  have := elsTo_len h c.insts.length (Nat.le_refl _)
  unfold elsOf
  omega
theorem mem_els {c : CellD} {k : Int} (h : ∀ i ∈ c.insts, instB i k = true) {e : Int × Tf} (he : e ∈ elsOf c) : (0 ≤ e.1 ∧ e.1 < k) ∧ (0 ≤ e.2.o ∧ e.2.o ≤ 7) ∧ (-320 ≤ e.2.x ∧ e.2.x ≤ 320) ∧ (-320 ≤ e.2.y ∧ e.2.y ≤ 320) := by
  unfold elsOf elsTo insEl rowEl at he
  simp only [List.take_length, List.mem_flatMap, List.mem_range, List.mem_map] at he
  obtain ⟨i, hi, r, hr, c', hc, rfl⟩ := he
  have hf := inst_facts (h i hi)
  have hb : ∀ (m : Nat) (s : Int), m < 4 → -80 ≤ s → s ≤ 80 → -240 ≤ (m : Int) * s ∧ (m : Int) * s ≤ 240 := by
    intro m s hm h1 h2
    have : m = 0 ∨ m = 1 ∨ m = 2 ∨ m = 3 := by omega
    rcases this with rfl | rfl | rfl | rfl <;> constructor <;> omega
  have b1 := hb c' i.sx (by omega) (by omega) (by omega)
  have b2 := hb r i.sy (by omega) (by omega) (by omega)
  unfold elT
  dsimp only
  omega

/-! Occurrences. -/
def compO (a b : Int) : Int := if 4 ≤ b then (b % 4 + 4 - a % 4) % 4 + (if 4 ≤ a then 0 else 4) else (b % 4 + a % 4) % 4 + (if 4 ≤ a then 4 else 0)
/-- a inside b. -/
def compT (a b : Tf) : Tf := ⟨compO a.o b.o, moveX b a.x a.y, moveY b a.x a.y⟩
theorem compO_in (a b : Int) : 0 ≤ compO a b ∧ compO a b ≤ 7 := by
  unfold compO
  split
  · split <;> omega
  · split <;> omega
def Sml (m : Int) (t : Tf) : Prop := (0 ≤ t.o ∧ t.o ≤ 7) ∧ (-m ≤ t.x ∧ t.x ≤ m) ∧ (-m ≤ t.y ∧ t.y ≤ m)
theorem turn_sml {o x y m : Int} (hx : -m ≤ x ∧ x ≤ m) (hy : -m ≤ y ∧ y ≤ m) : (-m ≤ turnX o x y ∧ turnX o x y ≤ m) ∧ (-m ≤ turnY o x y ∧ turnY o x y ≤ m) := by
  unfold turnX turnY
  constructor
  · repeat' split
    all_goals omega
  · repeat' split
    all_goals omega
theorem comp_sml {a b : Tf} {m n : Int} (ha : Sml m a) (hb : Sml n b) : Sml (m + n) (compT a b) := by
  obtain ⟨h1, h2, h3⟩ := ha
  obtain ⟨g1, g2, g3⟩ := hb
  have ht := turn_sml (o := b.o) h2 h3
  refine ⟨compO_in _ _, ?_, ?_⟩
  · unfold compT moveX; dsimp only; omega
  · unfold compT moveY; dsimp only; omega

structure OcD where
  cell : Int
  t : Tf
  path : List Int
def elAt (cs : List CellD) (k : Int) : List (Int × Tf) := match cs[k.toNat]? with
  | some c => elsOf c
  | none => []
theorem elAt_of {cs : List CellD} {k : Nat} {c : CellD} (h : cs[k]? = some c) : elAt cs (k : Int) = elsOf c := by
  unfold elAt
  rw [Int.toNat_natCast, h]
/-- The child of o by its element number k. -/
def kid (o : OcD) (e : Int × Tf) (k : Nat) : OcD := ⟨e.1, compT e.2 o.t, o.path ++ [(k : Int)]⟩
def occ (cs : List CellD) : Nat → OcD → List OcD
  | 0, _ => []
  | n + 1, o => o :: (List.range (elAt cs o.cell).length).flatMap fun k => match (elAt cs o.cell)[k]? with
    | some e => occ cs n (kid o e k)
    | none => []
/-- The occurrences below o by its first k elements. -/
def below (cs : List CellD) (n : Nat) (o : OcD) (k : Nat) : List OcD := (List.range k).flatMap fun k => match (elAt cs o.cell)[k]? with
    | some e => occ cs n (kid o e k)
    | none => []
theorem occ_succ (cs : List CellD) (n : Nat) (o : OcD) : occ cs (n + 1) o = o :: below cs n o (elAt cs o.cell).length := rfl
theorem below_zero (cs : List CellD) (n : Nat) (o : OcD) : below cs n o 0 = [] := rfl
theorem below_succ {cs : List CellD} {n : Nat} {o : OcD} {k : Nat} {e : Int × Tf} (h : (elAt cs o.cell)[k]? = some e) : below cs n o (k + 1) = below cs n o k ++ occ cs n (kid o e k) := by
  unfold below
  rw [List.range_succ, List.flatMap_append]
  simp [h]
theorem below_le {cs : List CellD} {n : Nat} {o : OcD} : ∀ {k m : Nat}, k ≤ m → (below cs n o k).length ≤ (below cs n o m).length
  | k, 0, h => by obtain rfl : k = 0 := (by omega); exact Nat.le_refl _
  | k, m + 1, h => by
    by_cases e : k = m + 1
    · rw [e]; exact Nat.le_refl _
    · refine Nat.le_trans (below_le (k := k) (m := m) (by omega)) ?_
      unfold below
      rw [List.range_succ, List.flatMap_append, List.length_append]
      omega

/-! How many there are. -/
def cntI (cn : List Int) (i : InstD) : Int := i.cols * i.rows * cn.getD i.cell.toNat 0
def cntC (cn : List Int) (c : CellD) (k : Nat) : Int := 1 + ((c.insts.take k).map (cntI cn)).sum
def cntTo (cs : List CellD) : Nat → List Int
  | 0 => []
  | n + 1 => match cs[n]? with
    | some c => cntTo cs n ++ [cntC (cntTo cs n) c c.insts.length]
    | none => cntTo cs n
def cntO (cs : List CellD) (k : Int) : Int := (cntTo cs (k.toNat + 1)).getD k.toNat 0

/-! Shapes of occurrences. -/
def shAt (cs : List CellD) (k : Int) : List ShapeD := match cs[k.toNat]? with
  | some c => c.shapes
  | none => []
def mvS (t : Tf) (s : ShapeD) : ShapeD := ⟨s.layer, moveR t s.box⟩
def rootP (p : List Int) : Int := p.headD (-1)
/-- The shapes of an occurrence, with its root. -/
def rsOf (cs : List CellD) (o : OcD) : List (Int × ShapeD) := (shAt cs o.cell).map fun s => (rootP o.path, mvS o.t s)
def rsAll (cs : List CellD) (os : List OcD) : List (Int × ShapeD) := os.flatMap (rsOf cs)
def okS (x : Int × ShapeD) : Bool := okRc x.2.box
/-- The occurrences below cell k. -/
def occK (cs : List CellD) (k : Int) : List OcD := occ cs (k.toNat + 1) ⟨k, ⟨0, 0, 0⟩, []⟩
/-- All is well with the flattened cell. -/
def flatOk (cs : List CellD) (k : Int) : Prop := libB cs = true ∧ (0 ≤ k ∧ k < cs.length) ∧ (occK cs k).length ≤ 200 ∧ (∀ o ∈ occK cs k, transB o.t.o o.t.x o.t.y = true) ∧ ∀ x ∈ rsAll cs (occK cs k), okS x = true
/-- The cells of a layer. -/
def layG (l : List ShapeD) (k : Int) : Gr := cellsG ((l.filter fun s => decide (s.layer = k)).map ShapeD.box)
def layL (l : List ShapeD) (n : Nat) : List (List Rc) := (List.range n).map fun (k : Nat) => canon (layG l (k : Int))
theorem layL_len (l : List ShapeD) (n : Nat) : (layL l n).length = n := by simp [layL]
theorem layL_succ (l : List ShapeD) (n : Nat) : layL l (n + 1) = layL l n ++ [canon (layG l (n : Int))] := by simp [layL, List.range_succ]
def pick (p : Int → Bool) (xs : List (Int × ShapeD)) : List ShapeD := (xs.filter fun x => p x.1).map Prod.snd

end Go.Proofs.YtgegbgkokkdmpaaGreat

namespace Go.Proofs.YtgegbgkokkdmpaaGreat
open Go.RowKit

/-- An element's cells. -/
def elV (e : Int × Tf) : List Value := [.int .i64 e.1, .int .i64 e.2.o, .int .i64 e.2.x, .int .i64 e.2.y]
theorem elV_len (e : Int × Tf) : (elV e).length = 4 := rfl
theorem elV_one (e : Int × Tf) : ∀ x ∈ elV e, x.oneCell' = true := by
  intro x hx
  simp only [elV, List.mem_cons, List.not_mem_nil, or_false] at hx
  rcases hx with rfl | rfl | rfl | rfl <;> rfl
abbrev ElL := FL 114 4 elV
/-- An occurrence's cells; the second component is its path. -/
def ocV (p : OcD × Value) : List Value := [.int .i64 p.1.cell, .int .i64 p.1.t.o, .int .i64 p.1.t.x, .int .i64 p.1.t.y, p.2]
theorem ocV_len (p : OcD × Value) : (ocV p).length = 5 := rfl
theorem infoEl : (Tryz.prog.info? 114).map (fun i => (i.zero, i.size, i.bytes)) = some (some (.agg #[.int .i64 0, .int .i64 0, .int .i64 0, .int .i64 0]), 4, 32) := by kernel_rfl
theorem infoOc : (Tryz.prog.info? 80).map (fun i => (i.zero, i.size, i.bytes)) = some (some (.agg #[.int .i64 0, .int .i64 0, .int .i64 0, .int .i64 0, .slice none 0 0]), 5, 56) := by kernel_rfl
/-- The slice value v is the list of the occurrences ps, each with its path. -/
structure OW (w : World) (B : Nat) (v : Value) (ps : List (OcD × Value)) : Prop where
  own : FL 80 5 ocV w B v ps
  each : ∀ (k : Nat) (p : OcD × Value), ps[k]? = some p → IL w 0 p.2 p.1.path
theorem ocV_one {w : World} {o : OcD} {u : Value} (h : IL w 0 u o.path) : ∀ x ∈ ocV (o, u), x.oneCell' = true := by
  obtain ⟨_, _, rfl, -, -⟩ := h.form
  intro x hx
  simp only [ocV, List.mem_cons, List.not_mem_nil, or_false] at hx
  rcases hx with rfl | rfl | rfl | rfl | rfl <;> rfl
/-- What a list became: its own block has grown, or it lies in a new one. -/
structure Ext (w : World) (v : Value) (w' : World) (v' : Value) : Prop where
  gro : w.grownBy w' v.ownBlock
  at_ : ∀ g, v'.ownBlock = some g → v.ownBlock = some g ∨ w.heap.size ≤ g
section
variable {w w' w1 w2 : World} {B B' : Nat} {v v' v1 v2 : Value} {ps : List (OcD × Value)}
theorem OW.on (h : OW w B v ps) (hb : Below w.heap.size w w') : OW w' B v ps := ⟨h.own.on hb, fun k p hp => (h.each k p hp).on hb⟩
theorem OW.less (h : OW w B v ps) (hB : B' ≤ B) : OW w B' v ps := ⟨h.own.less hB, h.each⟩
theorem OW.form (h : OW w B v ps) : ∃ A cap, v = .slice A ps.length cap ∧ ps.length ≤ cap ∧ cap ≤ maxLen := h.own.form
theorem OW.nil (w : World) (B : Nat) : OW w B (.slice none 0 0) [] := ⟨FL.nil w B, fun k p h => by cases h⟩
theorem OW.lt (h : OW w B v ps) : ∀ g, v.ownBlock = some g → B ≤ g ∧ g < w.heap.size := World.ownsRow.lt h.own
/-- The occurrence k, in memory. -/
theorem OW.elem {A : Option Addr} {m n k : Nat} (h : OW w B (.slice A m n) ps) (hk : k < ps.length) : ∃ g p, A = some ⟨g, 0, none⟩ ∧ ps[k]? = some p ∧ g < w.heap.size ∧ w.cell? ⟨g, k * 5, none⟩ = some (.int .i64 p.1.cell) ∧ w.cell? ⟨g, k * 5 + 1, none⟩ = some (.int .i64 p.1.t.o) ∧
    w.cell? ⟨g, k * 5 + 2, none⟩ = some (.int .i64 p.1.t.x) ∧ w.cell? ⟨g, k * 5 + 3, none⟩ = some (.int .i64 p.1.t.y) ∧ w.cell? ⟨g, k * 5 + 4, none⟩ = some p.2 ∧ IL w 0 p.2 p.1.path := by
  obtain ⟨g, p, hA, hp, -, hg, hc⟩ := h.own.elem ocV_len hk
  exact ⟨g, p, hA, hp, hg, hc 0 _ rfl, hc 1 _ rfl, hc 2 _ rfl, hc 3 _ rfl, hc 4 _ rfl, h.each k p hp⟩
theorem Ext.refl (w : World) (v : Value) : Ext w v w v := ⟨only_refl _ _, fun _ h => .inl h⟩
theorem Ext.of (hb : Below w.heap.size w w') : Ext w v w' v := ⟨only_below (only_refl _ _) hb, fun _ h => .inl h⟩
theorem Ext.trans (h : Ext w v w1 v1) (k : Ext w1 v1 w2 v2) : Ext w v w2 v2 := by
  refine ⟨⟨k.gro.os.trans h.gro.os, k.gro.tape.trans h.gro.tape, k.gro.output.trans h.gro.output, Nat.le_trans h.gro.size k.gro.size, fun j hj hne => (k.gro.block j (Nat.lt_of_lt_of_le hj h.gro.size) fun e => ?_).trans (h.gro.block j hj hne)⟩, fun g hg => ?_⟩
  · rcases h.at_ j e.symm with h1 | h1
    · exact hne h1.symm
    · omega
  · rcases k.at_ g hg with h1 | h1
    · exact h.at_ g h1
    · exact .inr (Nat.le_trans h.gro.size h1)
theorem Ext.on (h : Ext w v w1 v1) (hb : Below w1.heap.size w1 w2) : Ext w v w2 v1 := h.trans (Ext.of hb)
/-- The list has grown by one. -/
theorem OW.push {o : OcD} {u : Value} (h : OW w B v ps) (h1 : FL 80 5 ocV w' B v' (ps ++ [(o, u)])) (hg : w.grownBy w' v.ownBlock) (hu : IL w 0 u o.path) : OW w' B v' (ps ++ [(o, u)]) :=
  ⟨h1, fun k p hp => by
    rcases Nat.lt_or_ge k ps.length with hk | hk
    · rw [List.getElem?_append_left hk] at hp
      exact World.ownsRow.kept (h.each k p hp) hg (own_types (h.each k p hp) h.own (by decide))
    · rw [List.getElem?_append_right hk] at hp
      obtain rfl : p = (o, u) := by
        have := List.mem_of_getElem? hp
        simpa using this
      exact World.ownsRow.kept hu hg (own_types hu h.own (by decide))⟩
/-- What is of another type stays. -/
theorem OW.bk {g : Nat} {t : TypeId} {cs : Array Value} (h : OW w B v ps) (hg : w.grownBy w' v.ownBlock) (hb : Bk w g t cs) (ht : t ≠ 80) : Bk w' g t cs := hb.grown hg (not_row h.own hb ht)
theorem OW.ints {u : Value} {xs : List Int} (h : OW w B v ps) (hg : w.grownBy w' v.ownBlock) (hu : IL w B' u xs) : IL w' B' u xs := World.ownsRow.kept hu hg (own_types hu h.own (by decide))
theorem OW.els {u : Value} {xs : List (Int × Tf)} (h : OW w B v ps) (hg : w.grownBy w' v.ownBlock) (hu : ElL w B' u xs) : ElL w' B' u xs := World.ownsRow.kept hu hg (own_types hu h.own (by decide))
theorem C3.keptO {u : Sl3} {c : CellD} (h : OW w B v ps) (hg : w.grownBy w' v.ownBlock) (hu : C3 w B' u c) : C3 w' B' u c :=
  ⟨World.ownsRow.kept hu.s hg (own_types hu.s h.own (by decide)), World.ownsRow.kept hu.l hg (own_types hu.l h.own (by decide)), World.ownsRow.kept hu.i hg (own_types hu.i h.own (by decide))⟩
theorem CW.keptO {u : Value} {qs : List (CellD × Sl3)} (h : OW w B v ps) (hg : w.grownBy w' v.ownBlock) (hu : CW w B' u qs) : CW w' B' u qs :=
  ⟨World.ownsRow.kept hu.own hg (own_types hu.own h.own (by decide)), fun k p hp => C3.keptO h hg (hu.each k p hp)⟩
theorem LibV.keptO {u : Value} {cs : List CellD} (h : OW w B v ps) (hg : w.grownBy w' v.ownBlock) (hu : LibV w B' u cs) : LibV w' B' u cs := let ⟨qs, h1, h2⟩ := hu; ⟨qs, h1, CW.keptO h hg h2⟩
end
theorem FL.lit9 {α : Type} {t : TypeId} {n : Nat} {enc : α → List Value} (w : World) {B : Nat} (hB : B ≤ w.heap.size) : FL t n enc (w.alloc (.cells #[] t)) B (.slice (some ⟨w.heap.size, 0, none⟩) 0 0) [] := World.ownsRow_lit w #[] 0 hB (by simp [maxLen]) (by simp)
theorem box8 {w : World} {g : Nat} {t : TypeId} {a0 a1 a2 a3 a4 a5 a6 a7 : Value} (h : Bk w g t #[a0, a1, a2, a3, a4, a5, a6, a7]) : w.cell? ⟨g, 0, none⟩ = some a0 ∧ w.cell? ⟨g, 1, none⟩ = some a1 ∧ w.cell? ⟨g, 2, none⟩ = some a2 ∧ w.cell? ⟨g, 3, none⟩ = some a3 ∧ w.cell? ⟨g, 4, none⟩ = some a4 ∧ w.cell? ⟨g, 5, none⟩ = some a5 ∧ w.cell? ⟨g, 6, none⟩ = some a6 ∧ w.cell? ⟨g, 7, none⟩ = some a7 :=
  ⟨h.cell 0, h.cell 1, h.cell 2, h.cell 3, h.cell 4, h.cell 5, h.cell 6, h.cell 7⟩
/-- 'out = append(out, o)' for an occurrence. -/
theorem wpList_append_OW {w : World} {ops : Array Oper} {rest : List Oper} {o : Oper} {a : Act} {Q : Exit → Act → World → Prop} (hgd : o.guard = none) (s x : Operand)
    (ho : o.op = .call { callee := .builtin .append, args := #[s, x], argTypes := #[76, 76] })
    (B : Nat) (v : Value) (ps : List (OcD × Value)) (y : OcD) (u : Value) (hs : a.eval s = v) (hown : OW w B v ps) (hu : IL w 0 u y.path)
    (hx : a.eval x = .slice (some ⟨w.heap.size, 0, none⟩) 1 1) (hlen : ps.length ≤ 1000000) (hB : B ≤ w.heap.size)
    (h : ∀ v' w', OW w' B v' (ps ++ [(y, u)]) → Ext w v w' v' → wpList Tryz.prog ops Q rest (a.put o.dst v') w') :
    wpList Tryz.prog ops Q (o :: rest) a (w.alloc (.cells #[.int .i64 y.cell, .int .i64 y.t.o, .int .i64 y.t.x, .int .i64 y.t.y, u] 80)) := by
  obtain ⟨i, hi, hz, hsz', hby'⟩ := info_parts infoOc
  have b1 := (Below.refl w.heap.size w).alloc (Nat.le_refl _) (.cells #[.int .i64 y.cell, .int .i64 y.t.o, .int .i64 y.t.x, .int .i64 y.t.y, u] 80)
  refine wpList_append_own_at _ hgd s x 76 ho B 80 i _ 5 56 Tryz.underlying76 hi hz hsz' hby' rfl (by decide) v ps.length _ hs (FL.alloc hown.own _) ⟨w.heap.size, 0, none⟩ 1 1 (ocV (y, u)) hx rfl ?_ (ocV_one hu) (by simp only [maxLen]; omega) (by omega) (by simp; omega) ?_
  · intro j z hz
    rw [Addr.add_lit, World.cell?_alloc_new]
    simpa [ocV] using hz
  · intro v' w' h1 h2 _ h4
    refine h v' w' ((hown.on b1).push (FL.snoc h1) h2 (hu.on b1)) ((Ext.of b1).trans ⟨h2, fun g hg => ?_⟩)
    rcases h4 with h4 | h4
    · exact .inl (h4.symm.trans hg)
    · rw [h4] at hg
      exact .inr (Nat.le_of_eq (Option.some.inj hg))

end Go.Proofs.YtgegbgkokkdmpaaGreat
