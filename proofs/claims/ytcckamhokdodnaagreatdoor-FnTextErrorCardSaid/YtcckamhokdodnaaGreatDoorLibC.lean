/- Contracts: the laws' copies of cells and libraries, comparisons of equal ones. Conditions: few elements. -/
import Derived.Test.YtcckamhokdodnaaGreatDoorLibL
import Derived.Deep.RegionHeld3
namespace Go.Proofs.YtcckamhokdodnaaGreatDoor
open Go.RowKit

theorem FL.far {α : Type} {t : TypeId} {n : Nat} {enc : α → List Value} {w : World} {B : Nat} {v : Value} {xs : List α} (h : FL t n enc w B v xs) {p : Addr} (hp : p.block < B) (u : Value) : FL t n enc (w.setCell p u) B v xs :=
  own_other h (fun e => by have := (h.lt _ e).1; omega) u
theorem C3.far {w : World} {B : Nat} {u : Sl3} {c : CellD} (h : C3 w B u c) {p : Addr} (hp : p.block < B) (x : Value) : C3 (w.setCell p x) B u c := ⟨h.s.far hp x, h.l.far hp x, h.i.far hp x⟩

theorem bcell3 {W w1 : World} {n : Nat} (hb : Below W.heap.size W w1) (hn : n ≤ W.heap.size) : (∀ b o, b < n → w1.cell? ⟨b, o, none⟩ = W.cell? ⟨b, o, none⟩) ∧ (∀ b o, b < n → w1.frozen? ⟨b, o, none⟩ = W.frozen? ⟨b, o, none⟩) :=
  ⟨fun b o h => hb.cell (p := ⟨b, o, none⟩) (Nat.lt_of_lt_of_le h hn), fun b o h => hb.frozen (p := ⟨b, o, none⟩) (Nat.lt_of_lt_of_le h hn)⟩
theorem FL.out5 {α : Type} {t : TypeId} {n : Nat} {enc : α → List Value} {w : World} {B N : Nat} {v : Value} {xs : List α} (h : FL t n enc w B v xs) (hB : N + 3 ≤ B) (a b c d e : Value) :
    FL t n enc (((((w.setCell ⟨N + 1 + 1, 3, none⟩ a).setCell ⟨N + 1, 0, none⟩ b).setCell ⟨N + 1, 1, none⟩ c).setCell ⟨N + 1, 2, none⟩ d).setCell ⟨N + 1, 3, none⟩ e) N v xs :=
  (((((h.far (p := ⟨N + 1 + 1, 3, none⟩) (by dsimp only; omega) a).far (p := ⟨N + 1, 0, none⟩) (by dsimp only; omega) b).far (p := ⟨N + 1, 1, none⟩) (by dsimp only; omega) c).far (p := ⟨N + 1, 2, none⟩) (by dsimp only; omega) d).far (p := ⟨N + 1, 3, none⟩) (by dsimp only; omega) e).less (by omega)
theorem below_out5 {w u : World} {N : Nat} (h : Below N w u) (a b c d e : Value) :
    Below N w (((((u.setCell ⟨N + 1 + 1, 3, none⟩ a).setCell ⟨N + 1, 0, none⟩ b).setCell ⟨N + 1, 1, none⟩ c).setCell ⟨N + 1, 2, none⟩ d).setCell ⟨N + 1, 3, none⟩ e) :=
  ((((h.setCell (p := ⟨N + 1 + 1, 3, none⟩) (by dsimp only; omega) a).setCell (p := ⟨N + 1, 0, none⟩) (by dsimp only; omega) b).setCell (p := ⟨N + 1, 1, none⟩) (by dsimp only; omega) c).setCell (p := ⟨N + 1, 2, none⟩) (by dsimp only; omega) d).setCell (p := ⟨N + 1, 3, none⟩) (by dsimp only; omega) e
/-- A cell that was copied. -/
def IsCell (c : CellD) (w : World) (e : Ending) (w' : World) : Prop := ∃ u : Sl3, e = .returned (.agg #[.string c.name, u.s, u.l, u.i]) ∧ C3 w' w.heap.size u c ∧ Below w.heap.size w w'

theorem C3.put {w : World} {B g : Nat} {u : Sl3} {c : CellD} (us : List Value) (o : Nat) (h : C3 w B u c) (hg : g < B) : C3 (putW w g o us) B u c := by
  induction us generalizing w o with
  | nil => exact h
  | cons x us ih => exact ih (o + 1) (h.far (p := ⟨g, o, none⟩) hg x)
abbrev zeroP : CellD × Sl3 := (⟨⟨#[]⟩, [], [], []⟩, ⟨.slice none 0 0, .slice none 0 0, .slice none 0 0⟩)
theorem infoCell : (Tryz.prog.info? 46).map (fun i => (i.zero, i.size, i.bytes)) = some (some (.agg #[.string ⟨#[]⟩, .slice none 0 0, .slice none 0 0, .slice none 0 0]), 4, 88) := by kernel_rfl
theorem laid_set {α : Type} (qs : List α) (z p : α) (n : Nat) (h : qs.length < n) : (qs ++ List.replicate (n - qs.length) z).set qs.length p = (qs ++ [p]) ++ List.replicate (n - (qs ++ [p]).length) z := by
  have e : n - qs.length = (n - (qs ++ [p]).length) + 1 := by simp; omega
  rw [List.set_append_right _ _ (Nat.le_refl _), Nat.sub_self, e, List.replicate_succ, List.set_cons_zero, List.append_assoc]
  rfl
theorem cellTot_le {cs : List CellD} {k : Nat} {c : CellD} (h : cs[k]? = some c) (hT : libTot cs ≤ 1048576) : c.shapes.length ≤ 1048576 ∧ c.labels.length ≤ 1048576 ∧ c.insts.length ≤ 1048576 := by
  have h1 := sumN_succ cellTot h
  have h2 := sumN_le cellTot cs (k + 1)
  unfold libTot at hT
  have h3 : cellTot c = c.name.size + c.shapes.length + (c.labels.length + sumN (fun l => l.name.size) c.labels) + c.insts.length := rfl
  omega

/-- A library by value. -/
def LibV (w : World) (B : Nat) (v : Value) (cs : List CellD) : Prop := ∃ ps : List (CellD × Sl3), ps.map Prod.fst = cs ∧ CW w B v ps
theorem LibV.on {w w' : World} {B : Nat} {v : Value} {cs : List CellD} (h : LibV w B v cs) (hb : Below w.heap.size w w') : LibV w' B v cs := let ⟨ps, h1, h2⟩ := h; ⟨ps, h1, h2.on hb⟩
theorem LibV.less {w : World} {B B' : Nat} {v : Value} {cs : List CellD} (h : LibV w B v cs) (hB : B' ≤ B) : LibV w B' v cs := let ⟨ps, h1, h2⟩ := h; ⟨ps, h1, h2.less hB⟩
theorem LibV.form {w : World} {B : Nat} {v : Value} {cs : List CellD} (h : LibV w B v cs) : ∃ A cap, v = .slice A cs.length cap ∧ cs.length ≤ cap ∧ cap ≤ maxLen := by
  obtain ⟨ps, rfl, h2⟩ := h
  rw [List.length_map]
  exact h2.form
/-- The cell k of a library, in memory. -/
theorem LibV.elem {w : World} {B : Nat} {A : Option Addr} {m n k : Nat} {cs : List CellD} (h : LibV w B (.slice A m n) cs) (hk : k < cs.length) : ∃ (g : Nat) (c : CellD) (u : Sl3), A = some ⟨g, 0, none⟩ ∧ cs[k]? = some c ∧ g < w.heap.size ∧ w.cell? ⟨g, k * 4, none⟩ = some (.string c.name) ∧
    w.cell? ⟨g, k * 4 + 1, none⟩ = some u.s ∧ w.cell? ⟨g, k * 4 + 2, none⟩ = some u.l ∧ w.cell? ⟨g, k * 4 + 3, none⟩ = some u.i ∧ C3 w B u c := by
  obtain ⟨ps, rfl, h2⟩ := h
  obtain ⟨g, p, hA, hp, hg, c0, c1, c2, c3, h3⟩ := h2.elem (k := k) (by simpa using hk)
  exact ⟨g, p.1, p.2, hA, by rw [List.getElem?_map, hp]; rfl, hg, c0, c1, c2, c3, h3⟩
theorem CW.far {w : World} {B : Nat} {v : Value} {ps : List (CellD × Sl3)} (h : CW w B v ps) {p : Addr} (hp : p.block < B) (x : Value) : CW (w.setCell p x) B v ps := ⟨h.own.far hp x, fun k q hq => (h.each k q hq).far hp x⟩
theorem LibV.far {w : World} {B : Nat} {v : Value} {cs : List CellD} (h : LibV w B v cs) {p : Addr} (hp : p.block < B) (x : Value) : LibV (w.setCell p x) B v cs := let ⟨ps, h1, h2⟩ := h; ⟨ps, h1, h2.far hp x⟩

end Go.Proofs.YtcckamhokdodnaaGreatDoor
