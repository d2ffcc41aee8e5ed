/- Contracts: the laws' copies of cells and libraries, comparisons of equal ones. Conditions: few elements. -/
import Derived.Test.YtljfpeipcfankaaGreatDoorLibL
import Derived.Deep.RegionHeld3
namespace Go.Proofs.YtljfpeipcfankaaGreatDoor
open Go.RowKit

theorem FL.far {α : Type} {t : TypeId} {n : Nat} {enc : α → List Value} {w : World} {B : Nat} {v : Value} {xs : List α} (h : FL t n enc w B v xs) {p : Addr} (hp : p.block < B) (u : Value) : FL t n enc (w.setCell p u) B v xs :=
  own_other h (fun e => by have := (h.lt _ e).1; omega) u
theorem C3.far {w : World} {B : Nat} {u : Sl3} {c : CellD} (h : C3 w B u c) {p : Addr} (hp : p.block < B) (x : Value) : C3 (w.setCell p x) B u c := ⟨h.s.far hp x, h.l.far hp x, h.i.far hp x⟩

theorem bcell3 {W w1 : World} {n : Nat} (hb : Below W.heap.size W w1) (hn : n ≤ W.heap.size) : (∀ b o, b < n → w1.cell? ⟨b, o, none⟩ = W.cell? ⟨b, o, none⟩) ∧ (∀ b o, b < n → w1.frozen? ⟨b, o, none⟩ = W.frozen? ⟨b, o, none⟩) :=
  ⟨fun b o h => hb.cell (p := ⟨b, o, none⟩) (Nat.lt_of_lt_of_le h hn), fun b o h => hb.frozen (p := ⟨b, o, none⟩) (Nat.lt_of_lt_of_le h hn)⟩
theorem FL.out5 {α : Type} {t : TypeId} {n : Nat} {enc : α → List Value} {w : World} {B N : Nat} {v : Value} {xs : List α} (h : FL t n enc w B v xs) (hB : N + 3 ≤ B) (a b c d e : Value) :
    FL t n enc (((((w.setCell ⟨N + 1 + 1, 3, none⟩ a).setCell ⟨N + 1, 0, none⟩ b).setCell ⟨N + 1, 1, none⟩ c).setCell ⟨N + 1, 2, none⟩ d).setCell ⟨N + 1, 3, none⟩ e) N v xs :=
  (((((h.far (p := ⟨N + 1 + 1, 3, none⟩) (by dsimp only; omega) a).far (p := ⟨N + 1, 0, none⟩) (by dsimp only; omega) b).far (p := ⟨N + 1, 1, none⟩) (by dsimp only; omega) c).far (p := ⟨N + 1, 2, none⟩) (by dsimp only; omega) d).far (p := ⟨N + 1, 3, none⟩) (by dsimp only; omega) e).less (by omega)
theorem below_out5 {w u : World} {N : Nat} (h : Below N w u) (a b c d e : Value) :
    Below N w (((((u.setCell ⟨N + 1 + 1, 3, none⟩ a).setCell ⟨N + 1, 0, none⟩ b).setCell ⟨N + 1, 1, none⟩ c).setCell ⟨N + 1, 2, none⟩ d).setCell ⟨N + 1, 3, none⟩ e) :=
  ((((h.setCell (p := ⟨N + 1 + 1, 3, none⟩) (by dsimp only; omega) a).setCell (p := ⟨N + 1, 0, none⟩) (by dsimp only; omega) b).setCell (p := ⟨N + 1, 1, none⟩) (by dsimp only; omega) c).setCell (p := ⟨N + 1, 2, none⟩) (by dsimp only; omega) d).setCell (p := ⟨N + 1, 3, none⟩) (by dsimp only; omega) e
/-- A cell that was copied. -/
def IsCell (c : CellD) (w : World) (e : Ending) (w' : World) : Prop := ∃ u : Sl3, e = .returned (.agg #[.string c.name, u.s, u.l, u.i]) ∧ C3 w' w.heap.size u c ∧ Below w.heap.size w w'

theorem C3.put {w : World} {B g : Nat} {u : Sl3} {c : CellD} (us : List Value) (o : Nat) (h : C3 w B u c) (hg : g < B) : C3 (putW w g o us) B u c := by
  induction us generalizing w o with
  | nil => exact h
  | cons x us ih => exact ih (o + 1) (h.far (p := ⟨g, o, none⟩) hg x)
abbrev zeroP : CellD × Sl3 := (⟨⟨#[]⟩, [], [], []⟩, ⟨.slice none 0 0, .slice none 0 0, .slice none 0 0⟩)
theorem infoCell : (Tryz.prog.info? 40).map (fun i => (i.zero, i.size, i.bytes)) = some (some (.agg #[.string ⟨#[]⟩, .slice none 0 0, .slice none 0 0, .slice none 0 0]), 4, 88) := by kernel_rfl
theorem laid_set {α : Type} (qs : List α) (z p : α) (n : Nat) (h : qs.length < n) : (qs ++ List.replicate (n - qs.length) z).set qs.length p = (qs ++ [p]) ++ List.replicate (n - (qs ++ [p]).length) z := by
  have e : n - qs.length = (n - (qs ++ [p]).length) + 1 := by simp; omega
  rw [List.set_append_right _ _ (Nat.le_refl _), Nat.sub_self, e, List.replicate_succ, List.set_cons_zero, List.append_assoc]
  rfl
theorem cellTot_le {cs : List CellD} {k : Nat} {c : CellD} (h : cs[k]? = some c) (hT : libTot cs ≤ 1048576) : c.shapes.length ≤ 1048576 ∧ c.labels.length ≤ 1048576 ∧ c.insts.length ≤ 1048576 := by
  have h1 := sumN_succ cellTot h
  have h2 := sumN_le cellTot cs (k + 1)
  unfold libTot at hT
  have h3 : cellTot c = c.name.size + c.shapes.length + (c.labels.length + sumN (fun l => l.name.size) c.labels) + c.insts.length := rfl
  omega

/-- A library by value. -/
def LibV (w : World) (B : Nat) (v : Value) (cs : List CellD) : Prop := ∃ ps : List (CellD × Sl3), ps.map Prod.fst = cs ∧ CW w B v ps
theorem LibV.on {w w' : World} {B : Nat} {v : Value} {cs : List CellD} (h : LibV w B v cs) (hb : Below w.heap.size w w') : LibV w' B v cs := let ⟨ps, h1, h2⟩ := h; ⟨ps, h1, h2.on hb⟩
theorem LibV.less {w : World} {B B' : Nat} {v : Value} {cs : List CellD} (h : LibV w B v cs) (hB : B' ≤ B) : LibV w B' v cs := let ⟨ps, h1, h2⟩ := h; ⟨ps, h1, h2.less hB⟩
theorem LibV.form {w : World} {B : Nat} {v : Value} {cs : List CellD} (h : LibV w B v cs) : ∃ A cap, v = .slice A cs.length cap ∧ cs.length ≤ cap ∧ cap ≤ maxLen := by
  obtain ⟨ps, rfl, h2⟩ := h
  rw [List.length_map]
  exact h2.form
/-- The cell k of a library, in memory. -/
theorem LibV.elem {w : World} {B : Nat} {A : Option Addr} {m n k : Nat} {cs : List CellD} (h : LibV w B (.slice A m n) cs) (hk : k < cs.length) : ∃ (g : Nat) (c : CellD) (u : Sl3), A = some ⟨g, 0, none⟩ ∧ cs[k]? = some c ∧ g < w.heap.size ∧ w.cell? ⟨g, k * 4, none⟩ = some (.string c.name) ∧
    w.cell? ⟨g, k * 4 + 1, none⟩ = some u.s ∧ w.cell? ⟨g, k * 4 + 2, none⟩ = some u.l ∧ w.cell? ⟨g, k * 4 + 3, none⟩ = some u.i ∧ C3 w B u c := by
  obtain ⟨ps, rfl, h2⟩ := h
  obtain ⟨g, p, hA, hp, hg, c0, c1, c2, c3, h3⟩ := h2.elem (k := k) (by simpa using hk)
  exact ⟨g, p.1, p.2, hA, by rw [List.getElem?_map, hp]; rfl, hg, c0, c1, c2, c3, h3⟩
theorem CW.far {w : World} {B : Nat} {v : Value} {ps : List (CellD × Sl3)} (h : CW w B v ps) {p : Addr} (hp : p.block < B) (x : Value) : CW (w.setCell p x) B v ps := ⟨h.own.far hp x, fun k q hq => (h.each k q hq).far hp x⟩
theorem LibV.far {w : World} {B : Nat} {v : Value} {cs : List CellD} (h : LibV w B v cs) {p : Addr} (hp : p.block < B) (x : Value) : LibV (w.setCell p x) B v cs := let ⟨ps, h1, h2⟩ := h; ⟨ps, h1, h2.far hp x⟩

set_option maxHeartbeats 800000 in
set_option maxRecDepth 100000 in
theorem eqCell_same (c : CellD) (u v : Sl3) (w : World) (hu : C3 w 0 u c) (hv : C3 w 0 v c) :
    Calls Tryz.prog 32 #[.agg #[.string c.name, u.s, u.l, u.i], .agg #[.string c.name, v.s, v.l, v.i]] w fun e w' => e = .returned (.bool true) ∧ Below w.heap.size w w' := by
  obtain ⟨us, ul, ui⟩ := u
  obtain ⟨vs, vl, vi⟩ := v
  obtain ⟨P1, k1, rfl, -, -⟩ := hu.s.form
  obtain ⟨P2, k2, rfl, -, -⟩ := hu.l.form
  obtain ⟨P3, k3, rfl, -, -⟩ := hu.i.form
  obtain ⟨Q1, j1, rfl, -, -⟩ := hv.s.form
  obtain ⟨Q2, j2, rfl, -, -⟩ := hv.l.form
  obtain ⟨Q3, j3, rfl, -, -⟩ := hv.i.form
  dsimp only
  have b2 := ((Below.refl w.heap.size w).alloc (Nat.le_refl _) (.cells #[.string c.name, .slice P1 c.shapes.length k1, .slice P2 c.labels.length k2, .slice P3 c.insts.length k3] 40)).alloc (by simp) (.cells #[.string c.name, .slice Q1 c.shapes.length j1, .slice Q2 c.labels.length j2, .slice Q3 c.insts.length j3] 40)
  have U := Lib.hid (hu.on b2)
  have V := Lib.hid (hv.on b2)
  clear hu hv
  go_enter Tryz.func32, Tryz.ntmps32
  go_wp2_with (first
    | (go_at_call 59; refine (eqShapeS_same _ _ c.shapes _ U.out.s V.out.s).mono ?_; rintro e w1 ⟨rfl, hb1⟩; obtain ⟨hc1, hf1⟩ := bcell3 hb1 (n := w.heap.size + 2) (by simp); have hz1 : w.heap.size + 2 ≤ w1.heap.size := (by have := hb1.size; simp at this; omega); have U1 := Lib.hid (U.out.on hb1); have V1 := Lib.hid (V.out.on hb1))
    | (go_at_call 60; refine (eqLabelS_same _ _ c.labels _ U1.out.l V1.out.l).mono ?_; rintro e w2 ⟨rfl, hb2⟩; obtain ⟨hc2, hf2⟩ := bcell3 hb2 (n := w.heap.size + 2) hz1; have hz2 : w.heap.size + 2 ≤ w2.heap.size := Nat.le_trans hz1 hb2.size; have U2 := Lib.hid (U1.out.on hb2); have V2 := Lib.hid (V1.out.on hb2))
    | (go_at_call 61; refine (eqInstanceS_same _ _ c.insts _ U2.out.i V2.out.i).mono ?_; rintro e w3 ⟨rfl, hb3⟩))
  go_ret
  exact ⟨rfl, ((b2.trans (hb1.mono (by simp; omega))).trans (hb2.mono (by omega))).trans (hb3.mono (by omega))⟩

set_option maxHeartbeats 1600000 in
set_option maxRecDepth 100000 in
theorem eqCellS_same (v u : Value) (cs : List CellD) (w : World) (hv : LibV w 0 v cs) (hu : LibV w 0 u cs) :
    Calls Tryz.prog 15 #[v, u] w fun e w' => e = .returned (.bool true) ∧ Below w.heap.size w w' := by
  obtain ⟨A, c1, rfl, hc1, hm1⟩ := hv.form
  obtain ⟨A2, c2, rfl, hc2, hm2⟩ := hu.form
  have hlen : cs.length ≤ 9223372036854775807 := by unfold maxLen at hm1; omega
  go_enter Tryz.func15, Tryz.ntmps15
  go_wp2
  go_loopw [5] (fun i wr => ∃ k : Nat, k ≤ cs.length ∧ i = .int .i64 k ∧ Below w.heap.size w wr) (fun i _ => cs.length - (intOf i).toNat)
  case atStart => exact ⟨0, Nat.zero_le _, rfl, Below.refl _ _⟩
  case round =>
    obtain ⟨k, hk, rfl, hb⟩ := hrel
    by_cases hlt : k < cs.length
    · obtain ⟨g, x, us, rfl, hx, -, f0, f1, f2, f3, hC⟩ := (hv.on hb).elem hlt
      obtain ⟨g', x', vs, rfl, hx', -, e0, e1, e2, e3, hC'⟩ := (hu.on hb).elem hlt
      obtain rfl : x' = x := Option.some.inj (hx'.symm.trans hx)
      obtain ⟨P1, k1, h1, -, -⟩ := hC.s.form
      obtain ⟨P2, k2, h2, -, -⟩ := hC.l.form
      obtain ⟨P3, k3, h3, -, -⟩ := hC.i.form
      obtain ⟨Q1, j1, h4, -, -⟩ := hC'.s.form
      obtain ⟨Q2, j2, h5, -, -⟩ := hC'.l.form
      obtain ⟨Q3, j3, h6, -, -⟩ := hC'.i.form
      obtain ⟨u1, u2, u3⟩ := us
      obtain ⟨v1, v2, v3⟩ := vs
      dsimp only at h1 h2 h3 h4 h5 h6 f1 f2 f3 e1 e2 e3
      subst h1 h2 h3 h4 h5 h6
      have HC := Lib.hid (hC.on (Below.refl wr.heap.size wr).drew)
      have HC' := Lib.hid (hC'.on (Below.refl wr.heap.size wr).drew)
      clear hx hx' hC hC' hv hu
      go_wp2
      go_still_tail 8, (by kernel_rfl)
      change wpList _ _ _ _ _ wr.drew
      have hb2 : Below w.heap.size w wr.drew := hb.drew
      generalize wr.drew = w2 at *
      go_wp2_with (go_at_call 32; refine (eqCell_same x' ⟨_, _, _⟩ ⟨_, _, _⟩ _ HC.out HC'.out).mono ?_; rintro e w1 ⟨rfl, hb1⟩)
      exact ⟨⟨k + 1, by omega, by go_num, hb2.trans (hb1.mono hb2.size)⟩, by simp [intOf]; omega⟩
    · go_wp2
      go_ret
      exact ⟨rfl, hb⟩

theorem eqLib_same (v u : Value) (cs : List CellD) (w : World) (hv : LibV w 0 v cs) (hu : LibV w 0 u cs) :
    Calls Tryz.prog 6 #[.agg #[v], .agg #[u]] w fun e w' => e = .returned (.bool true) ∧ Below w.heap.size w w' := by
  obtain ⟨A, c1, rfl, -, -⟩ := hv.form
  obtain ⟨A2, c2, rfl, -, -⟩ := hu.form
  have b2 := ((Below.refl w.heap.size w).alloc (Nat.le_refl _) (.cells #[.slice A cs.length c1] 24)).alloc (by simp) (.cells #[.slice A2 cs.length c2] 24)
  have V := Lib.hid (hv.on b2)
  have U := Lib.hid (hu.on b2)
  clear hu hv
  go_enter Tryz.func6, Tryz.ntmps6
  go_wp2_with (go_at_call 15; refine (eqCellS_same _ _ cs _ V.out U.out).mono ?_; rintro e w1 ⟨rfl, hb1⟩)
  go_ret
  exact ⟨rfl, b2.trans (hb1.mono (by simp; omega))⟩

end Go.Proofs.YtljfpeipcfankaaGreatDoor
