/- Contracts: the laws' helpers on shapes, labels, instances, cells and libraries: what is left, copies, comparisons of equal ones. Conditions: few elements. -/
import Derived.Test.YtljfpeipcfankaaGreatDoorLibO
import Derived.Test.YtljfpeipcfankaaGreatDoorCmp
import Derived.Test.YtljfpeipcfankaaGreatDoorTo
import Derived.StillTailTactics
namespace Go.Proofs.YtljfpeipcfankaaGreatDoor
open Go.RowKit

theorem bcell {W w1 : World} (hb : Below W.heap.size W w1) : (∀ b o, b < W.heap.size → w1.cell? ⟨b, o, none⟩ = W.cell? ⟨b, o, none⟩) ∧ (∀ b o, b < W.heap.size → w1.frozen? ⟨b, o, none⟩ = W.frozen? ⟨b, o, none⟩) :=
  ⟨fun b o h => hb.cell (p := ⟨b, o, none⟩) h, fun b o h => hb.frozen (p := ⟨b, o, none⟩) h⟩

/-! ## What is left -/
def szV (left : Int) (total : Nat) : Int := if (total : Int) ≤ left then left - total else -1
theorem szV_yes {left : Int} {total : Nat} (h : (total : Int) ≤ left) : szV left total = left - total := if_pos h
theorem szV_no {left : Int} {total : Nat} (h : ¬ (total : Int) ≤ left) : szV left total = -1 := if_neg h
def sumN {α : Type} (f : α → Nat) (xs : List α) : Nat := (xs.map f).sum
theorem sumN_succ {α : Type} (f : α → Nat) {xs : List α} {k : Nat} {x : α} (h : xs[k]? = some x) : sumN f (xs.take (k + 1)) = sumN f (xs.take k) + f x := by
  unfold sumN
  rw [List.take_add_one, h]
  simp
theorem sumN_le {α : Type} (f : α → Nat) (xs : List α) (k : Nat) : sumN f (xs.take k) ≤ sumN f xs := by
  have e : sumN f xs = sumN f (xs.take k) + sumN f (xs.drop k) := by
    unfold sumN
    rw [← List.sum_append, ← List.map_append, List.take_append_drop]
  omega
def labTot (ls : List LabelD) : Nat := ls.length + sumN (fun l => l.name.size) ls
def cellTot (c : CellD) : Nat := c.name.size + c.shapes.length + labTot c.labels + c.insts.length
def libTot (cs : List CellD) : Nat := cs.length + sumN cellTot cs


theorem eqTrans_same (a b c : Int) (w : World) : Calls Tryz.prog 92 #[.agg #[.int .i64 a, .int .i64 b, .int .i64 c], .agg #[.int .i64 a, .int .i64 b, .int .i64 c]] w fun e w' => e = .returned (.bool true) ∧ Below w.heap.size w w' := by
  go_enter Tryz.func92, Tryz.ntmps92
  go_wp2
  go_ret
  exact ⟨rfl, (((Below.refl _ _).alloc (Nat.le_refl _) _).alloc (by simp) _)⟩
theorem eqPoint_same (a b : Int) (w : World) : Calls Tryz.prog 91 #[.agg #[.int .i64 a, .int .i64 b], .agg #[.int .i64 a, .int .i64 b]] w fun e w' => e = .returned (.bool true) ∧ Below w.heap.size w w' := by
  go_enter Tryz.func91, Tryz.ntmps91
  go_wp2
  go_ret
  exact ⟨rfl, (((Below.refl _ _).alloc (Nat.le_refl _) _).alloc (by simp) _)⟩


theorem flat_zeros {α : Type} {enc : α → List Value} (z : α) (cs : Array Value) (hz : enc z = cs.toList) (hpos : 0 < cs.size) (he : ∀ x, (enc x).length = cs.size) (n : Nat) : (madeCells cs (n * cs.size)).toList = (List.replicate n z).flatMap enc := by
  apply List.ext_getElem?
  intro j
  simp only [madeCells, Array.toList_map, Array.toList_range, List.getElem?_map]
  by_cases hj : j < n * cs.size
  · rw [List.getElem?_range hj]
    have hk : j / cs.size < n := Nat.div_lt_of_lt_mul (by rw [Nat.mul_comm]; exact hj)
    have hm : j % cs.size < cs.size := Nat.mod_lt _ hpos
    have h1 : (List.replicate n z)[j / cs.size]? = some z := by rw [List.getElem?_replicate, if_pos hk]
    have h2 : (enc z)[j % cs.size]? = some cs[j % cs.size] := by rw [hz, Array.getElem?_toList, Array.getElem?_eq_getElem hm]
    have := flat_get he _ _ _ h1 _ _ h2
    rw [Nat.mul_comm, Nat.div_add_mod] at this
    rw [this]
    simp [hm]
  · rw [List.getElem?_eq_none (by simp; omega), List.getElem?_eq_none (by rw [flat_len he, List.length_replicate]; omega)]
    rfl
/-- The first k elements are laid. -/
def laidG {α : Type} (z : α) (xs : List α) (k : Nat) : List α := xs.take k ++ List.replicate (xs.length - k) z
theorem laidG_length {α : Type} (z : α) (xs : List α) (k : Nat) (h : k ≤ xs.length) : (laidG z xs k).length = xs.length := by simp [laidG]; omega
theorem laidG_step {α : Type} (z : α) {xs : List α} {k : Nat} {r : α} (h : xs[k]? = some r) : (laidG z xs k).set k r = laidG z xs (k + 1) := by
  have hk : k < xs.length := (List.getElem?_eq_some_iff.1 h).1
  have hl : (xs.take k).length = k := by rw [List.length_take]; omega
  have e : xs.length - k = (xs.length - (k + 1)) + 1 := by omega
  unfold laidG
  rw [List.set_append_right _ _ (by omega), hl, Nat.sub_self, e, List.replicate_succ, List.set_cons_zero, List.take_add_one, h, List.append_assoc]
  rfl
theorem laidG_end {α : Type} (z : α) (xs : List α) : laidG z xs xs.length = xs := by simp [laidG]
theorem laidG_zero {α : Type} (z : α) (xs : List α) : laidG z xs 0 = List.replicate xs.length z := by simp [laidG]


theorem infoShape : (Tryz.prog.info? 77).map (fun i => (i.zero, i.size, i.bytes)) = some (some (.agg #[.int .i64 0, .int .i64 0, .int .i64 0, .int .i64 0, .int .i64 0]), 5, 40) := by kernel_rfl
theorem eqShape_same (x : ShapeD) (w : World) : Calls Tryz.prog 82 #[.agg x.vals.toArray, .agg x.vals.toArray] w fun e w' => e = .returned (.bool true) ∧ Below w.heap.size w w' := by
  obtain ⟨a0, ⟨a1, a2, a3, a4⟩⟩ := x
  show Calls Tryz.prog 82 #[.agg #[.int .i64 a0, .int .i64 a1, .int .i64 a2, .int .i64 a3, .int .i64 a4], .agg #[.int .i64 a0, .int .i64 a1, .int .i64 a2, .int .i64 a3, .int .i64 a4]] w fun e w' => e = .returned (.bool true) ∧ Below w.heap.size w w'
  have b2 := ((Below.refl w.heap.size w).alloc (Nat.le_refl _) (.cells #[.int .i64 a0, .int .i64 a1, .int .i64 a2, .int .i64 a3, .int .i64 a4] 77)).alloc (by simp) (.cells #[.int .i64 a0, .int .i64 a1, .int .i64 a2, .int .i64 a3, .int .i64 a4] 77)
  go_enter Tryz.func82, Tryz.ntmps82
  go_wp2_with (go_at_call 90; refine (eqRect_same ⟨a1, a2, a3, a4⟩ _).mono ?_; rintro e w1 ⟨rfl, hb1⟩; obtain ⟨hc1, hf1⟩ := bcell hb1)
  go_ret
  exact ⟨rfl, b2.trans (hb1.mono (by simp; omega))⟩

set_option maxHeartbeats 800000 in
set_option maxRecDepth 100000 in
theorem eqShapeS_same (v u : Value) (xs : List ShapeD) (w : World) (hv : ShL w 0 v xs) (hu : ShL w 0 u xs) :
    Calls Tryz.prog 59 #[v, u] w fun e w' => e = .returned (.bool true) ∧ Below w.heap.size w w' := by
  obtain ⟨A, c1, rfl, hc1, hm1⟩ := hv.form
  obtain ⟨A2, c2, rfl, hc2, hm2⟩ := hu.form
  have hlen : xs.length ≤ 9223372036854775807 := by unfold maxLen at hm1; omega
  go_enter Tryz.func59, Tryz.ntmps59
  go_wp2
  go_loopw [5] (fun i wr => ∃ k : Nat, k ≤ xs.length ∧ i = .int .i64 k ∧ Below w.heap.size w wr) (fun i _ => xs.length - (intOf i).toNat)
  case atStart => exact ⟨0, Nat.zero_le _, rfl, Below.refl _ _⟩
  case round =>
    obtain ⟨k, hk, rfl, hb⟩ := hrel
    by_cases hlt : k < xs.length
    · obtain ⟨g, x, rfl, hx, -, -, hc⟩ := FL.elem ShapeD.len (hv.on hb) hlt
      obtain ⟨g', x', rfl, hx', -, -, hc'⟩ := FL.elem ShapeD.len (hu.on hb) hlt
      obtain rfl : x' = x := Option.some.inj (hx'.symm.trans hx)
      obtain ⟨a0, ⟨a1, a2, a3, a4⟩⟩ := x'
      have f0 : wr.cell? ⟨g, k * 5, none⟩ = some (.int .i64 a0) := hc 0 _ rfl
      have f1 : wr.cell? ⟨g, k * 5 + 1, none⟩ = some (.int .i64 a1) := hc 1 _ rfl
      have f2 : wr.cell? ⟨g, k * 5 + 2, none⟩ = some (.int .i64 a2) := hc 2 _ rfl
      have f3 : wr.cell? ⟨g, k * 5 + 3, none⟩ = some (.int .i64 a3) := hc 3 _ rfl
      have f4 : wr.cell? ⟨g, k * 5 + 4, none⟩ = some (.int .i64 a4) := hc 4 _ rfl
      have e0 : wr.cell? ⟨g', k * 5, none⟩ = some (.int .i64 a0) := hc' 0 _ rfl
      have e1 : wr.cell? ⟨g', k * 5 + 1, none⟩ = some (.int .i64 a1) := hc' 1 _ rfl
      have e2 : wr.cell? ⟨g', k * 5 + 2, none⟩ = some (.int .i64 a2) := hc' 2 _ rfl
      have e3 : wr.cell? ⟨g', k * 5 + 3, none⟩ = some (.int .i64 a3) := hc' 3 _ rfl
      have e4 : wr.cell? ⟨g', k * 5 + 4, none⟩ = some (.int .i64 a4) := hc' 4 _ rfl
      clear hx hx' hv hu hc hc'
      go_wp2
      go_still_tail 8, (by kernel_rfl)
      change wpList _ _ _ _ _ wr.drew
      have hb2 : Below w.heap.size w wr.drew := hb.drew
      generalize wr.drew = w2 at *
      go_wp2_with (go_at_call 82; refine (eqShape_same ⟨a0, ⟨a1, a2, a3, a4⟩⟩ _).mono ?_; rintro e w1 ⟨rfl, hb1⟩)
      exact ⟨⟨k + 1, by omega, by go_num, hb2.trans (hb1.mono hb2.size)⟩, by simp [intOf]; omega⟩
    · go_wp2
      go_ret
      exact ⟨rfl, hb⟩


theorem infoLabel : (Tryz.prog.info? 82).map (fun i => (i.zero, i.size, i.bytes)) = some (some (.agg #[.int .i64 0, .int .i64 0, .int .i64 0, .string ⟨#[]⟩]), 4, 40) := by kernel_rfl
theorem eqLabel_same (x : LabelD) (w : World) : Calls Tryz.prog 83 #[.agg x.vals.toArray, .agg x.vals.toArray] w fun e w' => e = .returned (.bool true) ∧ Below w.heap.size w w' := by
  obtain ⟨a0, a1, a2, a3⟩ := x
  show Calls Tryz.prog 83 #[.agg #[.int .i64 a0, .int .i64 a1, .int .i64 a2, .string a3], .agg #[.int .i64 a0, .int .i64 a1, .int .i64 a2, .string a3]] w fun e w' => e = .returned (.bool true) ∧ Below w.heap.size w w'
  have b2 := ((Below.refl w.heap.size w).alloc (Nat.le_refl _) (.cells #[.int .i64 a0, .int .i64 a1, .int .i64 a2, .string a3] 82)).alloc (by simp) (.cells #[.int .i64 a0, .int .i64 a1, .int .i64 a2, .string a3] 82)
  go_enter Tryz.func83, Tryz.ntmps83
  go_wp2_with (go_at_call 91; refine (eqPoint_same a1 a2 _).mono ?_; rintro e w1 ⟨rfl, hb1⟩; obtain ⟨hc1, hf1⟩ := bcell hb1)
  go_ret
  exact ⟨rfl, b2.trans (hb1.mono (by simp; omega))⟩

set_option maxHeartbeats 800000 in
set_option maxRecDepth 100000 in
theorem eqLabelS_same (v u : Value) (xs : List LabelD) (w : World) (hv : LaL w 0 v xs) (hu : LaL w 0 u xs) :
    Calls Tryz.prog 60 #[v, u] w fun e w' => e = .returned (.bool true) ∧ Below w.heap.size w w' := by
  obtain ⟨A, c1, rfl, hc1, hm1⟩ := hv.form
  obtain ⟨A2, c2, rfl, hc2, hm2⟩ := hu.form
  have hlen : xs.length ≤ 9223372036854775807 := by unfold maxLen at hm1; omega
  go_enter Tryz.func60, Tryz.ntmps60
  go_wp2
  go_loopw [5] (fun i wr => ∃ k : Nat, k ≤ xs.length ∧ i = .int .i64 k ∧ Below w.heap.size w wr) (fun i _ => xs.length - (intOf i).toNat)
  case atStart => exact ⟨0, Nat.zero_le _, rfl, Below.refl _ _⟩
  case round =>
    obtain ⟨k, hk, rfl, hb⟩ := hrel
    by_cases hlt : k < xs.length
    · obtain ⟨g, x, rfl, hx, -, -, hc⟩ := FL.elem LabelD.len (hv.on hb) hlt
      obtain ⟨g', x', rfl, hx', -, -, hc'⟩ := FL.elem LabelD.len (hu.on hb) hlt
      obtain rfl : x' = x := Option.some.inj (hx'.symm.trans hx)
      obtain ⟨a0, a1, a2, a3⟩ := x'
      have f0 : wr.cell? ⟨g, k * 4, none⟩ = some (.int .i64 a0) := hc 0 _ rfl
      have f1 : wr.cell? ⟨g, k * 4 + 1, none⟩ = some (.int .i64 a1) := hc 1 _ rfl
      have f2 : wr.cell? ⟨g, k * 4 + 2, none⟩ = some (.int .i64 a2) := hc 2 _ rfl
      have f3 : wr.cell? ⟨g, k * 4 + 3, none⟩ = some (.string a3) := hc 3 _ rfl
      have e0 : wr.cell? ⟨g', k * 4, none⟩ = some (.int .i64 a0) := hc' 0 _ rfl
      have e1 : wr.cell? ⟨g', k * 4 + 1, none⟩ = some (.int .i64 a1) := hc' 1 _ rfl
      have e2 : wr.cell? ⟨g', k * 4 + 2, none⟩ = some (.int .i64 a2) := hc' 2 _ rfl
      have e3 : wr.cell? ⟨g', k * 4 + 3, none⟩ = some (.string a3) := hc' 3 _ rfl
      clear hx hx' hv hu hc hc'
      go_wp2
      go_still_tail 8, (by kernel_rfl)
      change wpList _ _ _ _ _ wr.drew
      have hb2 : Below w.heap.size w wr.drew := hb.drew
      generalize wr.drew = w2 at *
      go_wp2_with (go_at_call 83; refine (eqLabel_same ⟨a0, a1, a2, a3⟩ _).mono ?_; rintro e w1 ⟨rfl, hb1⟩)
      exact ⟨⟨k + 1, by omega, by go_num, hb2.trans (hb1.mono hb2.size)⟩, by simp [intOf]; omega⟩
    · go_wp2
      go_ret
      exact ⟨rfl, hb⟩


theorem infoInstance : (Tryz.prog.info? 87).map (fun i => (i.zero, i.size, i.bytes)) = some (some (.agg #[.int .i64 0, .int .i64 0, .int .i64 0, .int .i64 0, .int .i64 0, .int .i64 0, .int .i64 0, .int .i64 0]), 8, 64) := by kernel_rfl
theorem eqInstance_same (x : InstD) (w : World) : Calls Tryz.prog 84 #[.agg x.vals.toArray, .agg x.vals.toArray] w fun e w' => e = .returned (.bool true) ∧ Below w.heap.size w w' := by
  obtain ⟨a0, a1, a2, a3, a4, a5, a6, a7⟩ := x
  show Calls Tryz.prog 84 #[.agg #[.int .i64 a0, .int .i64 a1, .int .i64 a2, .int .i64 a3, .int .i64 a4, .int .i64 a5, .int .i64 a6, .int .i64 a7], .agg #[.int .i64 a0, .int .i64 a1, .int .i64 a2, .int .i64 a3, .int .i64 a4, .int .i64 a5, .int .i64 a6, .int .i64 a7]] w fun e w' => e = .returned (.bool true) ∧ Below w.heap.size w w'
  have b2 := ((Below.refl w.heap.size w).alloc (Nat.le_refl _) (.cells #[.int .i64 a0, .int .i64 a1, .int .i64 a2, .int .i64 a3, .int .i64 a4, .int .i64 a5, .int .i64 a6, .int .i64 a7] 87)).alloc (by simp) (.cells #[.int .i64 a0, .int .i64 a1, .int .i64 a2, .int .i64 a3, .int .i64 a4, .int .i64 a5, .int .i64 a6, .int .i64 a7] 87)
  go_enter Tryz.func84, Tryz.ntmps84
  go_wp2_with (go_at_call 92; refine (eqTrans_same a1 a2 a3 _).mono ?_; rintro e w1 ⟨rfl, hb1⟩; obtain ⟨hc1, hf1⟩ := bcell hb1)
  go_ret
  exact ⟨rfl, b2.trans (hb1.mono (by simp; omega))⟩

set_option maxHeartbeats 800000 in
set_option maxRecDepth 100000 in
theorem eqInstanceS_same (v u : Value) (xs : List InstD) (w : World) (hv : InL w 0 v xs) (hu : InL w 0 u xs) :
    Calls Tryz.prog 61 #[v, u] w fun e w' => e = .returned (.bool true) ∧ Below w.heap.size w w' := by
  obtain ⟨A, c1, rfl, hc1, hm1⟩ := hv.form
  obtain ⟨A2, c2, rfl, hc2, hm2⟩ := hu.form
  have hlen : xs.length ≤ 9223372036854775807 := by unfold maxLen at hm1; omega
  go_enter Tryz.func61, Tryz.ntmps61
  go_wp2
  go_loopw [5] (fun i wr => ∃ k : Nat, k ≤ xs.length ∧ i = .int .i64 k ∧ Below w.heap.size w wr) (fun i _ => xs.length - (intOf i).toNat)
  case atStart => exact ⟨0, Nat.zero_le _, rfl, Below.refl _ _⟩
  case round =>
    obtain ⟨k, hk, rfl, hb⟩ := hrel
    by_cases hlt : k < xs.length
    · obtain ⟨g, x, rfl, hx, -, -, hc⟩ := FL.elem InstD.len (hv.on hb) hlt
      obtain ⟨g', x', rfl, hx', -, -, hc'⟩ := FL.elem InstD.len (hu.on hb) hlt
      obtain rfl : x' = x := Option.some.inj (hx'.symm.trans hx)
      obtain ⟨a0, a1, a2, a3, a4, a5, a6, a7⟩ := x'
      have f0 : wr.cell? ⟨g, k * 8, none⟩ = some (.int .i64 a0) := hc 0 _ rfl
      have f1 : wr.cell? ⟨g, k * 8 + 1, none⟩ = some (.int .i64 a1) := hc 1 _ rfl
      have f2 : wr.cell? ⟨g, k * 8 + 2, none⟩ = some (.int .i64 a2) := hc 2 _ rfl
      have f3 : wr.cell? ⟨g, k * 8 + 3, none⟩ = some (.int .i64 a3) := hc 3 _ rfl
      have f4 : wr.cell? ⟨g, k * 8 + 4, none⟩ = some (.int .i64 a4) := hc 4 _ rfl
      have f5 : wr.cell? ⟨g, k * 8 + 5, none⟩ = some (.int .i64 a5) := hc 5 _ rfl
      have f6 : wr.cell? ⟨g, k * 8 + 6, none⟩ = some (.int .i64 a6) := hc 6 _ rfl
      have f7 : wr.cell? ⟨g, k * 8 + 7, none⟩ = some (.int .i64 a7) := hc 7 _ rfl
      have e0 : wr.cell? ⟨g', k * 8, none⟩ = some (.int .i64 a0) := hc' 0 _ rfl
      have e1 : wr.cell? ⟨g', k * 8 + 1, none⟩ = some (.int .i64 a1) := hc' 1 _ rfl
      have e2 : wr.cell? ⟨g', k * 8 + 2, none⟩ = some (.int .i64 a2) := hc' 2 _ rfl
      have e3 : wr.cell? ⟨g', k * 8 + 3, none⟩ = some (.int .i64 a3) := hc' 3 _ rfl
      have e4 : wr.cell? ⟨g', k * 8 + 4, none⟩ = some (.int .i64 a4) := hc' 4 _ rfl
      have e5 : wr.cell? ⟨g', k * 8 + 5, none⟩ = some (.int .i64 a5) := hc' 5 _ rfl
      have e6 : wr.cell? ⟨g', k * 8 + 6, none⟩ = some (.int .i64 a6) := hc' 6 _ rfl
      have e7 : wr.cell? ⟨g', k * 8 + 7, none⟩ = some (.int .i64 a7) := hc' 7 _ rfl
      clear hx hx' hv hu hc hc'
      go_wp2
      go_still_tail 8, (by kernel_rfl)
      change wpList _ _ _ _ _ wr.drew
      have hb2 : Below w.heap.size w wr.drew := hb.drew
      generalize wr.drew = w2 at *
      go_wp2_with (go_at_call 84; refine (eqInstance_same ⟨a0, a1, a2, a3, a4, a5, a6, a7⟩ _).mono ?_; rintro e w1 ⟨rfl, hb1⟩)
      exact ⟨⟨k + 1, by omega, by go_num, hb2.trans (hb1.mono hb2.size)⟩, by simp [intOf]; omega⟩
    · go_wp2
      go_ret
      exact ⟨rfl, hb⟩


end Go.Proofs.YtljfpeipcfankaaGreatDoor
