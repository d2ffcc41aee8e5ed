/- Contracts: the laws' helpers on shapes, labels, instances, cells and libraries: what is left, copies, comparisons of equal ones. Conditions: few elements. -/
import Derived.Test.YtcckamhokdodnaaGreatDoorLibO
import Derived.Test.YtcckamhokdodnaaGreatDoorCmp
import Derived.Test.YtcckamhokdodnaaGreatDoorTo
import Derived.StillTailTactics
namespace Go.Proofs.YtcckamhokdodnaaGreatDoor
open Go.RowKit

theorem bcell {W w1 : World} (hb : Below W.heap.size W w1) : (∀ b o, b < W.heap.size → w1.cell? ⟨b, o, none⟩ = W.cell? ⟨b, o, none⟩) ∧ (∀ b o, b < W.heap.size → w1.frozen? ⟨b, o, none⟩ = W.frozen? ⟨b, o, none⟩) :=
  ⟨fun b o h => hb.cell (p := ⟨b, o, none⟩) h, fun b o h => hb.frozen (p := ⟨b, o, none⟩) h⟩

/-! ## What is left -/
def szV (left : Int) (total : Nat) : Int := if (total : Int) ≤ left then left - total else -1
theorem szV_yes {left : Int} {total : Nat} (h : (total : Int) ≤ left) : szV left total = left - total := if_pos h
theorem szV_no {left : Int} {total : Nat} (h : ¬ (total : Int) ≤ left) : szV left total = -1 := if_neg h
def sumN {α : Type} (f : α → Nat) (xs : List α) : Nat := (xs.map f).sum
theorem sumN_succ {α : Type} (f : α → Nat) {xs : List α} {k : Nat} {x : α} (h : xs[k]? = some x) : sumN f (xs.take (k + 1)) = sumN f (xs.take k) + f x := by
  unfold sumN
  rw [List.take_add_one, h]
  simp
theorem sumN_le {α : Type} (f : α → Nat) (xs : List α) (k : Nat) : sumN f (xs.take k) ≤ sumN f xs := by
  have e : sumN f xs = sumN f (xs.take k) + sumN f (xs.drop k) := by
    unfold sumN
    rw [← List.sum_append, ← List.map_append, List.take_append_drop]
  omega
def labTot (ls : List LabelD) : Nat := ls.length + sumN (fun l => l.name.size) ls
def cellTot (c : CellD) : Nat := c.name.size + c.shapes.length + labTot c.labels + c.insts.length
def libTot (cs : List CellD) : Nat := cs.length + sumN cellTot cs


theorem flat_zeros {α : Type} {enc : α → List Value} (z : α) (cs : Array Value) (hz : enc z = cs.toList) (hpos : 0 < cs.size) (he : ∀ x, (enc x).length = cs.size) (n : Nat) : (madeCells cs (n * cs.size)).toList = (List.replicate n z).flatMap enc := by
  apply List.ext_getElem?
  intro j
  simp only [madeCells, Array.toList_map, Array.toList_range, List.getElem?_map]
  by_cases hj : j < n * cs.size
  · rw [List.getElem?_range hj]
    have hk : j / cs.size < n := Nat.div_lt_of_lt_mul (by rw [Nat.mul_comm]; exact hj)
    have hm : j % cs.size < cs.size := Nat.mod_lt _ hpos
    have h1 : (List.replicate n z)[j / cs.size]? = some z := by rw [List.getElem?_replicate, if_pos hk]
    have h2 : (enc z)[j % cs.size]? = some cs[j % cs.size] := by rw [hz, Array.getElem?_toList, Array.getElem?_eq_getElem hm]
    have := flat_get he _ _ _ h1 _ _ h2
    rw [Nat.mul_comm, Nat.div_add_mod] at this
    rw [this]
    simp [hm]
  · rw [List.getElem?_eq_none (by simp; omega), List.getElem?_eq_none (by rw [flat_len he, List.length_replicate]; omega)]
    rfl
/-- The first k elements are laid. -/
def laidG {α : Type} (z : α) (xs : List α) (k : Nat) : List α := xs.take k ++ List.replicate (xs.length - k) z
theorem laidG_length {α : Type} (z : α) (xs : List α) (k : Nat) (h : k ≤ xs.length) : (laidG z xs k).length = xs.length := by simp [laidG]; omega
theorem laidG_step {α : Type} (z : α) {xs : List α} {k : Nat} {r : α} (h : xs[k]? = some r) : (laidG z xs k).set k r = laidG z xs (k + 1) := by
  have hk : k < xs.length := (List.getElem?_eq_some_iff.1 h).1
  have hl : (xs.take k).length = k := by rw [List.length_take]; omega
  have e : xs.length - k = (xs.length - (k + 1)) + 1 := by omega
  unfold laidG
  rw [List.set_append_right _ _ (by omega), hl, Nat.sub_self, e, List.replicate_succ, List.set_cons_zero, List.take_add_one, h, List.append_assoc]
  rfl
theorem laidG_end {α : Type} (z : α) (xs : List α) : laidG z xs xs.length = xs := by simp [laidG]
theorem laidG_zero {α : Type} (z : α) (xs : List α) : laidG z xs 0 = List.replicate xs.length z := by simp [laidG]


theorem infoShape : (Tryz.prog.info? 62).map (fun i => (i.zero, i.size, i.bytes)) = some (some (.agg #[.int .i64 0, .int .i64 0, .int .i64 0, .int .i64 0, .int .i64 0]), 5, 40) := by kernel_rfl
theorem infoLabel : (Tryz.prog.info? 67).map (fun i => (i.zero, i.size, i.bytes)) = some (some (.agg #[.int .i64 0, .int .i64 0, .int .i64 0, .string ⟨#[]⟩]), 4, 40) := by kernel_rfl
theorem infoInstance : (Tryz.prog.info? 72).map (fun i => (i.zero, i.size, i.bytes)) = some (some (.agg #[.int .i64 0, .int .i64 0, .int .i64 0, .int .i64 0, .int .i64 0, .int .i64 0, .int .i64 0, .int .i64 0]), 8, 64) := by kernel_rfl
end Go.Proofs.YtcckamhokdodnaaGreatDoor
