/- The text of a library, plainly. -/
import Derived.Test.YtcckamhokdodnaaGreatDoorFmtB
namespace Go.Proofs.YtcckamhokdodnaaGreatDoor
open Go.RowKit

def nmOf (cs : List CellD) (i : InstD) : ByteArray := ((cs[i.cell.toNat]?).map CellD.name).getD ⟨#[]⟩
def headC (c : CellD) : List UInt8 := [99, 101, 108, 108, 32] ++ (c.name.data.toList ++ [10])
def shT (c : CellD) (k : Nat) : List UInt8 := (c.shapes.take k).flatMap fun s => shapeT s ++ [10]
def laT (c : CellD) (k : Nat) : List UInt8 := (c.labels.take k).flatMap fun s => labelT s ++ [10]
def inT (cs : List CellD) (c : CellD) (k : Nat) : List UInt8 := (c.insts.take k).flatMap fun s => instT (nmOf cs s) s ++ [10]
def cellT (cs : List CellD) (c : CellD) : List UInt8 := (((headC c ++ shT c c.shapes.length) ++ laT c c.labels.length) ++ inT cs c c.insts.length) ++ [101, 110, 100, 10]
def libTo (cs : List CellD) (k : Nat) : List UInt8 := (cs.take k).flatMap (cellT cs)
def libT (cs : List CellD) : List UInt8 := libTo cs cs.length
theorem flat_snoc {α : Type} (f : α → List UInt8) {xs : List α} {k : Nat} {x : α} (h : xs[k]? = some x) : (xs.take (k + 1)).flatMap f = (xs.take k).flatMap f ++ f x := by
  rw [List.take_add_one, h, Option.toList, List.flatMap_append]
  simp
theorem shT_snoc {c : CellD} {k : Nat} {s : ShapeD} (h : c.shapes[k]? = some s) : shT c (k + 1) = shT c k ++ (shapeT s ++ [10]) := flat_snoc _ h
theorem laT_snoc {c : CellD} {k : Nat} {s : LabelD} (h : c.labels[k]? = some s) : laT c (k + 1) = laT c k ++ (labelT s ++ [10]) := flat_snoc _ h
theorem inT_snoc {cs : List CellD} {c : CellD} {k : Nat} {s : InstD} (h : c.insts[k]? = some s) : inT cs c (k + 1) = inT cs c k ++ (instT (nmOf cs s) s ++ [10]) := flat_snoc _ h
theorem libTo_snoc {cs : List CellD} {k : Nat} {c : CellD} (h : cs[k]? = some c) : libTo cs (k + 1) = libTo cs k ++ cellT cs c := flat_snoc _ h
theorem line_len (a : List UInt8) (s : ByteArray) : (a ++ (s.data.toList ++ [10])).length = a.length + (s.size + 1) := by
  have e : (s.data.toList ++ [10]).length = s.size + 1 := by rw [List.length_append, Array.length_toList]; rfl
  rw [List.length_append, e]
theorem lib_size {cs : List CellD} (h : libB cs = true) : cs.length ≤ 8 := by
  unfold libB at h
  simp only [Bool.and_eq_true, decide_eq_true_eq] at h
  omega
structure CellOk (c : CellD) (k : Nat) : Prop where
  name : c.name.size ≤ 8
  ns : c.shapes.length ≤ 24
  nl : c.labels.length ≤ 8
  ni : c.insts.length ≤ 8
  s : ∀ s ∈ c.shapes, shapeB s = true
  l : ∀ l ∈ c.labels, labelB l = true
  i : ∀ i ∈ c.insts, instB i k = true
theorem lib_facts {cs : List CellD} (h : libB cs = true) {k : Nat} {c : CellD} (hk : cs[k]? = some c) : CellOk c k := by
  have hlt : k < cs.length := (List.getElem?_eq_some_iff.1 hk).1
  unfold libB okTo at h
  simp only [Bool.and_eq_true, List.all_eq_true, List.mem_range] at h
  have h2 := h.2 k hlt
  rw [okAt_eq hk] at h2
  simp only [Bool.and_eq_true] at h2
  have h3 := h2.1
  unfold cellB badS badL badI at h3
  simp only [Bool.and_eq_true, decide_eq_true_eq, Bool.not_eq_true', List.any_eq_false, Bool.not_eq_false] at h3
  obtain ⟨⟨⟨⟨⟨⟨a, b⟩, c⟩, d⟩, e⟩, f⟩, g⟩ := h3
  exact ⟨name_small a, by omega, by omega, by omega, fun s hs => by simpa using e s hs, fun s hs => by simpa using f s hs, fun s hs => by simpa using g s hs⟩
/-- The cell that a valid instance names. -/
theorem inst_cell {cs : List CellD} (h : libB cs = true) {k : Nat} (hk : k < cs.length) {i : InstD} (hi : instB i k = true) : ∃ n : Nat, i.cell = n ∧ n < cs.length ∧ (cs[n]?).map CellD.name = some (nmOf cs i) ∧ (nmOf cs i).size ≤ 8 := by
  have hp := (inst_parts hi).1
  obtain ⟨n, hn⟩ := Int.eq_ofNat_of_zero_le hp.1
  have hlt : n < cs.length := by omega
  have e : cs[n]? = some cs[n] := List.getElem?_eq_getElem hlt
  have e2 : nmOf cs i = cs[n].name := by unfold nmOf; rw [hn, Int.toNat_natCast, e]; rfl
  exact ⟨n, hn, hlt, by rw [e, e2]; rfl, by rw [e2]; exact (lib_facts h e).name⟩

end Go.Proofs.YtcckamhokdodnaaGreatDoor
