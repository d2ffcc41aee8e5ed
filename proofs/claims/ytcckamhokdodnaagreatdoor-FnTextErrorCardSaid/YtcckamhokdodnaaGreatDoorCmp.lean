/- The laws' own helpers on rectangles: two equal lists are found equal; a list that is marked reads back as marked. -/
import Derived.Test.YtcckamhokdodnaaGreatDoorMemA
namespace Go.Proofs.YtcckamhokdodnaaGreatDoor
open Go.RowKit

/-- The mark of the element i. -/
def mark (k : Int) (i : Nat) : Rc := ⟨k + 4 * i, k + 4 * i + 1, k + 4 * i + 2, k + 4 * i + 3⟩
def marks (k : Int) (n : Nat) : List Rc := (List.range n).map (mark k)
theorem marks_length (k : Int) (n : Nat) : (marks k n).length = n := by simp [marks]
theorem marks_get (k : Int) (n i : Nat) (h : i < n) : (marks k n)[i]? = some (mark k i) := by simp [marks, h]
/-- The first j elements are marked. -/
def mixed (k : Int) (rs : List Rc) (j : Nat) : List Rc := marks k j ++ rs.drop j
theorem mixed_length (k : Int) (rs : List Rc) (j : Nat) (h : j ≤ rs.length) : (mixed k rs j).length = rs.length := by
  simp only [mixed, List.length_append, marks_length, List.length_drop]; omega
theorem mixed_step (k : Int) (rs : List Rc) (j : Nat) (h : j < rs.length) : (mixed k rs j).set j (mark k j) = mixed k rs (j + 1) := by
  have e : rs.drop j = rs[j] :: rs.drop (j + 1) := List.drop_eq_getElem_cons h
  have e2 : marks k (j + 1) = marks k j ++ [mark k j] := by simp [marks, List.range_succ]
  unfold mixed
  rw [List.set_append_right _ _ (by rw [marks_length]; exact Nat.le_refl _), marks_length, Nat.sub_self, e, List.set_cons_zero, e2, List.append_assoc]
  rfl
theorem mixed_end (k : Int) (rs : List Rc) : mixed k rs rs.length = marks k rs.length := by simp [mixed]

end Go.Proofs.YtcckamhokdodnaaGreatDoor
