/- Lists of integers in rows of the call's own, and the laws' helpers on them. No conditions. -/
import Derived.Test.YtggcabfognmfgaaGreatDoorLawKit
import Derived.Test.YtggcabfognmfgaaGreatDoorCanonA
namespace Go.Proofs.YtggcabfognmfgaaGreatDoor
open Go.RowKit

theorem valsI_length (xs : List Int) : (valsI xs).length = xs.length := by simp [valsI]
theorem valsI_get (xs : List Int) (k : Nat) : (valsI xs)[k]? = (xs[k]?).map (Value.int .i64) := by simp [valsI]
theorem valsI_set (xs : List Int) (k : Nat) (x : Int) : (valsI xs).set k (.int .i64 x) = valsI (xs.set k x) := by simp [valsI]
section
variable {w w' : World} {B B' : Nat} {v : Value} {xs : List Int}
theorem IL.nil (w : World) (B : Nat) : IL w B (.slice none 0 0) [] := World.ownsRow_nil w B _ _
theorem IL.lt (h : IL w B v xs) : ∀ g, v.ownBlock = some g → B ≤ g ∧ g < w.heap.size := own_lt h
theorem IL.set {g n c : Nat} (h : IL w B (.slice (some ⟨g, 0, none⟩) n c) xs) (j : Nat) (x : Int) : IL (w.setCell ⟨g, j, none⟩ (.int .i64 x)) B (.slice (some ⟨g, 0, none⟩) n c) (xs.set j x) := by
  obtain ⟨A, c', e, _, _⟩ := h.form
  simp only [Value.slice.injEq] at e
  obtain ⟨_, rfl, _⟩ := e
  unfold IL at h ⊢
  rw [← valsI_set, List.length_set]
  exact (World.ownsRow.stored h j (.int .i64 x)).1
theorem IL.frozen {g n c : Nat} (h : IL w B (.slice (some ⟨g, 0, none⟩) n c) xs) (j : Nat) : w.frozen? ⟨g, j, none⟩ = false := by
  obtain ⟨A, c', e, _, _⟩ := h.form
  simp only [Value.slice.injEq] at e
  obtain ⟨_, rfl, _⟩ := e
  exact World.ownsRow.frozenAt h j
theorem IL.far {N : Nat} {u : Value} (h : IL w B v xs) (hN : ∀ g, v.ownBlock = some g → g < N) (hg : w.grownBy w' u.ownBlock) (hu : ∀ g, u.ownBlock = some g → N ≤ g) : IL w' B v xs := own_far h hN hg hu
theorem IL.near {N : Nat} {u : Value} (h : IL w B v xs) (hN : ∀ g, v.ownBlock = some g → N ≤ g) (hg : w.grownBy w' u.ownBlock) (hu : ∀ g, u.ownBlock = some g → g < N) : IL w' B v xs := own_near h hN hg hu
end

/-- The first j elements are marked. -/
def marksI (k : Int) (n : Nat) : List Int := (List.range n).map fun i : Nat => k + i
theorem marksI_length (k : Int) (n : Nat) : (marksI k n).length = n := by simp [marksI]
theorem marksI_get (k : Int) (n i : Nat) (h : i < n) : (marksI k n)[i]? = some (k + i) := by simp [marksI, h]
def mixedI (k : Int) (xs : List Int) (j : Nat) : List Int := marksI k j ++ xs.drop j
theorem mixedI_length (k : Int) (xs : List Int) (j : Nat) (h : j ≤ xs.length) : (mixedI k xs j).length = xs.length := by
  simp only [mixedI, List.length_append, marksI_length, List.length_drop]; omega
theorem mixedI_step (k : Int) (xs : List Int) (j : Nat) (h : j < xs.length) : (mixedI k xs j).set j (k + j) = mixedI k xs (j + 1) := by
  have e : xs.drop j = xs[j] :: xs.drop (j + 1) := List.drop_eq_getElem_cons h
  have e2 : marksI k (j + 1) = marksI k j ++ [k + j] := by simp [marksI, List.range_succ]
  unfold mixedI
  rw [List.set_append_right _ _ (by rw [marksI_length]; exact Nat.le_refl _), marksI_length, Nat.sub_self, e, List.set_cons_zero, e2, List.append_assoc]
  rfl
theorem mixedI_end (k : Int) (xs : List Int) : mixedI k xs xs.length = marksI k xs.length := by simp [mixedI]

end Go.Proofs.YtggcabfognmfgaaGreatDoor
