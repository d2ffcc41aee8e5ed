/- Contracts: the program's searches of a cell's lists for one that is not valid, and of a library for a name. Conditions: lists in memory. -/
import Derived.Test.YtljfpeipcfankaaGreatDoorVal
namespace Go.Proofs.YtljfpeipcfankaaGreatDoor
open Go.RowKit

def idxF {α : Type} (p : α → Bool) (xs : List α) : Int := if xs.any p = true then (xs.findIdx p : Nat) else -1
theorem idxF_none {α : Type} {p : α → Bool} {xs : List α} (h : xs.any p = false) : idxF p xs = -1 := if_neg (by rw [h]; simp)
theorem idxF_hit {α : Type} {p : α → Bool} {xs : List α} {k : Nat} {x : α} (h0 : (xs.take k).any p = false) (hx : xs[k]? = some x) (hp : p x = true) : idxF p xs = k := by
  have hk : k < xs.length := (List.getElem?_eq_some_iff.1 hx).1
  have hxe : xs[k] = x := (List.getElem?_eq_some_iff.1 hx).2
  have ha : xs.any p = true := List.any_eq_true.2 ⟨x, List.mem_of_getElem? hx, hp⟩
  rw [idxF, if_pos ha]
  congr 1
  rw [List.findIdx_eq hk]
  refine ⟨by rw [hxe]; exact hp, fun j hj => ?_⟩
  have hm : xs[j] ∈ xs.take k := by
    rw [List.mem_take_iff_getElem]
    exact ⟨j, by omega, rfl⟩
  cases hpj : p xs[j] with
  | false => rfl
  | true =>
    have := List.any_eq_true.2 ⟨_, hm, hpj⟩
    rw [h0] at this
    cases this
theorem any_step {α : Type} {p : α → Bool} {xs : List α} {k : Nat} {x : α} (h0 : (xs.take k).any p = false) (hx : xs[k]? = some x) (hp : p x = false) : (xs.take (k + 1)).any p = false := by
  rw [List.take_add_one, hx, List.any_append, h0]
  simp [hp]
theorem idxF_pos {α : Type} (p : α → Bool) (xs : List α) : decide (0 ≤ idxF p xs) = xs.any p := by
  unfold idxF
  cases h : xs.any p with
  | true => simp
  | false => simp


end Go.Proofs.YtljfpeipcfankaaGreatDoor
