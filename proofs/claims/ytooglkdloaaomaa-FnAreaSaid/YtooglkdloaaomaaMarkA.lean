/- The markers of an area rule: plain law, and the contract of the reference's MarkArea. No conditions. -/
import Derived.Test.YtooglkdloaaomaaCompsS
import Derived.Test.YtooglkdloaaomaaDrawK
namespace Go.Proofs.Ytooglkdloaaomaa
open Go.RowKit

def smallStep (n : Int) (o P : Gr) : Gr := if countG P < n then unionG o P else o
/-- The cells of the sets with fewer than n cells. -/
def smallG (n : Int) (Gs : List Gr) : Gr := Gs.foldl (smallStep n) emptyG
def fewGs (n : Int) (Gs : List Gr) : List Gr := Gs.filter fun P => decide (countG P < n)
def smallL (n : Int) (Gs : List Gr) : List (List Rc) := (fewGs n Gs).map canon
theorem smallG_step (n : Int) {Gs : List Gr} {k : Nat} {P : Gr} (h : Gs[k]? = some P) : smallG n (Gs.take (k + 1)) = smallStep n (smallG n (Gs.take k)) P := by
  unfold smallG
  rw [List.take_add_one, h, Option.toList, List.foldl_append]; rfl
theorem smallL_step (n : Int) {Gs : List Gr} {k : Nat} {P : Gr} (h : Gs[k]? = some P) : smallL n (Gs.take (k + 1)) = if countG P < n then smallL n (Gs.take k) ++ [canon P] else smallL n (Gs.take k) := by
  unfold smallL fewGs
  rw [List.take_add_one, h, Option.toList, List.filter_append, List.map_append]
  by_cases hc : countG P < n
  · simp [hc]
  · simp [hc]
theorem smallL_length (n : Int) (Gs : List Gr) (k : Nat) : (smallL n (Gs.take k)).length ≤ k := by
  unfold smallL fewGs
  rw [List.length_map]
  exact Nat.le_trans (List.length_filter_le _ _) (by rw [List.length_take]; omega)
theorem small_fold (n : Int) : ∀ (Gs : List Gr) (o : Gr), sameG (unionG o (cellsG (smallL n Gs).flatten)) (Gs.foldl (smallStep n) o)
  | [], o => fun i _ => by simp [smallL, fewGs, unionG, cellsG]
  | P :: Gs, o => by
    intro i hi
    rw [List.foldl_cons, ← small_fold n Gs (smallStep n o P) i hi]
    unfold smallStep smallL fewGs
    by_cases hc : countG P < n
    · rw [List.filter_cons_of_pos (by simpa using hc), List.map_cons, List.flatten_cons, cellsG_append, if_pos hc]
      unfold unionG
      rw [cells_canon P i hi, Bool.or_assoc]
    · rw [List.filter_cons_of_neg (by simpa using hc), if_neg hc]
theorem small_canon (n : Int) (Gs : List Gr) : canon (cellsG (smallL n Gs).flatten) = canon (smallG n Gs) := by
  refine canon_congr fun i hi => ?_
  have := small_fold n Gs emptyG i hi
  unfold smallG
  rw [← this]
  simp [unionG, emptyG]
/-- The markers of an area rule. -/
noncomputable def areaMV (rs : List Rc) (n : Int) : List Rc := if isReg rs = true ∧ 1 ≤ n ∧ n ≤ 6400 then canon (smallG n (comps (cellsG rs))) else []
theorem areaMV_yes {rs : List Rc} {n : Int} (h : isReg rs = true) (h1 : 1 ≤ n) (h2 : n ≤ 6400) : areaMV rs n = canon (smallG n (comps (cellsG rs))) := if_pos ⟨h, h1, h2⟩
theorem areaMV_no {rs : List Rc} {n : Int} (h : ¬ (isReg rs = true ∧ 1 ≤ n ∧ n ≤ 6400)) : areaMV rs n = [] := if_neg h
theorem areaMV_length (rs : List Rc) (n : Int) : (areaMV rs n).length ≤ 1000000 := by
  unfold areaMV
  split
  · have := canon_length (smallG n (comps (cellsG rs))); omega
  · simp

end Go.Proofs.Ytooglkdloaaomaa
