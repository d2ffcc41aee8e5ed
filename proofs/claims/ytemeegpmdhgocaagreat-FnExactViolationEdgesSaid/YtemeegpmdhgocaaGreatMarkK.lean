/- The markers of an area rule: plain law, and the contract of the reference's MarkArea. No conditions. Contracts: the program's choose (of the small components), SelectSmall and MarkArea. No conditions. -/
import Derived.Test.YtemeegpmdhgocaaGreatCompsS
import Derived.Test.YtemeegpmdhgocaaGreatDrawK
import Derived.Deep.RegionHeld
namespace Go.Proofs.YtemeegpmdhgocaaGreat
open Go.RowKit

def smallStep (n : Int) (o P : Gr) : Gr := if countG P < n then unionG o P else o
/-- The cells of the sets with fewer than n cells. -/
def smallG (n : Int) (Gs : List Gr) : Gr := Gs.foldl (smallStep n) emptyG
def fewGs (n : Int) (Gs : List Gr) : List Gr := Gs.filter fun P => decide (countG P < n)
def smallL (n : Int) (Gs : List Gr) : List (List Rc) := (fewGs n Gs).map canon
theorem smallG_step (n : Int) {Gs : List Gr} {k : Nat} {P : Gr} (h : Gs[k]? = some P) : smallG n (Gs.take (k + 1)) = smallStep n (smallG n (Gs.take k)) P := by
  unfold smallG
  rw [List.take_add_one, h, Option.toList, List.foldl_append]; rfl
theorem smallL_step (n : Int) {Gs : List Gr} {k : Nat} {P : Gr} (h : Gs[k]? = some P) : smallL n (Gs.take (k + 1)) = if countG P < n then smallL n (Gs.take k) ++ [canon P] else smallL n (Gs.take k) := by
  unfold smallL fewGs
  rw [List.take_add_one, h, Option.toList, List.filter_append, List.map_append]
  by_cases hc : countG P < n
  · simp [hc]
  · simp [hc]
theorem smallL_length (n : Int) (Gs : List Gr) (k : Nat) : (smallL n (Gs.take k)).length ≤ k := by
  unfold smallL fewGs
  rw [List.length_map]
  exact Nat.le_trans (List.length_filter_le _ _) (by rw [List.length_take]; omega)
theorem small_fold (n : Int) : ∀ (Gs : List Gr) (o : Gr), sameG (unionG o (cellsG (smallL n Gs).flatten)) (Gs.foldl (smallStep n) o)
  | [], o => fun i _ => by simp [smallL, fewGs, unionG, cellsG]
  | P :: Gs, o => by
    intro i hi
    rw [List.foldl_cons, ← small_fold n Gs (smallStep n o P) i hi]
    unfold smallStep smallL fewGs
    by_cases hc : countG P < n
    · rw [List.filter_cons_of_pos (by simpa using hc), List.map_cons, List.flatten_cons, cellsG_append, if_pos hc]
      unfold unionG
      rw [cells_canon P i hi, Bool.or_assoc]
    · rw [List.filter_cons_of_neg (by simpa using hc), if_neg hc]
theorem small_canon (n : Int) (Gs : List Gr) : canon (cellsG (smallL n Gs).flatten) = canon (smallG n Gs) := by
  refine canon_congr fun i hi => ?_
  have := small_fold n Gs emptyG i hi
  unfold smallG
  rw [← this]
  simp [unionG, emptyG]
/-- The markers of an area rule. -/
noncomputable def areaMV (rs : List Rc) (n : Int) : List Rc := if isReg rs = true ∧ 1 ≤ n ∧ n ≤ 6400 then canon (smallG n (comps (cellsG rs))) else []
theorem areaMV_yes {rs : List Rc} {n : Int} (h : isReg rs = true) (h1 : 1 ≤ n) (h2 : n ≤ 6400) : areaMV rs n = canon (smallG n (comps (cellsG rs))) := if_pos ⟨h, h1, h2⟩
theorem areaMV_no {rs : List Rc} {n : Int} (h : ¬ (isReg rs = true ∧ 1 ≤ n ∧ n ≤ 6400)) : areaMV rs n = [] := if_neg h
theorem areaMV_length (rs : List Rc) (n : Int) : (areaMV rs n).length ≤ 1000000 := by
  unfold areaMV
  split
  · have := canon_length (smallG n (comps (cellsG rs))); omega
  · simp

end Go.Proofs.YtemeegpmdhgocaaGreat

namespace Go.Proofs.YtemeegpmdhgocaaGreat
open Go.RowKit

theorem RLL.kept {w w' : World} {B B2 : Nat} {v v2 : Value} {rss qss : List (List Rc)} (h : RLL w B v rss) (ho : RLL w B2 v2 qss) (hne : v.ownBlock = none ∨ v.ownBlock ≠ v2.ownBlock) (hg : w.grownBy w' v2.ownBlock) : RLL w' B v rss := by
  obtain ⟨vs, h1, h2, h3⟩ := h
  obtain ⟨ws, k1, _, _⟩ := ho
  exact ⟨vs, World.ownsRow.kept h1 hg hne, h2, fun k u rs hu hr => World.ownsRow.kept (h3 k u rs hu hr) hg (own_apart (h3 k u rs hu hr) k1 (by decide))⟩
/-- As wpList_append_RLL; the list's block stays or is new. -/
theorem wpList_append_RLM {w : World} {ops : Array Oper} {rest : List Oper} {o : Oper} {a : Act} {Q : Exit → Act → World → Prop} (hgd : o.guard = none) (s x : Operand)
    (ho : o.op = .call { callee := .builtin .append, args := #[s, x], argTypes := #[35, 35] })
    (B : Nat) (v : Value) (rss : List (List Rc)) (hs : a.eval s = v) (hown : RLL w B v rss) (u : Value) (rs : List Rc) (hu : RL w B u rs) (hx : a.eval x = .slice (some ⟨w.heap.size, 0, none⟩) 1 1) (hlen : rss.length ≤ 1000000) (hB : B ≤ w.heap.size)
    (h : ∀ v' w', RLL w' B v' (rss ++ [rs]) → w.grownBy w' v.ownBlock → Below B w w' → (v'.ownBlock = v.ownBlock ∨ ∃ g, v'.ownBlock = some g ∧ w.heap.size ≤ g) → wpList Tryz.prog ops Q rest (a.put o.dst v') w') :
    wpList Tryz.prog ops Q (o :: rest) a (w.alloc (.cells #[u] 41)) := by
  obtain ⟨vs, h1, h2, h3⟩ := hown
  have hone : u.oneCell' = true := by obtain ⟨A, c, rfl, _⟩ := hu.form; rfl
  obtain ⟨i, hi, hz, hsz, hby⟩ := info_parts infoRects
  refine wpList_append_own_at _ hgd s x 35 ho B 41 i _ 1 24 Tryz.underlying35 hi hz hsz hby rfl (by decide) v vs.length vs hs (World.ownsRow.alloc h1 _) ⟨w.heap.size, 0, none⟩ 1 1
    [u] hx rfl ?_ ?_ (by simp only [maxLen]; omega) (by omega) (by simp; omega) ?_
  · intro j y hy
    rw [Addr.add_lit, World.cell?_alloc_new]
    simpa using hy
  · intro y hy
    simp at hy
    subst hy
    exact hone
  · intro v' w' k1 k2 _ hat
    have k3 := grown_of_alloc k2
    refine h v' w' ⟨vs ++ [u], by unfold VL; rw [List.length_append]; exact k1, by simp [h2], fun k y qs hy hq => ?_⟩ k3 (below_own h1 k3 hB) ?_
    · by_cases hk : k < vs.length
      · rw [List.getElem?_append_left hk] at hy
        rw [List.getElem?_append_left (by omega)] at hq
        have hr := h3 k y qs hy hq
        exact World.ownsRow.kept hr k3 (own_apart hr h1 (by decide))
      · have hke : k = vs.length := by have := (List.getElem?_eq_some_iff.1 hy).1; simp at this; omega
        subst hke
        rw [List.getElem?_append_right (Nat.le_refl _), Nat.sub_self] at hy
        rw [List.getElem?_append_right (by omega), h2, Nat.sub_self] at hq
        simp at hy hq
        subst hy hq
        exact World.ownsRow.kept hu k3 (own_apart hu h1 (by decide))
    · rcases hat with hat | hat
      · exact .inl hat
      · exact .inr ⟨_, hat, by simp⟩

end Go.Proofs.YtemeegpmdhgocaaGreat
