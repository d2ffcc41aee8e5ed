/- Contracts: the program's unionAll, RectsOverlap, meet. No conditions of unionAll; of meet: valid rectangles. -/
import Derived.Test.YtemeegpmdhgocaaGreatCombA
import Derived.Test.YtemeegpmdhgocaaGreatSets
import Derived.Test.YtemeegpmdhgocaaGreatCovA
import Derived.Test.YtemeegpmdhgocaaGreatCanonA
namespace Go.Proofs.YtemeegpmdhgocaaGreat
open Go.RowKit

/-- A store into a set of the program keeps the lists. -/
theorem RLL.put_other {w w' : World} {g B : Nat} {v : Value} {rss : List (List Rc)} {G : Gr} (h : RLL w B v rss) (hG : GB w g 96 G) (hg : w.grownBy w' (some g)) : RLL w' B v rss := by
  obtain ⟨vs, h1, h2, h3⟩ := h
  obtain ⟨cs, hb, _⟩ := hG
  refine ⟨vs, World.ownsRow.kept h1 hg (.inr fun he => hb.apart' h1 (by decide) he.symm), h2, fun k u rs hu hr => ?_⟩
  have h4 := h3 k u rs hu hr
  exact World.ownsRow.kept h4 hg (.inr fun he => hb.apart' h4 (by decide) he.symm)
theorem RL.put_other {w w' : World} {g B : Nat} {v : Value} {rs : List Rc} {G : Gr} (h : RL w B v rs) (hG : GB w g 96 G) (hg : w.grownBy w' (some g)) : RL w' B v rs := by
  obtain ⟨cs, hb, _⟩ := hG
  exact World.ownsRow.kept h hg (.inr fun he => hb.apart' h (by decide) he.symm)
/-- Two lists as the arguments of a variadic call. -/
theorem RLL.two {w : World} {u1 u2 : Value} {a b : List Rc} (h1 : RL w 0 u1 a) (h2 : RL w 0 u2 b) : RLL (w.alloc (.cells #[u1, u2] 41)) 0 (.slice (some ⟨w.heap.size, 0, none⟩) 2 2) [a, b] := by
  refine ⟨[u1, u2], World.ownsRow_lit w #[u1, u2] 2 (Nat.zero_le _) (by simp [maxLen]) rfl, rfl, fun k u rs hu hr => ?_⟩
  match k with
  | 0 =>
    simp at hu hr
    subst hu hr
    exact World.ownsRow.alloc h1 _
  | 1 =>
    simp at hu hr
    subst hu hr
    exact World.ownsRow.alloc h2 _
  | k + 2 => simp at hu
theorem flat_step {rss : List (List Rc)} {k : Nat} {rs : List Rc} (h : rss[k]? = some rs) : (rss.take (k + 1)).flatten = (rss.take k).flatten ++ rs := by
  rw [List.take_add_one, h, Option.toList, List.flatten_append, List.flatten_cons, List.flatten_nil, List.append_nil]
theorem cells_more {qs rs : List Rc} {j : Nat} {r : Rc} (h : rs[j]? = some r) : orR (cellsG (qs ++ rs.take j)) r = cellsG (qs ++ rs.take (j + 1)) := by
  rw [List.take_add_one, h, Option.toList, ← List.append_assoc, cellsG_snoc]

/-- Two valid rectangles overlap. -/
def overR (a b : Rc) : Bool := okRc (commonR a b)
theorem over_iff {a b : Rc} (ha : okRc a = true) (hb : okRc b = true) : overR a b = true ↔ ∃ i, i < 6400 ∧ inR a i = true ∧ inR b i = true := by
  rw [okRc_iff] at ha hb
  unfold overR
  rw [okRc_iff]
  unfold commonR
  dsimp only
  constructor
  · intro h
    refine ⟨((max a.y0 b.y0) + 40).toNat * 80 + ((max a.x0 b.x0) + 40).toNat, by omega, ?_, ?_⟩
    all_goals
      have e1 : (((max a.y0 b.y0) + 40).toNat * 80 + ((max a.x0 b.x0) + 40).toNat) / 80 = ((max a.y0 b.y0) + 40).toNat ∧ (((max a.y0 b.y0) + 40).toNat * 80 + ((max a.x0 b.x0) + 40).toNat) % 80 = ((max a.x0 b.x0) + 40).toNat := by omega
      rw [inR_iff, e1.1, e1.2]
      omega
  · rintro ⟨i, hi, h1, h2⟩
    rw [inR_iff] at h1 h2
    omega
/-- Two lists have a common cell, rectangle by rectangle. -/
def meetL (a b : List Rc) : Bool := a.any fun r => b.any (overR r)
theorem meetL_G {a b : List Rc} (ha : okAll a = true) (hb : okAll b = true) : meetL a b = meetG (cellsG a) (cellsG b) := by
  rw [okAll, List.all_eq_true] at ha hb
  rw [Bool.eq_iff_iff]
  unfold meetL meetG
  rw [List.any_eq_true, List.any_eq_true]
  constructor
  · rintro ⟨r, hr, h⟩
    rw [List.any_eq_true] at h
    obtain ⟨q, hq, h⟩ := h
    obtain ⟨i, hi, h1, h2⟩ := (over_iff (ha r hr) (hb q hq)).1 h
    refine ⟨i, List.mem_range.2 hi, ?_⟩
    rw [(cellsG_iff a i).2 ⟨r, hr, h1⟩, (cellsG_iff b i).2 ⟨q, hq, h2⟩]; rfl
  · rintro ⟨i, hi, h⟩
    rw [Bool.and_eq_true] at h
    obtain ⟨r, hr, h1⟩ := (cellsG_iff a i).1 h.1
    obtain ⟨q, hq, h2⟩ := (cellsG_iff b i).1 h.2
    refine ⟨r, hr, ?_⟩
    rw [List.any_eq_true]
    exact ⟨q, hq, (over_iff (ha r hr) (hb q hq)).2 ⟨i, List.mem_range.1 hi, h1, h2⟩⟩
theorem anyL_first {α : Type} {p : α → Bool} {l : List α} {k : Nat} {a : α} (h : l[k]? = some a) (hp : p a = true) : (l.drop k).any p = true := by
  rw [List.any_eq_true]
  obtain ⟨hk, he⟩ := List.getElem?_eq_some_iff.1 h
  exact ⟨a, by rw [List.drop_eq_getElem_cons hk, he]; simp, hp⟩
theorem anyL_next {α : Type} {p : α → Bool} {l : List α} {k : Nat} {a : α} (h : l[k]? = some a) (hp : p a = false) : (l.drop k).any p = (l.drop (k + 1)).any p := by
  obtain ⟨hk, he⟩ := List.getElem?_eq_some_iff.1 h
  rw [List.drop_eq_getElem_cons hk, he, List.any_cons, hp, Bool.false_or]
theorem anyL_last {α : Type} {p : α → Bool} {l : List α} {k : Nat} (h : l.length ≤ k) : (l.drop k).any p = false := by rw [List.drop_eq_nil_of_le h]; rfl

end Go.Proofs.YtemeegpmdhgocaaGreat
