/- Contract: the reference's l03Canon returns the canonical form of a set. No conditions. Contract: the program's region returns the canonical form of a set. No conditions. Contracts: is a list a region? The program's IsRegion and the reference's l03Ok give the same answer. No conditions. -/
import Derived.Test.YtcckamhokdodnaaGreatDoorMemA
import Derived.Deep.RegionLaw
import Derived.Test.YtcckamhokdodnaaGreatDoorMathA
namespace Go.Proofs.YtcckamhokdodnaaGreatDoor
open Go.RowKit

/-- Rows of different element types lie apart. -/
theorem own_types {w : World} {B B' : Nat} {e e' : TypeId} {s s' n n' : Nat} {v v' : Value} {xs xs' : List Value} (h : w.ownsRow B e s v n xs) (h' : w.ownsRow B' e' s' v' n' xs') (hne : e ≠ e') : v.ownBlock = none ∨ v.ownBlock ≠ v'.ownBlock := by
  rcases h.2 with ⟨rfl, _⟩ | ⟨g, cap, cur, rfl, _, hh, _⟩
  · exact .inl rfl
  · right
    intro he
    rcases h'.2 with ⟨rfl, _⟩ | ⟨g', cap', cur', rfl, _, hh', _⟩
    · simp [Value.ownBlock] at he
    · simp [Value.ownBlock] at he
      subst he
      rw [hh] at hh'
      simp at hh'
      exact hne hh'.2
theorem IL.keptR {w w' : World} {B B' : Nat} {u v : Value} {xs : List Int} {rs : List Rc} (h : IL w B u xs) (hr : RL w B' v rs) (hg : w.grownBy w' v.ownBlock) : IL w' B u xs := World.ownsRow.kept h hg (own_types h hr (by decide))

theorem RL.alloc {w : World} {B : Nat} {v : Value} {rs : List Rc} (h : RL w B v rs) (o : Obj) : RL (w.alloc o) B v rs := World.ownsRow.alloc h o
theorem RL.drew {w : World} {B : Nat} {v : Value} {rs : List Rc} (h : RL w B v rs) : RL w.drew B v rs := h

theorem IL.alloc {w : World} {B : Nat} {v : Value} {rs : List Int} (h : IL w B v rs) (o : Obj) : IL (w.alloc o) B v rs := World.ownsRow.alloc h o
theorem IL.drew {w : World} {B : Nat} {v : Value} {rs : List Int} (h : IL w B v rs) : IL w.drew B v rs := h
theorem canon_start (G : Gr) : [] ++ canonFrom G 0 = canon G := by rw [List.nil_append, canon]
theorem rowEnd_here {G : Gr} {a e : Nat} (h : rowEnd' G a e = rowEnd' G a (a + 1)) (hn : ¬ (e < 80 ∧ rowEq G e a = true)) : e = rowEnd' G a (a + 1) := by
  rw [← h, rowEnd_stop G a e hn]

end Go.Proofs.YtcckamhokdodnaaGreatDoor

namespace Go.Proofs.YtcckamhokdodnaaGreatDoor
open Go.RowKit

theorem at_cell {G : Gr} {a n : Nat} (ha : a < 80) (hn : n < 80) : G (a * 80 + n) = at_ G a n := (at_in G ha hn).symm

end Go.Proofs.YtcckamhokdodnaaGreatDoor

namespace Go.Proofs.YtcckamhokdodnaaGreatDoor
open Go.RowKit

theorem isReg_eq (rs : List Rc) : isReg rs = (validL rs && eqL (canon (cellsG rs)) rs) := rfl
theorem isReg_no {rs : List Rc} (h : validL rs = false) : isReg rs = false := by rw [isReg_eq, h, Bool.false_and]
theorem isReg_yes {rs : List Rc} (h : validL rs = true) : isReg rs = eqL (canon (cellsG rs)) rs := by rw [isReg_eq, h, Bool.true_and]
theorem isReg_big {rs : List Rc} (h : ¬ sumA rs ≤ 6400) : isReg rs = false := by
  rw [Bool.eq_false_iff]
  intro hc
  rw [isReg_iff] at hc
  have := sumA_canon (cellsG rs)
  rw [hc.2.2] at this
  exact h this

end Go.Proofs.YtcckamhokdodnaaGreatDoor
