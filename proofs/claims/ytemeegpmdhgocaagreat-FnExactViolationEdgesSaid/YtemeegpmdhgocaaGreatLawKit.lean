/- What the laws' walks share. No conditions. -/
import Derived.Test.YtemeegpmdhgocaaGreatTo
import Derived.Test.YtemeegpmdhgocaaGreatCmp
import Derived.Test.YtemeegpmdhgocaaGreatDrawK
namespace Go.Proofs.YtemeegpmdhgocaaGreat
open Go.RowKit

/-- A row from block N on, kept while one below N is written. -/
theorem own_near {w w' : World} {B N n size : Nat} {e : TypeId} {v u : Value} {xs : List Value} (h : w.ownsRow B e size v n xs) (hN : ∀ g, v.ownBlock = some g → N ≤ g) (hg : w.grownBy w' u.ownBlock) (hu : ∀ g, u.ownBlock = some g → g < N) : w'.ownsRow B e size v n xs := by
  refine h.kept hg ?_
  cases hv : v.ownBlock with
  | none => exact .inl rfl
  | some g =>
    right
    intro e
    have h1 := hN g hv
    have h2 := hu g e.symm
    omega

theorem RL.far {w w' : World} {B N : Nat} {v u : Value} {rs : List Rc} (h : RL w B v rs) (hN : ∀ g, v.ownBlock = some g → g < N) (hg : w.grownBy w' u.ownBlock) (hu : ∀ g, u.ownBlock = some g → N ≤ g) : RL w' B v rs := own_far h hN hg hu
theorem RL.near {w w' : World} {B N : Nat} {v u : Value} {rs : List Rc} (h : RL w B v rs) (hN : ∀ g, v.ownBlock = some g → N ≤ g) (hg : w.grownBy w' u.ownBlock) (hu : ∀ g, u.ownBlock = some g → g < N) : RL w' B v rs := own_near h hN hg hu

end Go.Proofs.YtemeegpmdhgocaaGreat
