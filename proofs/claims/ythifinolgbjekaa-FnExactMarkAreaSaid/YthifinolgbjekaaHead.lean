/- Plain mathematics: a grid whose first cells have been set anew. No conditions. -/
import Derived.Test.YthifinolgbjekaaGrid
namespace Go.Proofs.Ythifinolgbjekaa

/-- The first n cells of F, the others of G. -/
def headG (F G : Gr) (n : Nat) : Gr := fun i => if i < n then F i else G i
theorem headG_zero (F G : Gr) : headG F G 0 = G := by funext i; simp [headG]
theorem headG_at (F G : Gr) (n : Nat) : headG F G n n = G n := if_neg (Nat.lt_irrefl n)
theorem headG_step (F G : Gr) (n : Nat) : updG (headG F G n) n (F n) = headG F G (n + 1) := by
  funext i
  unfold updG headG
  by_cases h : i = n
  · subst h; rw [if_pos rfl, if_pos (Nat.lt_succ_self _)]
  · rw [if_neg h]
    by_cases h2 : i < n
    · rw [if_pos h2, if_pos (by omega)]
    · rw [if_neg h2, if_neg (by omega)]
theorem headG_all (F G : Gr) : sameG (headG F G 6400) F := fun i hi => by unfold headG; rw [if_pos hi]

end Go.Proofs.Ythifinolgbjekaa
