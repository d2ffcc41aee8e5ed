/- Contracts: a violation copied (by the reference, by the program); an append to a list of violations of the call's own. Conditions: lists in memory, not empty. -/
import Derived.Test.YtemeegpmdhgocaaGreatVioA
import Derived.Test.YtemeegpmdhgocaaGreatCompKit
import Derived.StillTailTactics
import Derived.BigRegion
import Derived.Deep.CutRange
namespace Go.Proofs.YtemeegpmdhgocaaGreat
open Go.RowKit

theorem flat_cells {w : World} {B : Nat} {u : Value} {qs : List Rc} (hu : RL w B u qs) (hne : qs ≠ []) : ∃ g cap, u = .slice (some ⟨g, 0, none⟩) qs.length cap ∧ ∀ (j : Nat) (y : Value), (flatR qs)[j]? = some y → w.cell? ⟨g, j, none⟩ = some y := by
  unfold RL at hu
  rcases hu.2 with ⟨hv, hn⟩ | ⟨g, cap, cur, hv, hg, hh, hnc, hcm, hcs, htake⟩
  · exact absurd (List.length_eq_zero_iff.1 hn) hne
  · refine ⟨g, cap, hv, fun j y hy => ?_⟩
    rw [cell_of_row w g j cur _ (0, 0) hh]
    rw [← htake, List.getElem?_take] at hy
    split at hy
    · simpa using hy
    · cases hy
theorem flat_one (qs : List Rc) : ∀ y ∈ flatR qs, y.oneCell' = true := by
  intro y hy
  simp only [flatR, List.mem_flatMap, Rc.vals] at hy
  obtain ⟨r, _, hy⟩ := hy
  simp at hy
  rcases hy with rfl | rfl | rfl | rfl <;> rfl
/-- 'append(list, more...)' in a region that draws its order. -/
theorem step_append_RR {W : World} {ops : Array Oper} {o : Oper} {a : Act} {K : Act → World → Prop} {Q : Exit → Act → World → Prop} {E : Prop} (hgd : o.guard = none) (s x : Operand)
    (ho : o.op = .call { callee := .builtin .append, args := #[s, x], argTypes := #[41, 41] })
    (B B' : Nat) (v u : Value) (rs qs : List Rc) (hs : a.eval s = v) (hown : RL W B v rs) (hx : a.eval x = u) (hu : RL W B' u qs) (hne : qs ≠ [])
    (hlen : rs.length + qs.length ≤ 1000000) (hB : B ≤ W.heap.size)
    (h : ∀ v' w', RL w' B v' (rs ++ qs) → W.grownBy w' v.ownBlock → Below B W w' → K (a.put o.dst v') w') :
    if Region.wanted o (yielded ops a.tmps) = true then Oper.wp Tryz.prog o a W K Q else E := by
  obtain ⟨i, hi, hz, hsz, hby⟩ := info_parts infoRect
  obtain ⟨g, cap, rfl, hc⟩ := flat_cells hu hne
  rw [if_pos (by simp [Region.wanted, hgd])]
  refine wp_append_own _ s x 41 ho B 88 i _ 4 32 Tryz.underlying41 hi hz hsz hby rfl (by decide) v rs.length (flatR rs) hs hown ⟨g, 0, none⟩ qs.length cap
    (flatR qs) hx (flatR_length qs) ?_ (flat_one qs) (by simp only [maxLen]; omega) (by omega) hB ?_
  · intro j u hu
    rw [Addr.add_lit, Nat.zero_add]
    exact hc j u hu
  · intro v' w' h1 h2 _
    refine h v' w' ?_ h2 (below_own hown h2 hB)
    unfold RL
    rw [flatR_append, List.length_append]
    exact h1
theorem RL.lit0 (w : World) {B : Nat} (hB : B ≤ w.heap.size) : RL (w.alloc (.cells #[] 88)) B (.slice (some ⟨w.heap.size, 0, none⟩) 0 0) [] := World.ownsRow_lit w #[] 0 hB (by simp [maxLen]) rfl

/-- What lies in memory for a violation that was copied. -/
def CopyOf (w : World) (k : Int) (rs : List Rc) (e : Ending) (w' : World) : Prop := ∃ u, e = .returned (.agg #[.int .i64 k, u]) ∧ RL w' w.heap.size u rs ∧ Below w.heap.size w w'

theorem XW.lit0 (w : World) {B : Nat} (hB : B ≤ w.heap.size) : XW (w.alloc (.cells #[] 43)) B (.slice (some ⟨w.heap.size, 0, none⟩) 0 0) [] [] := ⟨rfl, World.ownsRow_lit w #[] 0 hB (by simp [maxLen]) rfl, fun k u q hu => by simp at hu⟩

end Go.Proofs.YtemeegpmdhgocaaGreat
