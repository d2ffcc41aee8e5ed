/- Contracts: IsClean of the reference and of the program. Conditions: a list of lists, a list of rules in memory. -/
import Derived.Test.YtemeegpmdhgocaaGreatDeckA
import Derived.Test.YtemeegpmdhgocaaGreatRm
namespace Go.Proofs.YtemeegpmdhgocaaGreat
open Go.RowKit

noncomputable def cleanAt (rss : List (List Rc)) (qs : List Ru) (j : Nat) : Bool := match qs[j]? with | some q => decide ((rmV rss q).length = 0) | none => true
noncomputable def allClean (rss : List (List Rc)) (qs : List Ru) : Bool := (List.range qs.length).all (cleanAt rss qs)
noncomputable def cleanB (rss : List (List Rc)) (qs : List Ru) : Bool := layB rss && deckB qs && allClean rss qs
theorem clean_at {rss : List (List Rc)} {qs : List Ru} {j : Nat} {q : Ru} (h : qs[j]? = some q) : cleanAt rss qs j = decide ((rmV rss q).length = 0) := by unfold cleanAt; rw [h]
theorem clean_bad {rss : List (List Rc)} {qs : List Ru} {k : Nat} (hk : k < qs.length) (h : cleanAt rss qs k = false) : allClean rss qs = false := by
  rw [Bool.eq_false_iff]
  intro hc
  unfold allClean at hc
  rw [List.all_eq_true] at hc
  have := hc k (List.mem_range.2 hk)
  rw [h] at this
  cases this
theorem clean_all {rss : List (List Rc)} {qs : List Ru} (h : ∀ j, j < qs.length → cleanAt rss qs j = true) : allClean rss qs = true := by
  unfold allClean
  rw [List.all_eq_true]
  exact fun j hj => h j (List.mem_range.1 hj)
theorem deck_rule {qs : List Ru} {k : Nat} {q : Ru} (h : deckB qs = true) (hq : qs[k]? = some q) : ruleB q = true := by
  unfold deckB at h
  rw [Bool.and_eq_true, List.all_eq_true] at h
  have := h.2 k (List.mem_range.2 (List.getElem?_eq_some_iff.1 hq).1)
  rw [good_at hq, Bool.and_eq_true] at this
  exact this.1

def dirtAt (rss : List (List Rc)) (qs : List Ru) (w : World) (e : Ending) (w' : World) : Prop := ∃ n : Int, e = .returned (.int .i64 n) ∧ -1 ≤ n ∧ n ≤ 1000000000 ∧ decide (0 ≤ n) = (!allClean rss qs) ∧ Below w.heap.size w w'
end Go.Proofs.YtemeegpmdhgocaaGreat
