/- Plain law: whole components stay whole; reports: when a list of violations is one, by the reference's rule and by the program's. No conditions. -/
import Derived.Test.YtemeegpmdhgocaaGreatCombA
import Derived.Test.YtemeegpmdhgocaaGreatMathA
import Derived.Test.YtemeegpmdhgocaaGreatSets
namespace Go.Proofs.YtemeegpmdhgocaaGreat
open Go.RowKit

/-! ## Parts that were found are whole -/
/-- D holds whole components of L. -/
def Whole (L D : Gr) : Prop := ∀ i j, i < 6400 → j < 6400 → L i = true → L j = true → D i = true → nbr i j → D j = true
theorem whole_empty (L : Gr) : Whole L emptyG := fun _ _ _ _ _ _ h _ => by cases h
theorem whole_put {L D : Gr} (h : Whole L D) {s : Nat} : Whole L (unionG D (compG L s)) := by
  intro i j hi hj hLi hLj hD hn
  unfold unionG at *
  rw [Bool.or_eq_true] at *
  rcases hD with hD | hD
  · exact .inl (h i j hi hj hLi hLj hD hn)
  · right
    rw [compG_iff] at *
    exact reach_step hD hn hj hLj
theorem comp_minus {L D : Gr} (h : Whole L D) {s : Nat} (hs : s < 6400) (hL : L s = true) (hD : D s = false) : compG (minusG L D) s = compG L s := by
  funext j
  rw [Bool.eq_iff_iff, compG_iff, compG_iff]
  constructor
  · exact reach_ind (p := fun j => Reach L s j) (reach_start L s) fun i j hi hn hj hG => reach_step hi hn hj (by unfold minusG at hG; rw [Bool.and_eq_true] at hG; exact hG.1)
  · intro hr
    have key : Reach (minusG L D) s j ∧ D j = false ∧ j < 6400 ∧ L j = true := by
      refine reach_ind (p := fun j => Reach (minusG L D) s j ∧ D j = false ∧ j < 6400 ∧ L j = true) ⟨reach_start _ s, hD, hs, hL⟩ (fun i j hi hn hj hG => ?_) hr
      obtain ⟨h1, h2, h3, h4⟩ := hi
      have h5 : D j = false := by
        cases hc : D j with
        | false => rfl
        | true =>
          have := h j i hj h3 hG h4 hc (nbr_symm hn)
          rw [h2] at this
          cases this
      exact ⟨reach_step h1 hn hj (by unfold minusG; rw [hG, h5]; rfl), h5, hj, hG⟩
    exact key.1
theorem minus_union (L D P : Gr) : minusG (minusG L D) P = minusG L (unionG D P) := by
  funext i
  unfold minusG unionG
  cases L i <;> cases D i <;> cases P i <;> rfl
theorem minus_empty (L : Gr) : minusG L emptyG = L := by
  funext i
  unfold minusG emptyG
  simp
/-- One step of the search for parts. -/
theorem parts_yes {L D : Gr} (h : Whole L D) {i : Nat} (hi : i < 6400) (hL : L i = true) (hD : D i = false) :
    compsF (minusG L D) i = compG L i :: compsF (minusG L (unionG D (compG L i))) (i + 1) := by
  have e : minusG L D i = true := by unfold minusG; rw [hL, hD]; rfl
  rw [compsF_yes hi e, comp_minus h hi hL hD, minus_union]
theorem parts_no {L D : Gr} {i : Nat} (hi : i < 6400) (h : L i = false ∨ D i = true) : compsF (minusG L D) i = compsF (minusG L D) (i + 1) :=
  compsF_no hi (by unfold minusG; rcases h with h | h <;> rw [h] <;> simp)

/-! ## Reports -/
def lessR (a b : Rc) : Bool := decide (a.y0 < b.y0 ∨ (a.y0 = b.y0 ∧ (a.x0 < b.x0 ∨ (a.x0 = b.x0 ∧ (a.y1 < b.y1 ∨ (a.y1 = b.y1 ∧ a.x1 < b.x1))))))
theorem lessR_iff (a b : Rc) : lessR a b = true ↔ (a.y0 < b.y0 ∨ (a.y0 = b.y0 ∧ (a.x0 < b.x0 ∨ (a.x0 = b.x0 ∧ (a.y1 < b.y1 ∨ (a.y1 = b.y1 ∧ a.x1 < b.x1)))))) := by simp [lessR]
theorem lessR_trans {a b c : Rc} (h : lessR a b = true) (k : lessR b c = true) : lessR a c = true := by
  rw [lessR_iff] at *
  omega
/-- Two regions have a common cell. -/
def touchB (a b : List Rc) : Bool := meetG (cellsG a) (cellsG b)
/-- One violation may stand before another. -/
def befV (a b : Int × List Rc) : Bool := if a.1 = b.1 then lessR (a.2.headD ⟨0, 0, 0, 0⟩) (b.2.headD ⟨0, 0, 0, 0⟩) && !touchB a.2 b.2 else decide (a.1 < b.1)
theorem befV_ne {a b : Int × List Rc} (h : a.1 ≠ b.1) : befV a b = decide (a.1 < b.1) := if_neg h
theorem befV_eq {a b : Int × List Rc} (h : a.1 = b.1) : befV a b = (lessR (a.2.headD ⟨0, 0, 0, 0⟩) (b.2.headD ⟨0, 0, 0, 0⟩) && !touchB a.2 b.2) := if_pos h
theorem befV_le {a b : Int × List Rc} (h : befV a b = true) : a.1 ≤ b.1 := by
  by_cases e : a.1 = b.1
  · omega
  · rw [befV_ne e] at h
    have := of_decide_eq_true h
    omega
/-- The first i violations: each is valid and may stand behind those before it. -/
def GoodTo (ok : Int × List Rc → Bool) (vs : List (Int × List Rc)) (i : Nat) : Prop := ∀ (j : Nat) (b : Int × List Rc), j < i → vs[j]? = some b → ok b = true ∧ ∀ (k : Nat) (a : Int × List Rc), k < j → vs[k]? = some a → befV a b = true
theorem good_zero (ok : Int × List Rc → Bool) (vs : List (Int × List Rc)) : GoodTo ok vs 0 := fun j b hj => absurd hj (by omega)
theorem good_step {ok : Int × List Rc → Bool} {vs : List (Int × List Rc)} {i : Nat} {b : Int × List Rc} (h : GoodTo ok vs i) (hb : vs[i]? = some b) (hv : ok b = true) (hk : ∀ (k : Nat) (a : Int × List Rc), k < i → vs[k]? = some a → befV a b = true) : GoodTo ok vs (i + 1) := by
  intro j c hj hc
  by_cases e : j = i
  · subst e
    rw [hb] at hc
    cases hc
    exact ⟨hv, hk⟩
  · exact h j c (by omega) hc
noncomputable def repB (ok : Int × List Rc → Bool) (vs : List (Int × List Rc)) : Bool := @decide (vs.length ≤ 256 ∧ GoodTo ok vs vs.length) (Classical.propDecidable _)
theorem repB_iff {ok : Int × List Rc → Bool} {vs : List (Int × List Rc)} : repB ok vs = true ↔ vs.length ≤ 256 ∧ GoodTo ok vs vs.length := by
  unfold repB
  exact @decide_eq_true_iff _ (Classical.propDecidable _)
theorem repB_yes {ok : Int × List Rc → Bool} {vs : List (Int × List Rc)} (h : vs.length ≤ 256) (hg : GoodTo ok vs vs.length) : repB ok vs = true := repB_iff.2 ⟨h, hg⟩
theorem repB_long {ok : Int × List Rc → Bool} {vs : List (Int × List Rc)} (h : 256 < vs.length) : repB ok vs = false := by
  rw [Bool.eq_false_iff]
  intro hc
  have := (repB_iff.1 hc).1
  omega
theorem repB_bad {ok : Int × List Rc → Bool} {vs : List (Int × List Rc)} {i : Nat} {b : Int × List Rc} (hb : vs[i]? = some b) (h : ok b = false) : repB ok vs = false := by
  rw [Bool.eq_false_iff]
  intro hc
  have := ((repB_iff.1 hc).2 i b (List.getElem?_eq_some_iff.1 hb).1 hb).1
  rw [h] at this
  cases this
theorem repB_bef {ok : Int × List Rc → Bool} {vs : List (Int × List Rc)} {i k : Nat} {a b : Int × List Rc} (hb : vs[i]? = some b) (ha : vs[k]? = some a) (hk : k < i) (h : befV a b = false) : repB ok vs = false := by
  rw [Bool.eq_false_iff]
  intro hc
  have := ((repB_iff.1 hc).2 i b (List.getElem?_eq_some_iff.1 hb).1 hb).2 k a hk ha
  rw [h] at this
  cases this
/-- Behind a violation of a smaller rule: fine. -/
theorem good_less {ok : Int × List Rc → Bool} {vs : List (Int × List Rc)} {i : Nat} {a b : Int × List Rc} (h : GoodTo ok vs i) (hi : 1 ≤ i) (ha : vs[i - 1]? = some a) (hb : vs[i]? = some b) (hv : ok b = true) (hlt : a.1 < b.1) : GoodTo ok vs (i + 1) := by
  refine good_step h hb hv fun k c hk hc => ?_
  have hle : c.1 ≤ a.1 := by
    by_cases e : k = i - 1
    · subst e
      rw [ha] at hc
      cases hc
      omega
    · exact befV_le ((h (i - 1) a (by omega) ha).2 k c (by omega) hc)
  rw [befV_ne (by omega)]
  exact decide_eq_true (by omega)
/-- .. of the same rule: those of the rule were looked at. -/
theorem good_same {ok : Int × List Rc → Bool} {vs : List (Int × List Rc)} {i : Nat} {a b : Int × List Rc} (h : GoodTo ok vs i) (hi : 1 ≤ i) (ha : vs[i - 1]? = some a) (hb : vs[i]? = some b) (hv : ok b = true) (he : a.1 = b.1)
    (hl : lessR (a.2.headD ⟨0, 0, 0, 0⟩) (b.2.headD ⟨0, 0, 0, 0⟩) = true) {m : Int} (hm : ∀ (k : Nat) (c : Int × List Rc), m < (k : Int) → k < i → vs[k]? = some c → c.1 = b.1 → touchB c.2 b.2 = false)
    (hend : m < 0 ∨ ∃ (k : Nat) (c : Int × List Rc), (k : Int) = m ∧ k < i ∧ vs[k]? = some c ∧ c.1 ≠ b.1) : GoodTo ok vs (i + 1) := by
  refine good_step h hb hv fun k c hk hc => ?_
  have hle : c.1 ≤ a.1 := by
    by_cases e : k = i - 1
    · subst e
      rw [ha] at hc
      cases hc
      omega
    · exact befV_le ((h (i - 1) a (by omega) ha).2 k c (by omega) hc)
  by_cases hne : c.1 = b.1
  · have hmk : m < (k : Int) := by
      rcases hend with hend | ⟨q, d, hq, hqi, hd, hdn⟩
      · omega
      · apply Classical.byContradiction
        intro hc'
        have hdle : d.1 ≤ a.1 := by
          by_cases e : q = i - 1
          · subst e
            rw [ha] at hd
            cases hd
            omega
          · exact befV_le ((h (i - 1) a (by omega) ha).2 q d (by omega) hd)
        have hcd : c.1 ≤ d.1 := by
          by_cases e : k = q
          · subst e
            rw [hc] at hd
            cases hd
            omega
          · exact befV_le ((h q d hqi hd).2 k c (by omega) hc)
        omega
    rw [befV_eq hne, hm k c hmk hk hc hne, Bool.not_false, Bool.and_true]
    by_cases e : k = i - 1
    · subst e
      rw [ha] at hc
      cases hc
      exact hl
    · have h1 := (h (i - 1) a (by omega) ha).2 k c (by omega) hc
      rw [befV_eq (by omega), Bool.and_eq_true] at h1
      exact lessR_trans h1.1 hl
  · rw [befV_ne hne]
    exact decide_eq_true (by omega)
theorem bef_more {a b : Int × List Rc} (h : b.1 < a.1) : befV a b = false := by
  rw [befV_ne (by omega)]
  exact decide_eq_false (by omega)
theorem bef_less_no {a b : Int × List Rc} (he : a.1 = b.1) (h : lessR (a.2.headD ⟨0, 0, 0, 0⟩) (b.2.headD ⟨0, 0, 0, 0⟩) = false) : befV a b = false := by rw [befV_eq he, h, Bool.false_and]
theorem bef_touch {a b : Int × List Rc} (he : a.1 = b.1) (h : touchB a.2 b.2 = true) : befV a b = false := by rw [befV_eq he, h, Bool.not_true, Bool.and_false]
theorem bef_yes {a b : Int × List Rc} (he : a.1 = b.1) (h : lessR (a.2.headD ⟨0, 0, 0, 0⟩) (b.2.headD ⟨0, 0, 0, 0⟩) = true) (h2 : touchB a.2 b.2 = false) : befV a b = true := by rw [befV_eq he, h, h2]; rfl

end Go.Proofs.YtemeegpmdhgocaaGreat
