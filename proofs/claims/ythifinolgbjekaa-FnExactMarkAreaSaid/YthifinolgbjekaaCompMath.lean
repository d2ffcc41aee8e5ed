/- Plain mathematics: the component of a cell in a set; what a search from a cell gathers is the component. No conditions. -/
import Derived.Test.YthifinolgbjekaaCanonMath
import Derived.Test.YthifinolgbjekaaRunMath
namespace Go.Proofs.Ythifinolgbjekaa

/-- Two cells share a side. -/
def nbr (i j : Nat) : Prop := (i / 80 = j / 80 ∧ (i % 80 + 1 = j % 80 ∨ j % 80 + 1 = i % 80)) ∨ (i % 80 = j % 80 ∧ (i / 80 + 1 = j / 80 ∨ j / 80 + 1 = i / 80))
theorem nbr_symm {i j : Nat} (h : nbr i j) : nbr j i := by unfold nbr at *; omega

/-- j is reached from s over at most n sides, inside a set. -/
def reachN (G : Gr) (s : Nat) : Nat → Nat → Prop
  | 0, j => j = s
  | n + 1, j => reachN G s n j ∨ (j < 6400 ∧ G j = true ∧ ∃ i, reachN G s n i ∧ nbr i j)
def Reach (G : Gr) (s j : Nat) : Prop := ∃ n, reachN G s n j
theorem reach_start (G : Gr) (s : Nat) : Reach G s s := ⟨0, rfl⟩
theorem reach_step {G : Gr} {s i j : Nat} (h : Reach G s i) (hn : nbr i j) (hj : j < 6400) (hG : G j = true) : Reach G s j := by
  obtain ⟨n, h⟩ := h
  exact ⟨n + 1, .inr ⟨hj, hG, i, h, hn⟩⟩
/-- What holds of the start and passes over sides holds of all that is reached. -/
theorem reach_ind {G : Gr} {s : Nat} {p : Nat → Prop} (h0 : p s) (hs : ∀ i j, p i → nbr i j → j < 6400 → G j = true → p j) : ∀ {j}, Reach G s j → p j := by
  intro j ⟨n, h⟩
  induction n generalizing j with
  | zero => rw [show j = s from h]; exact h0
  | succ n ih =>
    rcases h with h | ⟨hj, hG, i, hi, hn⟩
    · exact ih h
    · exact hs i j (ih hi) hn hj hG
theorem reach_in {G : Gr} {s : Nat} (hs : s < 6400) (hG : G s = true) {j : Nat} (h : Reach G s j) : j < 6400 ∧ G j = true :=
  reach_ind (p := fun j => j < 6400 ∧ G j = true) ⟨hs, hG⟩ (fun _ _ _ _ hj h => ⟨hj, h⟩) h
theorem reach_trans {G : Gr} {s i j : Nat} (h : Reach G s i) (k : Reach G i j) : Reach G s j :=
  reach_ind (p := fun j => Reach G s j) h (fun _ _ ha hn hj hG => reach_step ha hn hj hG) k
theorem reach_symm {G : Gr} {s j : Nat} (hs : s < 6400) (hG : G s = true) (h : Reach G s j) : Reach G j s := by
  have key : ∀ {j}, Reach G s j → (j < 6400 ∧ G j = true) ∧ Reach G j s := by
    intro j h
    refine reach_ind (p := fun j => (j < 6400 ∧ G j = true) ∧ Reach G j s) ⟨⟨hs, hG⟩, reach_start G s⟩ (fun a b ha hn hj hb => ⟨⟨hj, hb⟩, ?_⟩) h
    exact reach_trans (reach_step (reach_start G b) (nbr_symm hn) ha.1.1 ha.1.2) ha.2
  exact (key h).2
theorem reach_congr {G H : Gr} (h : sameG G H) {s j : Nat} (hr : Reach G s j) : Reach H s j :=
  reach_ind (p := fun j => Reach H s j) (reach_start H s) (fun _ j ha hn hj hG => reach_step ha hn hj (by rw [← h j hj]; exact hG)) hr

/-- The component of a cell. -/
noncomputable def compG (G : Gr) (s : Nat) : Gr := fun j => @decide (Reach G s j) (Classical.propDecidable _)
theorem compG_iff (G : Gr) (s j : Nat) : compG G s j = true ↔ Reach G s j := by unfold compG; exact @decide_eq_true_iff (Reach G s j) (Classical.propDecidable _)
theorem compG_congr {G H : Gr} (h : sameG G H) (s : Nat) : compG G s = compG H s := by
  funext j
  rw [Bool.eq_iff_iff, compG_iff, compG_iff]
  exact ⟨reach_congr h, reach_congr fun i hi => (h i hi).symm⟩

/-! ## A search: a queue of distinct cells; those before i are done -/

/-- The set of a list of cells. -/
def setL (qs : List Nat) : Gr := fun j => qs.contains j
theorem setL_iff (qs : List Nat) (j : Nat) : setL qs j = true ↔ j ∈ qs := by simp [setL]
theorem setL_snoc (qs : List Nat) (j : Nat) : setL (qs ++ [j]) = updG (setL qs) j true := by
  funext k
  rw [Bool.eq_iff_iff, setL_iff]
  unfold updG
  by_cases h : k = j
  · simp [h]
  · rw [if_neg h, setL_iff]
    simp [h]
/-- The queue of a search. -/
structure Srch (G : Gr) (s : Nat) (qs : List Nat) : Prop where
  here : ∀ j ∈ qs, Reach G s j
  start : s ∈ qs
  nodup : qs.Nodup
  on : ∀ j ∈ qs, j < 6400
/-- All sides of the first i cells have been passed. -/
def Done (G : Gr) (qs : List Nat) (i : Nat) : Prop := ∀ k j m : Nat, k < i → qs[k]? = some j → nbr j m → m < 6400 → G m = true → m ∈ qs
theorem srch_start (G : Gr) {s : Nat} (hs : s < 6400) : Srch G s [s] :=
  ⟨fun j hj => by simp at hj; subst hj; exact reach_start G j, by simp, by simp, fun j hj => by simp at hj; omega⟩
theorem done_zero (G : Gr) (qs : List Nat) : Done G qs 0 := fun k j m h => absurd h (by omega)
theorem srch_put {G : Gr} {s : Nat} {qs : List Nat} (h : Srch G s qs) {j m : Nat} (hj : j ∈ qs) (hn : nbr j m) (hm : m < 6400) (hG : G m = true) (hnew : setL qs m = false) : Srch G s (qs ++ [m]) := by
  have hnew' : m ∉ qs := fun hc => by rw [(setL_iff qs m).2 hc] at hnew; cases hnew
  refine ⟨fun k hk => ?_, by simp [h.start], ?_, fun k hk => ?_⟩
  · rcases List.mem_append.1 hk with hk | hk
    · exact h.here k hk
    · simp at hk; subst hk; exact reach_step (h.here j hj) hn hm hG
  · rw [List.nodup_append]
    exact ⟨h.nodup, by simp, fun a ha b hb => by simp at hb; subst hb; intro e; subst e; exact hnew' ha⟩
  · rcases List.mem_append.1 hk with hk | hk
    · exact h.on k hk
    · simp at hk; omega
theorem done_put {G : Gr} {qs : List Nat} {i : Nat} (h : Done G qs i) (hi : i ≤ qs.length) (m : Nat) : Done G (qs ++ [m]) i := by
  intro k j n hk hj hn hn2 hG
  rw [List.getElem?_append_left (by omega)] at hj
  exact List.mem_append.2 (.inl (h k j n hk hj hn hn2 hG))
/-- Four sides of the cell i passed: it's done. -/
theorem done_step {G : Gr} {qs : List Nat} {i j : Nat} (h : Done G qs i) (hj : qs[i]? = some j) (h4 : ∀ m, nbr j m → m < 6400 → G m = true → m ∈ qs) : Done G qs (i + 1) := by
  intro k a n hk ha hn hn2 hG
  by_cases e : k = i
  · subst e
    rw [hj] at ha
    simp at ha
    subst ha
    exact h4 n hn hn2 hG
  · exact h k a n (by omega) ha hn hn2 hG
theorem range_lt : ∀ (n : Nat) (l : List Nat), l.Nodup → (∀ j ∈ l, j < n) → l.length ≤ n
  | 0, l, _, h => by
    cases l with
    | nil => exact Nat.le_refl _
    | cons a l => exact absurd (h a (by simp)) (by omega)
  | n + 1, l, hn, h => by
    by_cases hm : n ∈ l
    · have h1 := List.length_erase_of_mem hm
      have h2 := range_lt n (l.erase n) (hn.erase n) fun j hj => by
        have h3 := (List.Nodup.mem_erase_iff hn).1 hj
        have := h j h3.2
        omega
      omega
    · have := range_lt n l hn fun j hj => by
        have h4 := h j hj
        have : j ≠ n := fun e => hm (e ▸ hj)
        omega
      omega
theorem range_len {qs : List Nat} (hn : qs.Nodup) (h : ∀ j ∈ qs, j < 6400) : qs.length ≤ 6400 := range_lt 6400 qs hn h
theorem srch_len {G : Gr} {s : Nat} {qs : List Nat} (h : Srch G s qs) : qs.length ≤ 6400 := range_len h.nodup h.on
/-- All done: the queue is the component. -/
theorem srch_end {G : Gr} {s : Nat} {qs : List Nat} (h : Srch G s qs) (hd : Done G qs qs.length) : setL qs = compG G s := by
  funext j
  rw [Bool.eq_iff_iff, setL_iff, compG_iff]
  constructor
  · exact h.here j
  · intro hr
    refine reach_ind (p := fun j => j ∈ qs) h.start (fun a b ha hn hb hG => ?_) hr
    obtain ⟨k, hk, hk2⟩ := List.mem_iff_getElem.1 ha
    exact hd k a b hk (by rw [List.getElem?_eq_getElem hk, hk2]) hn hb hG

/-! ## The components, in the order of their first cells -/

/-- What is left without a component. -/
def minusG (L P : Gr) : Gr := fun i => L i && !P i
/-- The components of what is left, from the cell i on. -/
noncomputable def compsN (L : Gr) : Nat → Nat → List Gr
  | 0, _ => []
  | n + 1, i => if L i = true then compG L i :: compsN (minusG L (compG L i)) n (i + 1) else compsN L n (i + 1)
noncomputable def compsF (L : Gr) (i : Nat) : List Gr := compsN L (6400 - i) i
/-- The components of a set. -/
noncomputable def comps (G : Gr) : List Gr := compsF G 0
theorem compsF_yes {L : Gr} {i : Nat} (hi : i < 6400) (h : L i = true) : compsF L i = compG L i :: compsF (minusG L (compG L i)) (i + 1) := by
  unfold compsF
  obtain ⟨n, hn⟩ : ∃ n, 6400 - i = n + 1 := ⟨6400 - i - 1, by omega⟩
  have hn2 : 6400 - (i + 1) = n := by omega
  rw [hn, hn2, compsN, if_pos h]
theorem compsF_no {L : Gr} {i : Nat} (hi : i < 6400) (h : L i = false) : compsF L i = compsF L (i + 1) := by
  unfold compsF
  obtain ⟨n, hn⟩ : ∃ n, 6400 - i = n + 1 := ⟨6400 - i - 1, by omega⟩
  have hn2 : 6400 - (i + 1) = n := by omega
  rw [hn, hn2, compsN, if_neg (by rw [h]; simp)]
theorem compsF_end {L : Gr} {i : Nat} (hi : 6400 ≤ i) : compsF L i = [] := by
  unfold compsF
  have : 6400 - i = 0 := by omega
  rw [this]; rfl
theorem minus_congr {L M : Gr} (h : sameG L M) (P : Gr) : sameG (minusG L P) (minusG M P) := fun i hi => by simp only [minusG, h i hi]
theorem compsF_congr : ∀ (n i : Nat) {L M : Gr}, 6400 - i ≤ n → sameG L M → compsF L i = compsF M i := by
  intro n
  induction n with
  | zero => intro i L M hi h; rw [compsF_end (by omega), compsF_end (by omega)]
  | succ n ih =>
    intro i L M hi h
    by_cases h6 : i < 6400
    · cases hL : L i with
      | true =>
        rw [compsF_yes h6 hL, compsF_yes h6 ((h i h6).symm.trans hL), compG_congr h i]
        rw [ih (i + 1) (by omega) (minus_congr h _)]
      | false => rw [compsF_no h6 hL, compsF_no h6 ((h i h6).symm.trans hL), ih (i + 1) (by omega) h]
    · rw [compsF_end (by omega), compsF_end (by omega)]
theorem comps_congr {G H : Gr} (h : sameG G H) : comps G = comps H := compsF_congr 6400 0 (by omega) h
theorem compsF_length : ∀ (n i : Nat) (L : Gr), 6400 - i ≤ n → (compsF L i).length ≤ n := by
  intro n
  induction n with
  | zero => intro i L hi; rw [compsF_end (by omega)]; exact Nat.le_refl _
  | succ n ih =>
    intro i L hi
    by_cases h6 : i < 6400
    · cases hL : L i with
      | true => rw [compsF_yes h6 hL]; have := ih (i + 1) (minusG L (compG L i)) (by omega); simp; omega
      | false => rw [compsF_no h6 hL]; have := ih (i + 1) L (by omega); omega
    · rw [compsF_end (by omega)]; simp
theorem comps_length (G : Gr) : (comps G).length ≤ 6400 := compsF_length 6400 0 G (by omega)

end Go.Proofs.Ythifinolgbjekaa
