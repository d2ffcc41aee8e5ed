/- Plain law: the small components of a set. No conditions. -/
import Derived.Test.YtjiljodchebniaaGreatQ13
import Derived.Test.YtjiljodchebniaaGreatQ37

namespace Go.Proofs.YtjiljodchebniaaGreat

/-! ## Small components -/
theorem comps_in : ∀ (n i : Nat) (L : Gr), 6400 - i ≤ n → ∀ P ∈ compsF L i, ∀ j, P j = true → j < 6400 ∧ L j = true := by
  intro n
  induction n with
  | zero => intro i L hi P hP; rw [compsF_end (by omega)] at hP; cases hP
  | succ n ih =>
    intro i L hi P hP j hj
    by_cases h6 : i < 6400
    · cases hL : L i with
      | true =>
        rw [compsF_yes h6 hL] at hP
        rcases List.mem_cons.1 hP with rfl | hP
        · exact compG_in h6 hL hj
        · have := ih (i + 1) _ (by omega) P hP j hj
          refine ⟨this.1, ?_⟩
          have h2 := this.2
          unfold minusG at h2
          rw [Bool.and_eq_true] at h2
          exact h2.1
      | false =>
        rw [compsF_no h6 hL] at hP
        exact ih (i + 1) _ (by omega) P hP j hj
    · rw [compsF_end (by omega)] at hP; cases hP
def apartG (P Q : Gr) : Prop := ∀ j, j < 6400 → (P j && Q j) = false
theorem comps_apart : ∀ (n i : Nat) (L : Gr), 6400 - i ≤ n → (compsF L i).Pairwise apartG := by
  intro n
  induction n with
  | zero => intro i L hi; rw [compsF_end (by omega)]; exact List.Pairwise.nil
  | succ n ih =>
    intro i L hi
    by_cases h6 : i < 6400
    · cases hL : L i with
      | true =>
        rw [compsF_yes h6 hL]
        refine List.Pairwise.cons (fun Q hQ j hj => ?_) (ih (i + 1) _ (by omega))
        rw [Bool.eq_false_iff]
        intro h
        rw [Bool.and_eq_true] at h
        have := (comps_in n (i + 1) _ (by omega) Q hQ j h.2).2
        unfold minusG at this
        rw [h.1] at this
        simp at this
      | false => rw [compsF_no h6 hL]; exact ih (i + 1) _ (by omega)
    · rw [compsF_end (by omega)]; exact List.Pairwise.nil
/-- The cells of the small ones among some sets, added up. -/
def smallN (n : Int) : List Gr → Int
  | [] => 0
  | P :: Ps => (if countG P < n then countG P else 0) + smallN n Ps
theorem smallN_append (n : Int) : ∀ a b : List Gr, smallN n (a ++ b) = smallN n a + smallN n b
  | [], b => by simp [smallN]
  | P :: a, b => by rw [List.cons_append, smallN, smallN, smallN_append n a b]; omega
theorem smallN_step (n : Int) {Gs : List Gr} {k : Nat} {P : Gr} (h : Gs[k]? = some P) : smallN n (Gs.take (k + 1)) = smallN n (Gs.take k) + if countG P < n then countG P else 0 := by
  rw [List.take_add_one, h, Option.toList, smallN_append, smallN, smallN]; omega
theorem smallN_bounds (n : Int) : ∀ Gs : List Gr, 0 ≤ smallN n Gs ∧ smallN n Gs ≤ 6400 * Gs.length
  | [] => by simp [smallN]
  | P :: Gs => by
    have := smallN_bounds n Gs
    have := count_bounds P
    rw [smallN, List.length_cons]
    split <;> omega
theorem small_in {n : Int} : ∀ {Gs : List Gr} {o : Gr} {i : Nat}, Gs.foldl (smallStep n) o i = true ↔ o i = true ∨ ∃ P ∈ Gs, countG P < n ∧ P i = true
  | [], o, i => by simp
  | P :: Gs, o, i => by
    rw [List.foldl_cons, small_in (Gs := Gs)]
    unfold smallStep
    by_cases h : countG P < n
    · rw [if_pos h]
      simp only [unionG, Bool.or_eq_true, List.mem_cons, exists_eq_or_imp, h, true_and, or_assoc]
    · rw [if_neg h]
      simp only [List.mem_cons, exists_eq_or_imp, h, false_and, false_or]
theorem smallG_iff {n : Int} {Gs : List Gr} {i : Nat} : smallG n Gs i = true ↔ ∃ P ∈ Gs, countG P < n ∧ P i = true := by
  unfold smallG
  rw [small_in]
  simp [emptyG]
theorem small_count (n : Int) : ∀ (Gs : List Gr) (o : Gr), Gs.Pairwise apartG → (∀ P ∈ Gs, apartG o P) → countG (Gs.foldl (smallStep n) o) = countG o + smallN n Gs
  | [], o, _, _ => by simp [smallN]
  | P :: Gs, o, hp, ho => by
    rw [List.pairwise_cons] at hp
    rw [List.foldl_cons, smallN]
    by_cases h : countG P < n
    · have e : smallStep n o P = unionG o P := if_pos h
      rw [e, small_count n Gs _ hp.2 fun Q hQ j hj => ?_, count_disj (ho P (by simp)), if_pos h]
      · omega
      · have h1 := ho Q (by simp [hQ]) j hj
        have h2 := hp.1 Q hQ j hj
        unfold unionG
        revert h1 h2
        cases o j <;> cases P j <;> cases Q j <;> simp
    · have e : smallStep n o P = o := if_neg h
      rw [e, small_count n Gs _ hp.2 fun Q hQ => ho Q (by simp [hQ]), if_neg h]
      omega
theorem small_sum (n : Int) (G : Gr) : countG (smallG n (comps G)) = smallN n (comps G) := by
  have h := small_count n (comps G) emptyG (comps_apart 6400 0 G (by omega)) fun P _ j _ => rfl
  rw [count_empty] at h
  unfold smallG
  omega
theorem comps_nil {G : Gr} : comps G = [] ↔ ∀ i, i < 6400 → G i = false := by
  have key : ∀ (n i : Nat) (L : Gr), 6400 - i ≤ n → (∀ j, j < i → L j = false) → (compsF L i = [] ↔ ∀ j, j < 6400 → L j = false) := by
    intro n
    induction n with
    | zero =>
      intro i L hi hb
      rw [compsF_end (by omega)]
      exact ⟨fun _ j hj => hb j (by omega), fun _ => rfl⟩
    | succ n ih =>
      intro i L hi hb
      by_cases h6 : i < 6400
      · cases hL : L i with
        | true =>
          rw [compsF_yes h6 hL]
          refine ⟨fun h => (nomatch h), fun h => ?_⟩
          rw [h i h6] at hL; cases hL
        | false =>
          rw [compsF_no h6 hL]
          refine ih (i + 1) L (by omega) fun j hj => ?_
          by_cases e : j = i
          · rw [e]; exact hL
          · exact hb j (by omega)
      · rw [compsF_end (by omega)]; exact ⟨fun _ j hj => hb j (by omega), fun _ => rfl⟩
  exact key 6400 0 G (by omega) fun j hj => absurd hj (by omega)
theorem minN_iff {d : Int} : ∀ (ns : List Int) (m : Int), (∀ x ∈ ns, 1 ≤ x) → 1 ≤ m → (ns.foldl minS m < d ↔ m < d ∨ ∃ x ∈ ns, x < d)
  | [], m, _, _ => by simp
  | x :: ns, m, hR, hm => by
    have h1 := hR x (by simp)
    rw [List.foldl_cons, minN_iff ns _ (fun q hq => hR q (by simp [hq])) (by unfold minS; split <;> omega)]
    unfold minS
    constructor
    · rintro (h | ⟨y, hy, h⟩)
      · split at h
        · exact .inr ⟨x, by simp, h⟩
        · exact .inl h
      · exact .inr ⟨y, by simp [hy], h⟩
    · rintro (h | ⟨y, hy, h⟩)
      · refine .inl ?_
        split <;> omega
      · rcases List.mem_cons.1 hy with rfl | hy
        · refine .inl ?_
          split <;> omega
        · exact .inr ⟨y, hy, h⟩
/-- The smallest component decides. -/
theorem small_lim {G : Gr} {n : Int} : canon (smallG n (comps G)) ≠ [] ↔ comps G ≠ [] ∧ minN (countsV G) < n := by
  rw [Ne, canon_nil_iff]
  have hmem : (¬ ∀ i, i < 6400 → smallG n (comps G) i = false) ↔ ∃ P ∈ comps G, countG P < n := by
    constructor
    · intro h
      refine Classical.byContradiction fun hc => h fun i hi => ?_
      rw [Bool.eq_false_iff]
      intro hs
      obtain ⟨P, h1, h2, _⟩ := smallG_iff.1 hs
      exact hc ⟨P, h1, h2⟩
    · rintro ⟨P, h1, h2⟩ h
      obtain ⟨s, hs⟩ := comps_first G h1
      have := h s hs.1
      rw [smallG_iff.2 ⟨P, h1, h2, hs.2.1⟩] at this
      cases this
  rw [hmem]
  have hb := counts_ok G
  unfold countsV at *
  cases hG : comps G with
  | nil => simp
  | cons P Ps =>
    rw [hG] at hb
    have h1 := (hb (countG P) (by simp)).1
    unfold minN
    rw [List.map_cons, List.foldl_cons]
    have e : minS 0 (countG P) = countG P := if_pos (.inl rfl)
    rw [e, minN_iff _ _ (fun x hx => (hb x (by rw [List.map_cons]; exact List.mem_cons_of_mem _ hx)).1) h1]
    constructor
    · rintro ⟨Q, hQ, h⟩
      rcases List.mem_cons.1 hQ with rfl | hQ
      · exact ⟨by simp, .inl h⟩
      · exact ⟨by simp, .inr ⟨_, List.mem_map.2 ⟨Q, hQ, rfl⟩, h⟩⟩
    · rintro ⟨_, h | ⟨x, hx, h⟩⟩
      · exact ⟨P, by simp, h⟩
      · obtain ⟨Q, hQ, rfl⟩ := List.mem_map.1 hx
        exact ⟨Q, by simp [hQ], h⟩
theorem comps_reg {rs : List Rc} (h : isReg rs = true) : comps (cellsG rs) = [] ↔ rs.length = 0 := by
  rw [comps_nil, ← canon_nil_iff, canon_of_reg h, List.length_eq_zero_iff]
theorem compsF_cover : ∀ (n i : Nat) (L : Gr), 6400 - i ≤ n → (∀ j, j < i → L j = false) → ∀ j, j < 6400 → L j = true → ∃ P ∈ compsF L i, P j = true := by
  intro n
  induction n with
  | zero =>
    intro i L hi hlow j hj hL
    have := hlow j (by omega)
    rw [hL] at this
    cases this
  | succ n ih =>
    intro i L hi hlow j hj hL
    by_cases h6 : i < 6400
    · cases hLi : L i with
      | true =>
        rw [compsF_yes h6 hLi]
        cases hc : compG L i j with
        | true => exact ⟨_, List.mem_cons_self .., hc⟩
        | false =>
          obtain ⟨P, hP, hPj⟩ := ih (i + 1) (minusG L (compG L i)) (by omega) (fun m hm => by
            unfold minusG
            by_cases e : m = i
            · subst e; rw [compG_here, hLi]; rfl
            · rw [hlow m (by omega)]; rfl) j hj (by unfold minusG; rw [hL, hc]; rfl)
          exact ⟨P, List.mem_cons_of_mem _ hP, hPj⟩
      | false =>
        rw [compsF_no h6 hLi]
        refine ih (i + 1) L (by omega) (fun m hm => ?_) j hj hL
        by_cases e : m = i
        · subst e; exact hLi
        · exact hlow m (by omega)
    · have := hlow j (by omega)
      rw [hL] at this
      cases this
theorem comps_cover (G : Gr) {j : Nat} (hj : j < 6400) : G j = true ↔ ∃ P ∈ comps G, P j = true :=
  ⟨compsF_cover 6400 0 G (by omega) (fun m hm => absurd hm (by omega)) j hj, fun ⟨P, hP, h⟩ => (comps_in 6400 0 G (by omega) P hP j h).2⟩

end Go.Proofs.YtjiljodchebniaaGreat
