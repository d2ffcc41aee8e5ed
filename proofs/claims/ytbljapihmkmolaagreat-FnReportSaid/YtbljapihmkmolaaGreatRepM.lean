/- Plain law: a component is connected: the report of CheckLayout holds violations that are valid. Plain law: the union of the components of a set is the set. -/
import Derived.Test.YtbljapihmkmolaaGreatCheck
import Derived.Test.YtbljapihmkmolaaGreatConn
import Derived.Test.YtbljapihmkmolaaGreatRepA
import Derived.Test.YtbljapihmkmolaaGreatCountU
namespace Go.Proofs.YtbljapihmkmolaaGreat
open Go.RowKit

theorem compG_self (L : Gr) (s : Nat) : compG (compG L s) s = compG L s := by
  funext j
  rw [Bool.eq_iff_iff, compG_iff, compG_iff]
  constructor
  · intro h
    exact reach_ind (p := fun j => Reach L s j) (reach_start L s) (fun i j _ _ _ hG => (compG_iff L s j).1 hG) h
  · intro h
    exact (reach_ind (p := fun j => Reach L s j ∧ Reach (compG L s) s j) ⟨reach_start _ _, reach_start _ _⟩ (fun i j hi hn hj hG => by
      have h1 := reach_step hi.1 hn hj hG
      exact ⟨h1, reach_step hi.2 hn hj ((compG_iff L s j).2 h1)⟩) h).2
theorem compsF_is : ∀ (n i : Nat) (L : Gr), 6400 - i ≤ n → ∀ P ∈ compsF L i, ∃ s, s < 6400 ∧ P s = true ∧ compG P s = P := by
  intro n
  induction n with
  | zero => intro i L hi P hP; rw [compsF_end (by omega)] at hP; cases hP
  | succ n ih =>
    intro i L hi P hP
    by_cases h6 : i < 6400
    · cases hL : L i with
      | true =>
        rw [compsF_yes h6 hL] at hP
        rcases List.mem_cons.1 hP with rfl | hP
        · exact ⟨i, h6, compG_here L i, compG_self L i⟩
        · exact ih (i + 1) _ (by omega) P hP
      | false =>
        rw [compsF_no h6 hL] at hP
        exact ih (i + 1) _ (by omega) P hP
    · rw [compsF_end (by omega)] at hP; cases hP
theorem compsF_empty : ∀ (n i : Nat) (L : Gr), 6400 - i ≤ n → (∀ j, j < 6400 → L j = false) → compsF L i = [] := by
  intro n
  induction n with
  | zero => intro i L hi _; exact compsF_end (by omega)
  | succ n ih =>
    intro i L hi h
    by_cases h6 : i < 6400
    · rw [compsF_no h6 (h i h6)]
      exact ih (i + 1) L (by omega) h
    · exact compsF_end (by omega)
theorem compsF_skip : ∀ (t i : Nat) (L : Gr), i ≤ t → t ≤ 6400 → (∀ j, j < t → L j = false) → compsF L i = compsF L t := by
  intro t i L hi ht h
  obtain ⟨d, rfl⟩ : ∃ d, t = i + d := ⟨t - i, by omega⟩
  induction d generalizing i with
  | zero => rfl
  | succ d ih =>
    rw [compsF_no (by omega) (h i (by omega))]
    have := ih (i + 1) (by omega) (by omega) (fun j hj => h j (by omega))
    rw [this]
    congr 1
    omega
theorem comps_alone {G P : Gr} (h : P ∈ comps G) : comps P = [P] := by
  obtain ⟨t, ht, hPt, hno⟩ := comps_first G h
  obtain ⟨s, hs, hPs, hself⟩ := compsF_is 6400 0 G (by omega) P h
  have hst : Reach P s t := (compG_iff P s t).1 (by rw [hself]; exact hPt)
  have hts := reach_symm hs hPs hst
  have hc : compG P t = P := by
    funext j
    rw [Bool.eq_iff_iff, compG_iff]
    constructor
    · exact fun hr => (reach_in ht hPt hr).2
    · intro hj
      exact reach_trans hts ((compG_iff P s j).1 (by rw [hself]; exact hj))
  have e : comps P = compsF P t := compsF_skip t 0 P (Nat.zero_le _) (Nat.le_of_lt ht) hno
  rw [e, compsF_yes ht hPt, hc]
  rw [compsF_empty 6400 (t + 1) _ (by omega) (fun j _ => by unfold minusG; cases P j <;> rfl)]
theorem comp_conn {G P : Gr} (h : P ∈ comps G) : connV (canon P) = true := by
  unfold connV
  rw [isReg_canon, comps_congr (cells_canon P), comps_alone h]
  rfl

theorem comps_before {G : Gr} {k : Int} {i j : Nat} {P Q : Gr} (hij : i < j) (hP : (comps G)[i]? = some P) (hQ : (comps G)[j]? = some Q) : befV (k, canon P) (k, canon Q) = true := by
  obtain ⟨ss, hl, hp, hf⟩ := comps_firsts G
  have hi : i < ss.length := by rw [hl]; exact (List.getElem?_eq_some_iff.1 hP).1
  have hj : j < ss.length := by rw [hl]; exact (List.getElem?_eq_some_iff.1 hQ).1
  have f1 := hf i P _ hP (List.getElem?_eq_getElem hi)
  have f2 := hf j Q _ hQ (List.getElem?_eq_getElem hj)
  have hlt : ss[i] < ss[j] := by rw [List.pairwise_iff_getElem] at hp; exact hp i j hi hj hij
  obtain ⟨x1, y1, l1, e1⟩ := canon_first f1
  obtain ⟨x2, y2, l2, e2⟩ := canon_first f2
  refine bef_yes rfl ?_ ?_
  · show lessR ((canon P).headD _) ((canon Q).headD _) = true
    rw [e1, e2, List.headD_cons, List.headD_cons, lessR_iff]
    dsimp only
    omega
  · refine meet_no fun c hc => ?_
    have hap := comps_apart 6400 0 G (by omega)
    rw [List.pairwise_iff_getElem] at hap
    have hi' := (List.getElem?_eq_some_iff.1 hP)
    have hj' := (List.getElem?_eq_some_iff.1 hQ)
    have := hap i j hi'.1 hj'.1 hij c hc
    rw [show (compsF G 0)[i]'hi'.1 = P from hi'.2, show (compsF G 0)[j]'hj'.1 = Q from hj'.2] at this
    show (cellsG (canon P) c && cellsG (canon Q) c) = false
    rw [cells_canon P c hc, cells_canon Q c hc]
    exact this
theorem comp_pair (k : Int) (ms : List Rc) : (compV k ms).Pairwise (fun a b => befV a b = true) := by
  rw [List.pairwise_iff_getElem]
  intro i j hi hj hij
  unfold compV at hi hj ⊢
  simp only [List.length_map] at hi hj
  simp only [List.getElem_map]
  exact comps_before hij (List.getElem?_eq_getElem hi) (List.getElem?_eq_getElem hj)
theorem comp_rule {k : Int} {ms : List Rc} {b : Int × List Rc} (h : b ∈ compV k ms) : b.1 = k ∧ connV b.2 = true := by
  unfold compV at h
  rw [List.mem_map] at h
  obtain ⟨c, hc, rfl⟩ := h
  rw [List.mem_map] at hc
  obtain ⟨P, hP, rfl⟩ := hc
  exact ⟨rfl, comp_conn hP⟩
theorem check_good (rss : List (List Rc)) (qs : List Ru) : ∀ k, (checkTo rss qs k).Pairwise (fun a b => befV a b = true) ∧ ∀ b ∈ checkTo rss qs k, (0 ≤ b.1 ∧ b.1 < (k : Int)) ∧ connV b.2 = true
  | 0 => ⟨List.Pairwise.nil, fun b hb => by rw [check_zero] at hb; cases hb⟩
  | k + 1 => by
    obtain ⟨ih1, ih2⟩ := check_good rss qs k
    cases h : qs[k]? with
    | some q =>
      rw [check_step h]
      refine ⟨List.pairwise_append.2 ⟨ih1, comp_pair _ _, fun a ha b hb => ?_⟩, fun b hb => ?_⟩
      · have h1 := (ih2 a ha).1
        have h2 := (comp_rule hb).1
        rw [befV_ne (by omega)]
        exact decide_eq_true (by omega)
      · rcases List.mem_append.1 hb with hb | hb
        · have h1 := ih2 b hb
          exact ⟨⟨h1.1.1, by omega⟩, h1.2⟩
        · have h1 := comp_rule hb
          exact ⟨⟨by omega, by omega⟩, h1.2⟩
    | none =>
      have e : checkTo rss qs (k + 1) = checkTo rss qs k := by
        unfold checkTo
        rw [List.range_succ, List.flatMap_append, List.flatMap_singleton]
        unfold ruleVs
        rw [h, List.append_nil]
      rw [e]
      exact ⟨ih1, fun b hb => ⟨⟨(ih2 b hb).1.1, by have := (ih2 b hb).1.2; omega⟩, (ih2 b hb).2⟩⟩
/-- What CheckLayout answers is a report. -/
theorem chk_report (rss : List (List Rc)) (qs : List Ru) : repB okV (chkL rss qs) = true := by
  have hnil : repB okV [] = true := repB_yes (by simp) (good_zero _ _)
  unfold chkL
  split
  · rename_i h
    split
    · rename_i h9
      obtain ⟨g1, g2⟩ := check_good rss qs qs.length
      have hn := deck_len h.2
      refine repB_yes h9 fun j b hj hb => ?_
      have hm := g2 b (List.mem_of_getElem? hb)
      refine ⟨?_, fun k a hk ha => ?_⟩
      · unfold okV vioV
        rw [hm.2, Bool.and_true, inB_iff]
        omega
      · rw [List.pairwise_iff_getElem] at g1
        have hb' := List.getElem?_eq_some_iff.1 hb
        have ha' := List.getElem?_eq_some_iff.1 ha
        have := g1 k j ha'.1 hb'.1 hk
        rw [show (checkTo rss qs qs.length)[k]'ha'.1 = a from ha'.2, show (checkTo rss qs qs.length)[j]'hb'.1 = b from hb'.2] at this
        exact this
    · exact hnil
  · exact hnil

end Go.Proofs.YtbljapihmkmolaaGreat

namespace Go.Proofs.YtbljapihmkmolaaGreat
open Go.RowKit

theorem compsF_cover : ∀ (n i : Nat) (L : Gr), 6400 - i ≤ n → (∀ j, j < i → L j = false) → ∀ j, j < 6400 → L j = true → ∃ P ∈ compsF L i, P j = true := by
  intro n
  induction n with
  | zero =>
    intro i L hi hlow j hj hL
    have := hlow j (by omega)
    rw [hL] at this
    cases this
  | succ n ih =>
    intro i L hi hlow j hj hL
    by_cases h6 : i < 6400
    · cases hLi : L i with
      | true =>
        rw [compsF_yes h6 hLi]
        cases hc : compG L i j with
        | true => exact ⟨_, List.mem_cons_self .., hc⟩
        | false =>
          obtain ⟨P, hP, hPj⟩ := ih (i + 1) (minusG L (compG L i)) (by omega) (fun m hm => by
            unfold minusG
            by_cases e : m = i
            · subst e; rw [compG_here, hLi]; rfl
            · rw [hlow m (by omega)]; rfl) j hj (by unfold minusG; rw [hL, hc]; rfl)
          exact ⟨P, List.mem_cons_of_mem _ hP, hPj⟩
      | false =>
        rw [compsF_no h6 hLi]
        refine ih (i + 1) L (by omega) (fun m hm => ?_) j hj hL
        by_cases e : m = i
        · subst e; exact hLi
        · exact hlow m (by omega)
    · have := hlow j (by omega)
      rw [hL] at this
      cases this
theorem comps_cover (G : Gr) {j : Nat} (hj : j < 6400) : G j = true ↔ ∃ P ∈ comps G, P j = true :=
  ⟨compsF_cover 6400 0 G (by omega) (fun m hm => absurd hm (by omega)) j hj, fun ⟨P, hP, h⟩ => (comps_in 6400 0 G (by omega) P hP j h).2⟩

theorem mem_sel {vs : List (Int × List Rc)} {r : Int} {rs : List Rc} : rs ∈ selL vs r ↔ (r, rs) ∈ vs := by
  unfold selL
  rw [List.mem_map]
  constructor
  · rintro ⟨⟨a, b⟩, h, rfl⟩
    rw [List.mem_filter] at h
    have h2 := of_decide_eq_true h.2
    dsimp only at h2
    subst h2
    exact h.1
  · intro h
    exact ⟨(r, rs), List.mem_filter.2 ⟨h, decide_eq_true rfl⟩, rfl⟩
theorem mem_check {rss : List (List Rc)} {qs : List Ru} {n k : Nat} {q : Ru} {rs : List Rc} (h : qs[k]? = some q) (hk : k < n) : ((k : Int), rs) ∈ checkTo rss qs n ↔ ∃ P ∈ comps (cellsG (rmV rss q)), rs = canon P := by
  unfold checkTo
  rw [List.mem_flatMap]
  constructor
  · rintro ⟨i, _, hi⟩
    unfold ruleVs at hi
    cases hq : qs[i]? with
    | none => rw [hq] at hi; cases hi
    | some q' =>
      rw [hq] at hi
      have e := (comp_rule hi).1
      dsimp only at e
      have e2 : i = k := by omega
      subst e2
      rw [h] at hq
      cases hq
      unfold compV at hi
      rw [List.mem_map] at hi
      obtain ⟨c, hc, e3⟩ := hi
      rw [List.mem_map] at hc
      obtain ⟨P, hP, rfl⟩ := hc
      exact ⟨P, hP, (congrArg Prod.snd e3).symm⟩
  · rintro ⟨P, hP, rfl⟩
    refine ⟨k, List.mem_range.2 hk, ?_⟩
    unfold ruleVs
    rw [h]
    unfold compV
    exact List.mem_map.2 ⟨canon P, List.mem_map.2 ⟨P, hP, rfl⟩, rfl⟩
theorem cells_flat (rss : List (List Rc)) (c : Nat) : cellsG rss.flatten c = true ↔ ∃ rs ∈ rss, cellsG rs c = true := by
  unfold cellsG
  simp only [List.any_eq_true, List.mem_flatten]
  constructor
  · rintro ⟨r, ⟨rs, h1, h2⟩, h3⟩
    exact ⟨rs, h1, r, h2, h3⟩
  · rintro ⟨rs, h1, r, h2, h3⟩
    exact ⟨r, ⟨rs, h1, h2⟩, h3⟩
theorem check_cells {rss : List (List Rc)} {qs : List Ru} {n k : Nat} {q : Ru} (h : qs[k]? = some q) (hk : k < n) : sameG (cellsG (selL (checkTo rss qs n) k).flatten) (cellsG (rmV rss q)) := by
  intro c hc
  rw [Bool.eq_iff_iff, cells_flat, comps_cover _ hc]
  constructor
  · rintro ⟨rs, h1, h2⟩
    obtain ⟨P, hP, rfl⟩ := (mem_check h hk).1 (mem_sel.1 h1)
    rw [cells_canon P c hc] at h2
    exact ⟨P, hP, h2⟩
  · rintro ⟨P, hP, h2⟩
    exact ⟨canon P, mem_sel.2 ((mem_check h hk).2 ⟨P, hP, rfl⟩), by rw [cells_canon P c hc]; exact h2⟩
theorem reg_none : isReg [] = true := by rfl
theorem encL_reg (rs qs : List Rc) (k : Int) : isReg (encL rs qs k) = true := by
  unfold encL
  repeat' split
  all_goals first | exact isReg_canon _ | exact reg_none
theorem rmV_reg (rss : List (List Rc)) (r : Ru) : isReg (rmV rss r) = true := by
  unfold rmV ruleM markV markgV mkbV encV areaMV densV
  repeat' split
  all_goals first | exact isReg_canon _ | exact encL_reg _ _ _ | exact reg_none

/-- The union of the report's violations of a rule is the rule's marker. -/
theorem mu_check {rss : List (List Rc)} {qs : List Ru} {k : Nat} {q : Ru} (h1 : layB rss = true) (h2 : deckB qs = true) (h3 : (checkV rss qs).length ≤ 256) (h : qs[k]? = some q) : muV (chkL rss qs) (k : Int) = rmV rss q := by
  rw [muV_yes (chk_report rss qs), (chk_yes h1 h2 h3).1]
  have hk : k < qs.length := (List.getElem?_eq_some_iff.1 h).1
  rw [canon_congr (show sameG (cellsG (selL (checkV rss qs) (k : Int)).flatten) (cellsG (rmV rss q)) from check_cells h hk)]
  exact canon_of_reg (rmV_reg rss q)

theorem check_nil (rss : List (List Rc)) (qs : List Ru) : checkV rss qs = [] ↔ allClean rss qs = true := by
  unfold checkV checkTo allClean
  rw [List.flatMap_eq_nil_iff, List.all_eq_true]
  have key : ∀ j, ruleVs rss qs j = [] ↔ cleanAt rss qs j = true := fun j => by
    unfold ruleVs cleanAt
    cases h : qs[j]? with
    | none => simp
    | some q =>
      dsimp only
      unfold compV
      rw [List.map_eq_nil_iff, List.map_eq_nil_iff, comps_reg (rmV_reg rss q), decide_eq_true_iff]
  exact ⟨fun h j hj => (key j).1 (h j hj), fun h j hj => (key j).2 (h j hj)⟩
/-- The report is empty just where the layout is clean. -/
theorem chk_clean {rss : List (List Rc)} {qs : List Ru} (h1 : layB rss = true) (h2 : deckB qs = true) (h3 : (checkV rss qs).length ≤ 256) : decide ((chkL rss qs).length = 0) = cleanB rss qs := by
  rw [(chk_yes h1 h2 h3).1]
  unfold cleanB
  rw [h1, h2, Bool.true_and, Bool.true_and, Bool.eq_iff_iff, decide_eq_true_iff, List.length_eq_zero_iff]
  exact check_nil rss qs

end Go.Proofs.YtbljapihmkmolaaGreat
