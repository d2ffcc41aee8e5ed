/- Plain mathematics: counting cells in a row; the first rectangle of a canonical form; the smallest of some numbers; the components in order. No conditions. -/
import Derived.Test.YthifinolgbjekaaCompMath
import Derived.Test.YthifinolgbjekaaCovMath
import Derived.Test.YthifinolgbjekaaNearMath
namespace Go.Proofs.Ythifinolgbjekaa

/-! ## Counting -/

def fullR : Rc := ⟨-40, -40, 40, 40⟩
/-- How many cells a set has. -/
def countG (G : Gr) : Int := coverG G fullR
theorem fullR_ok : okRc fullR = true := by decide
theorem partC_full {r : Rc} (h : okRc r = true) : partC r fullR = areaR r := by
  have h1 := (okRc_iff r).1 h
  have e : commonR r fullR = r := by
    obtain ⟨x0, y0, x1, y1⟩ := r
    unfold commonR fullR
    dsimp only at h1 ⊢
    rw [Int.max_eq_left (by omega), Int.max_eq_left (by omega), Int.min_eq_left (by omega), Int.min_eq_left (by omega)]
  rw [partC, e, if_pos h]
theorem sumC_full {rs : List Rc} (h : okAll rs = true) : sumC rs fullR = sumA rs := by
  induction rs with
  | nil => rfl
  | cons r rs ih =>
    have h1 : okRc r = true ∧ okAll rs = true := by simpa [okAll] using h
    rw [sumC, sumA, partC_full h1.1, ih h1.2]
theorem count_congr {G H : Gr} (h : sameG G H) : countG G = countG H := by
  unfold countG coverG
  refine boxC_congr (by decide) (by decide) fun i hi => ?_
  unfold oneG
  rw [h i hi]
theorem count_canon (G : Gr) : sumA (canon G) = countG G := by
  rw [← sumC_full (canon_ok G), ← cover_reg (isReg_canon G) fullR_ok]
  exact count_congr (cells_canon G)
theorem count_bounds (G : Gr) : 0 ≤ countG G ∧ countG G ≤ 6400 := by
  rw [← count_canon G]
  exact ⟨(sumA_bounds (canon_ok G)).1, sumA_canon G⟩
theorem sumA_pos {rs : List Rc} (hok : okAll rs = true) (h : rs ≠ []) : 1 ≤ sumA rs := by
  cases rs with
  | nil => exact absurd rfl h
  | cons r rs =>
    have h1 : okRc r = true ∧ okAll rs = true := by simpa [okAll] using hok
    have := areaR_bounds h1.1
    have := sumA_bounds h1.2
    rw [sumA]
    omega
theorem count_pos {G : Gr} {i : Nat} (hi : i < 6400) (h : G i = true) : 1 ≤ countG G := by
  rw [← count_canon G]
  refine sumA_pos (canon_ok G) fun he => ?_
  rw [(canon_nil_iff G).1 he i hi] at h
  cases h
/-- The cells below n. -/
def flatC (G : Gr) : Nat → Int
  | 0 => 0
  | n + 1 => flatC G n + oneG G n
theorem flatC_row (G : Gr) (a : Nat) : ∀ b : Nat, flatC G (a * 80 + b) = flatC G (a * 80) + rowC (oneG G) (-40) ((a : Int) - 40) b
  | 0 => by simp [rowC, sumI]
  | b + 1 => by
    have e : (ix (-40 + (b : Int)) ((a : Int) - 40)).toNat = a * 80 + b := by unfold ix; omega
    rw [← Nat.add_assoc, flatC, flatC_row G a b]
    unfold rowC
    rw [sumI, e]
    omega
theorem flatC_rows (G : Gr) : ∀ m : Nat, flatC G (m * 80) = sumI (fun y => rowC (oneG G) (-40) y 80) (-40) m
  | 0 => by simp [flatC, sumI]
  | m + 1 => by
    have e : (-40 : Int) + (m : Int) = (m : Int) - 40 := by omega
    rw [Nat.succ_mul, flatC_row, flatC_rows G m, sumI, e]
theorem flatC_all (G : Gr) : flatC G 6400 = countG G := by
  have h := flatC_rows G 80
  rw [show 80 * 80 = 6400 from rfl] at h
  rw [h]; rfl
theorem flatC_bounds (G : Gr) : ∀ n : Nat, 0 ≤ flatC G n ∧ flatC G n ≤ n
  | 0 => by simp [flatC]
  | n + 1 => by
    have := flatC_bounds G n
    rw [flatC]
    unfold oneG
    split <;> omega
theorem flatC_yes {G : Gr} {n : Nat} (h : G n = true) : flatC G (n + 1) = flatC G n + 1 := by rw [flatC, oneG, if_pos h]
theorem flatC_no {G : Gr} {n : Nat} (h : G n = false) : flatC G (n + 1) = flatC G n := by rw [flatC, oneG, if_neg (by rw [h]; simp), Int.add_zero]

/-! ## The smallest of some positive numbers, 0 if there is none -/

def minS (m n : Int) : Int := if m = 0 ∨ n < m then n else m
def minN (ns : List Int) : Int := ns.foldl minS 0
theorem minN_step {ns : List Int} {k : Nat} {n : Int} (h : ns[k]? = some n) : minN (ns.take (k + 1)) = minS (minN (ns.take k)) n := by
  unfold minN
  rw [List.take_add_one, h, Option.toList, List.foldl_append]; rfl
theorem minF_pos : ∀ (ns : List Int) (m : Int), (∀ n ∈ ns, 1 ≤ n ∧ n ≤ 6400) → 1 ≤ m ∧ m ≤ 6400 → 1 ≤ ns.foldl minS m ∧ ns.foldl minS m ≤ 6400
  | [], m, _, h => h
  | n :: ns, m, hn, h => by
    rw [List.foldl_cons]
    refine minF_pos ns _ (fun x hx => hn x (by simp [hx])) ?_
    have := hn n (by simp)
    unfold minS
    split <;> omega
theorem minN_pos {ns : List Int} (h : ∀ n ∈ ns, 1 ≤ n ∧ n ≤ 6400) (hne : ns ≠ []) : 1 ≤ minN ns ∧ minN ns ≤ 6400 := by
  cases ns with
  | nil => exact absurd rfl hne
  | cons n ns =>
    have h0 := h n (by simp)
    unfold minN
    rw [List.foldl_cons]
    have e : minS 0 n = n := if_pos (.inl rfl)
    rw [e]
    exact minF_pos ns n (fun x hx => h x (by simp [hx])) h0
theorem minN_bounds {ns : List Int} (h : ∀ n ∈ ns, 1 ≤ n ∧ n ≤ 6400) (k : Nat) : 0 ≤ minN (ns.take k) ∧ minN (ns.take k) ≤ 6400 := by
  by_cases hne : ns.take k = []
  · rw [hne]; exact ⟨Int.le_refl _, by decide⟩
  · have := minN_pos (ns := ns.take k) (fun n hn => h n (List.mem_of_mem_take hn)) hne
    omega
theorem minN_take_pos {ns : List Int} (h : ∀ n ∈ ns, 1 ≤ n ∧ n ≤ 6400) {k : Nat} (hk : k ≠ 0) (hl : k ≤ ns.length) : 1 ≤ minN (ns.take k) := by
  refine (minN_pos (ns := ns.take k) (fun n hn => h n (List.mem_of_mem_take hn)) fun he => ?_).1
  have := congrArg List.length he
  rw [List.length_take, List.length_nil] at this
  omega

/-! ## The first rectangle -/

/-- s is the first cell of a set. -/
def FirstG (P : Gr) (s : Nat) : Prop := s < 6400 ∧ P s = true ∧ ∀ j, j < s → P j = false
theorem rowRects_none {P : Gr} {a e : Nat} (ha : a < 80) (h : ∀ x, x < 80 → P (a * 80 + x) = false) : rowRects P a e = [] := by
  have key : ∀ n : Nat, n ≤ 80 → restX P a e 0 = restX P a e n ∧ openAt P a n := by
    intro n
    induction n with
    | zero => intro _; exact ⟨rfl, .inl rfl⟩
    | succ n ih =>
      intro hn
      obtain ⟨h1, h2⟩ := ih (by omega)
      have h3 : at_ P a n = false := by rw [at_in P ha (by omega)]; exact h n (by omega)
      exact ⟨h1.trans (restX_skip (by omega) h2 h3), openAt_succ h3⟩
  obtain ⟨h1, h2⟩ := key 80 (Nat.le_refl _)
  rw [← restX_zero, h1, restX_end (Nat.le_refl _) h2]
theorem rowRects_first {P : Gr} {a e s : Nat} (ha : a < 80) (hs : s < 80) (h : ∀ x, x < s → P (a * 80 + x) = false) (hP : P (a * 80 + s) = true) :
    ∃ (m : Nat) (l : List Rc), rowRects P a e = ⟨(s : Int) - 40, (a : Int) - 40, (m : Int) - 40, (e : Int) - 40⟩ :: l := by
  have key : ∀ n : Nat, n ≤ s → restX P a e 0 = restX P a e n ∧ openAt P a n := by
    intro n
    induction n with
    | zero => intro _; exact ⟨rfl, .inl rfl⟩
    | succ n ih =>
      intro hn
      obtain ⟨h1, h2⟩ := ih (by omega)
      have h3 : at_ P a n = false := by rw [at_in P ha (by omega)]; exact h n (by omega)
      exact ⟨h1.trans (restX_skip (by omega) h2 h3), openAt_succ h3⟩
  obtain ⟨h1, h2⟩ := key s (Nat.le_refl _)
  obtain ⟨m, hm, hm2, hall, hend⟩ := cmRun_end (G := P) (a := a) (80 - s) s (Nat.le_refl _) hs (by rw [at_in P ha hs]; exact hP)
  exact ⟨m, _, by rw [← restX_zero, h1, restX_run h2 hm hm2 hall hend]⟩
theorem canon_first {P : Gr} {s : Nat} (h : FirstG P s) : ∃ (x1 y1 : Int) (l : List Rc), canon P = ⟨((s % 80 : Nat) : Int) - 40, ((s / 80 : Nat) : Int) - 40, x1, y1⟩ :: l := by
  obtain ⟨hs, hP, hno⟩ := h
  have hys : s / 80 < 80 := by omega
  have hPs : P ((s / 80) * 80 + s % 80) = true := by rw [show (s / 80) * 80 + s % 80 = s by omega]; exact hP
  have key : ∀ d y : Nat, s / 80 - y ≤ d → y ≤ s / 80 → ∃ (x1 y1 : Int) (l : List Rc), canonFrom P y = ⟨((s % 80 : Nat) : Int) - 40, ((s / 80 : Nat) : Int) - 40, x1, y1⟩ :: l := by
    intro d
    induction d with
    | zero =>
      intro y hd hy
      have e : y = s / 80 := by omega
      subst e
      rw [canonFrom_step P _ hys]
      obtain ⟨m, l, hr⟩ := rowRects_first (P := P) (e := rowEnd' P (s / 80) (s / 80 + 1)) hys (show s % 80 < 80 by omega) (fun x hx => hno _ (by omega)) hPs
      rw [hr]
      exact ⟨_, _, _, rfl⟩
    | succ d ih =>
      intro y hd hy
      by_cases e : y = s / 80
      · exact ih y (by omega) hy
      · have hy80 : y < 80 := by omega
        have hge := rowEnd'_ge P y (y + 1)
        have hle : rowEnd' P y (y + 1) ≤ s / 80 := by
          rcases Nat.lt_or_ge (s / 80) (rowEnd' P y (y + 1)) with hlt | hge2
          · have h1 := rowEnd_same (G := P) (y := y) (80 - (y + 1)) (y + 1) (s / 80) (by omega) hlt
            rw [rowEq_iff] at h1
            have h2 := h1 (s % 80) (by omega)
            rw [hPs, hno _ (by omega)] at h2
            cases h2
          · exact hge2
        rw [canonFrom_step P y hy80, rowRects_none hy80 (fun x hx => hno _ (by omega)), List.nil_append]
        exact ih _ (by omega) hle
  exact key _ 0 (Nat.le_refl _) (Nat.zero_le _)

/-! ## The components in order -/

theorem compG_here (L : Gr) (i : Nat) : compG L i i = true := (compG_iff L i i).2 (reach_start L i)
theorem compG_in {L : Gr} {i j : Nat} (hi : i < 6400) (hL : L i = true) (h : compG L i j = true) : j < 6400 ∧ L j = true := reach_in hi hL ((compG_iff L i j).1 h)
/-- Each component has a first cell, and these are in order. -/
theorem compsF_firsts : ∀ (n i : Nat) (L : Gr), 6400 - i ≤ n → (∀ j, j < i → L j = false) → ∃ ss : List Nat, ss.length = (compsF L i).length ∧ ss.Pairwise (· < ·) ∧ (∀ s ∈ ss, i ≤ s) ∧ ∀ (k : Nat) (P : Gr) (s : Nat), (compsF L i)[k]? = some P → ss[k]? = some s → FirstG P s := by
  intro n
  induction n with
  | zero =>
    intro i L hi _
    rw [compsF_end (by omega)]
    exact ⟨[], rfl, by simp, by simp, fun k P s h => by simp at h⟩
  | succ n ih =>
    intro i L hi hL
    by_cases h6 : i < 6400
    · cases hLi : L i with
      | true =>
        rw [compsF_yes h6 hLi]
        obtain ⟨ss, h1, h2, h3, h4⟩ := ih (i + 1) (minusG L (compG L i)) (by omega) (fun j hj => by
          unfold minusG
          by_cases e : j = i
          · rw [e, compG_here]; simp
          · rw [hL j (by omega)]; rfl)
        refine ⟨i :: ss, by simp [h1], List.pairwise_cons.2 ⟨fun s hs => by have := h3 s hs; omega, h2⟩, fun s hs => ?_, fun k P s hk hs => ?_⟩
        · rcases List.mem_cons.1 hs with rfl | hs
          · exact Nat.le_refl _
          · have := h3 s hs; omega
        · cases k with
          | zero =>
            simp at hk hs
            subst hk hs
            refine ⟨h6, compG_here L i, fun j hj => ?_⟩
            rw [Bool.eq_false_iff]
            intro hc
            have := (compG_in h6 hLi hc).2
            rw [hL j hj] at this
            cases this
          | succ k => exact h4 k P s (by simpa using hk) (by simpa using hs)
      | false =>
        rw [compsF_no h6 hLi]
        obtain ⟨ss, h1, h2, h3, h4⟩ := ih (i + 1) L (by omega) (fun j hj => by
          by_cases e : j = i
          · rw [e]; exact hLi
          · exact hL j (by omega))
        exact ⟨ss, h1, h2, fun s hs => by have := h3 s hs; omega, h4⟩
    · rw [compsF_end (by omega)]
      exact ⟨[], rfl, by simp, by simp, fun k P s h => by simp at h⟩
theorem comps_firsts (G : Gr) : ∃ ss : List Nat, ss.length = (comps G).length ∧ ss.Pairwise (· < ·) ∧ ∀ (k : Nat) (P : Gr) (s : Nat), (comps G)[k]? = some P → ss[k]? = some s → FirstG P s := by
  obtain ⟨ss, h1, h2, _, h4⟩ := compsF_firsts 6400 0 G (by omega) (fun j hj => absurd hj (by omega))
  exact ⟨ss, h1, h2, h4⟩
theorem comps_first (G : Gr) {P : Gr} (h : P ∈ comps G) : ∃ s, FirstG P s := by
  obtain ⟨ss, h1, _, h4⟩ := comps_firsts G
  obtain ⟨k, hk, he⟩ := List.mem_iff_getElem.1 h
  have hk2 : k < ss.length := by omega
  exact ⟨ss[k], h4 k P ss[k] (by rw [List.getElem?_eq_getElem hk, he]) (List.getElem?_eq_getElem hk2)⟩
/-- The numbers of cells of the components. -/
noncomputable def countsV (G : Gr) : List Int := (comps G).map countG
theorem counts_ok (G : Gr) : ∀ n ∈ countsV G, 1 ≤ n ∧ n ≤ 6400 := by
  intro n hn
  obtain ⟨P, hP, rfl⟩ := List.mem_map.1 hn
  obtain ⟨s, h1, h2, _⟩ := comps_first G hP
  exact ⟨count_pos h1 h2, (count_bounds P).2⟩

end Go.Proofs.Ythifinolgbjekaa
