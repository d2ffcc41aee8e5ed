/- Plain mathematics: the gaps of a set, and those between two sets, as both texts list them. No conditions. -/
import Derived.Test.YthifinolgbjekaaRunsMath
import Derived.Test.YthifinolgbjekaaNot
namespace Go.Proofs.Ythifinolgbjekaa

/-- The ends of a run: the cells before and behind it belong to A and B, in this order or the other. -/
def endsG (A B : Gr) (vert : Bool) (r : Rc) : Bool :=
  if vert = true then (hasG A r.x0 (r.y0 - 1) && hasG B r.x0 r.y1) || (hasG B r.x0 (r.y0 - 1) && hasG A r.x0 r.y1)
  else (hasG A (r.x0 - 1) r.y0 && hasG B r.x1 r.y0) || (hasG B (r.x0 - 1) r.y0 && hasG A r.x1 r.y0)
/-- A run does not reach the border. -/
def innerR (vert : Bool) (r : Rc) : Bool := if vert = true then decide (-40 < r.y0 ∧ r.y1 < 40) else decide (-40 < r.x0 ∧ r.x1 < 40)

theorem goUp_end {p : Int → Bool} (hp : ∀ t, p t = true → t ≤ 39) : ∀ (n : Nat) (x : Int), (40 : Int) - x < (n : Int) → p (goUp p n x) = false := by
  intro n
  induction n with
  | zero =>
    intro x h
    rw [Bool.eq_false_iff]
    intro hc
    have := hp _ hc
    rw [goUp] at this
    omega
  | succ n ih =>
    intro x h
    rw [goUp]
    split
    · exact ih (x + 1) (by omega)
    · rename_i hc; simpa using hc
/-- What is known of a run of a list. -/
theorem mem_runs {G : Gr} {vert : Bool} {r : Rc} (h : r ∈ runsG G vert) : ∃ a f t : Int, r = lineR vert a f t ∧ -40 ≤ a ∧ a ≤ 39 ∧ -40 ≤ f ∧ f < t ∧ t ≤ 40 ∧ lnG G vert a (f - 1) = false ∧ lnG G vert a t = false := by
  rw [runsG, restA, List.mem_flatMap] at h
  obtain ⟨i, hi, h⟩ := h
  rw [List.mem_range'_1] at hi
  rw [restL, List.mem_map] at h
  obtain ⟨j, hj, rfl⟩ := h
  rw [List.mem_filter, List.mem_range'_1] at hj
  have hp : ∀ t, lnG G vert ((i : Int) - 40) t = true → t ≤ 39 := fun t ht => (lnG_in ht).2
  have h1 := goUp_bounds hp ((41 - ((j : Int) - 40 + 1)).toNat) ((j : Int) - 40 + 1) (by omega)
  have h2 := goUp_end hp ((41 - ((j : Int) - 40 + 1)).toNat) ((j : Int) - 40 + 1) (by omega)
  have hs : lnG G vert ((i : Int) - 40) ((j : Int) - 40 - 1) = false := by
    have := hj.2
    unfold startG at this
    revert this
    cases lnG G vert ((i : Int) - 40) ((j : Int) - 40) <;> cases lnG G vert ((i : Int) - 40) ((j : Int) - 40 - 1) <;> simp
  exact ⟨(i : Int) - 40, (j : Int) - 40, stopG G vert ((i : Int) - 40) ((j : Int) - 40), rfl, by omega, by omega, by omega, by unfold stopG highOf; omega, by unfold stopG highOf; omega, hs, h2⟩
theorem hasG_not {G : Gr} {x y : Int} (hc : onC x y = true) : hasG (notG G) x y = !hasG G x y := by rw [hasG_on hc, hasG_on hc]; rfl
theorem lnG_not {G : Gr} {vert : Bool} {a t : Int} (ha : -40 ≤ a ∧ a ≤ 39) (h : lnG (notG G) vert a t = false) : lnG G vert a t = decide (-40 ≤ t ∧ t ≤ 39) := by
  by_cases ht : -40 ≤ t ∧ t ≤ 39
  · rw [decide_eq_true ht]
    cases vert
    · rw [lnG_h] at h ⊢
      rw [hasG_not ((onC_iff _ _).2 (by omega))] at h
      simpa using h
    · rw [lnG_v] at h ⊢
      rw [hasG_not ((onC_iff _ _).2 (by omega))] at h
      simpa using h
  · rw [decide_eq_false ht, Bool.eq_false_iff]
    intro hc
    exact ht (lnG_in hc)
theorem gap_ends {G : Gr} {vert : Bool} {r : Rc} (h : r ∈ runsG (notG G) vert) : endsG G G vert r = innerR vert r := by
  obtain ⟨a, f, t, rfl, ha1, ha2, hf, hft, ht, h1, h2⟩ := mem_runs h
  have e1 := lnG_not ⟨ha1, ha2⟩ h1
  have e2 := lnG_not ⟨ha1, ha2⟩ h2
  unfold endsG innerR lineR
  cases vert
  · simp only [Bool.false_eq_true, if_false]
    rw [lnG_h] at e1 e2
    rw [e1, e2, Bool.or_self, ← Bool.decide_and, decide_eq_decide]
    omega
  · simp only [if_true]
    rw [lnG_v] at e1 e2
    rw [e1, e2, Bool.or_self, ← Bool.decide_and, decide_eq_decide]
    omega
theorem ends_inner {A B : Gr} {vert : Bool} {r : Rc} (h : endsG A B vert r = true) : innerR vert r = true := by
  unfold endsG at h
  unfold innerR
  cases vert
  · simp only [Bool.false_eq_true, if_false, Bool.or_eq_true, Bool.and_eq_true] at h ⊢
    rw [decide_eq_true_iff]
    rcases h with ⟨h1, h2⟩ | ⟨h1, h2⟩
    · have := hasG_in h1; have := hasG_in h2; omega
    · have := hasG_in h1; have := hasG_in h2; omega
  · simp only [if_true, Bool.or_eq_true, Bool.and_eq_true] at h ⊢
    rw [decide_eq_true_iff]
    rcases h with ⟨h1, h2⟩ | ⟨h1, h2⟩
    · have := hasG_in h1; have := hasG_in h2; omega
    · have := hasG_in h1; have := hasG_in h2; omega

/-- The gaps of a set. -/
def gapsG (G : Gr) (vert : Bool) : List Rc := (runsG (notG G) vert).filter (innerR vert)
/-- The gaps between two sets. -/
def btwG (A B : Gr) (vert : Bool) : List Rc := (runsG (notG (unionG A B)) vert).filter (endsG A B vert)
theorem union_self (G : Gr) : unionG G G = G := by funext i; unfold unionG; rw [Bool.or_self]
theorem btw_self (G : Gr) (vert : Bool) : btwG G G vert = gapsG G vert := by
  unfold btwG gapsG
  rw [union_self]
  exact List.filter_congr fun r hr => gap_ends hr
theorem btw_gaps (A B : Gr) (vert : Bool) : (gapsG (unionG A B) vert).filter (endsG A B vert) = btwG A B vert := by
  unfold btwG gapsG
  rw [List.filter_filter]
  refine List.filter_congr fun r _ => ?_
  cases h : endsG A B vert r with
  | false => rfl
  | true => rw [ends_inner h]; rfl
def allBtw (A B : Gr) : List Rc := btwG A B false ++ btwG A B true
def allGaps (G : Gr) : List Rc := gapsG G false ++ gapsG G true
theorem allBtw_self (G : Gr) : allBtw G G = allGaps G := by unfold allBtw allGaps; rw [btw_self, btw_self]
theorem gapsG_length (G : Gr) (vert : Bool) : (gapsG G vert).length ≤ 6400 := Nat.le_trans (List.length_filter_le _ _) (runsG_length _ _)
theorem btwG_length (A B : Gr) (vert : Bool) : (btwG A B vert).length ≤ 6400 := Nat.le_trans (List.length_filter_le _ _) (runsG_length _ _)
theorem allGaps_length (G : Gr) : (allGaps G).length ≤ 12800 := by
  have h1 := gapsG_length G false
  have h2 := gapsG_length G true
  rw [allGaps, List.length_append]
  omega
theorem allBtw_length (A B : Gr) : (allBtw A B).length ≤ 12800 := by
  have h1 := btwG_length A B false
  have h2 := btwG_length A B true
  rw [allBtw, List.length_append]
  omega
theorem okAll_filter {rs : List Rc} (h : okAll rs = true) (p : Rc → Bool) : okAll (rs.filter p) = true := by
  rw [okAll, List.all_eq_true] at h ⊢
  exact fun r hr => h r (List.mem_filter.1 hr).1
theorem okAll_append {a b : List Rc} (h1 : okAll a = true) (h2 : okAll b = true) : okAll (a ++ b) = true := by
  rw [okAll] at h1 h2 ⊢
  rw [List.all_append, h1, h2]; rfl
theorem gapsG_ok (G : Gr) (vert : Bool) : okAll (gapsG G vert) = true := okAll_filter (runsG_ok _ _) _
theorem btwG_ok (A B : Gr) (vert : Bool) : okAll (btwG A B vert) = true := okAll_filter (runsG_ok _ _) _
theorem allGaps_ok (G : Gr) : okAll (allGaps G) = true := okAll_append (gapsG_ok G false) (gapsG_ok G true)
theorem allBtw_ok (A B : Gr) : okAll (allBtw A B) = true := okAll_append (btwG_ok A B false) (btwG_ok A B true)

/-- A list, filtered, one element more. -/
theorem filter_yes {α : Type} {l : List α} {p : α → Bool} {k : Nat} {a : α} (h : l[k]? = some a) (hp : p a = true) : (l.take (k + 1)).filter p = (l.take k).filter p ++ [a] := by
  rw [List.take_add_one, h, Option.toList, List.filter_append, List.filter_cons, if_pos hp, List.filter_nil]
theorem filter_no {α : Type} {l : List α} {p : α → Bool} {k : Nat} {a : α} (h : l[k]? = some a) (hp : p a = false) : (l.take (k + 1)).filter p = (l.take k).filter p := by
  rw [List.take_add_one, h, Option.toList, List.filter_append, List.filter_cons, if_neg (by rw [hp]; simp), List.filter_nil, List.append_nil]
theorem filter_all {α : Type} {l : List α} {p : α → Bool} {k : Nat} (h : l.length ≤ k) : (l.take k).filter p = l.filter p := by rw [List.take_of_length_le h]
theorem filter_len {α : Type} {l : List α} {p : α → Bool} {n : Nat} (k : Nat) (h : l.length ≤ n) : ((l.take k).filter p).length ≤ n :=
  Nat.le_trans (List.length_filter_le _ _) (Nat.le_trans (List.length_take_le' _ _) h)

end Go.Proofs.Ythifinolgbjekaa
