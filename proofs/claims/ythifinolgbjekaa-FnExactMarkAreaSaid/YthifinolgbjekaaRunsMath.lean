/- Plain mathematics: all runs of a set in rows, or in columns, as both texts list them. No conditions. -/
import Derived.Test.YthifinolgbjekaaRunMath
import Derived.Test.YthifinolgbjekaaAreaMath
namespace Go.Proofs.Ythifinolgbjekaa

/-- The cell at t of the row a, or of the column a if vertical. -/
def lnG (G : Gr) (vert : Bool) (a t : Int) : Bool := if vert = true then hasG G a t else hasG G t a
theorem lnG_v (G : Gr) (a t : Int) : lnG G true a t = hasG G a t := rfl
theorem lnG_h (G : Gr) (a t : Int) : lnG G false a t = hasG G t a := rfl
theorem lnG_in {G : Gr} {vert : Bool} {a t : Int} (h : lnG G vert a t = true) : -40 ≤ t ∧ t ≤ 39 := by
  cases vert
  · have := hasG_in (lnG_h G a t ▸ h); omega
  · have := hasG_in (lnG_v G a t ▸ h); omega
/-- A run of a row or column as a rectangle. -/
def lineR (vert : Bool) (a f t : Int) : Rc := if vert = true then ⟨a, f, a + 1, t⟩ else ⟨f, a, t, a + 1⟩
/-- Does a run start at t? -/
def startG (G : Gr) (vert : Bool) (a t : Int) : Bool := lnG G vert a t && !lnG G vert a (t - 1)
/-- The end of the run from t on. -/
def stopG (G : Gr) (vert : Bool) (a t : Int) : Int := highOf (lnG G vert a) (t + 1)
theorem runR_v (G : Gr) (a t : Int) (h : startG G true a t = true) : runR G a t true = lineR true a t (stopG G true a t) := by
  have h2 : lnG G true a (t - 1) = false := by
    unfold startG at h
    revert h
    cases lnG G true a t <;> cases lnG G true a (t - 1) <;> simp
  have e : lowOf (fun s => hasG G a s) t = t := lowOf_stop h2
  unfold runR lineR stopG
  rw [if_pos rfl, if_pos rfl, e]; rfl
theorem runR_h (G : Gr) (a t : Int) (h : startG G false a t = true) : runR G t a false = lineR false a t (stopG G false a t) := by
  have h2 : lnG G false a (t - 1) = false := by
    unfold startG at h
    revert h
    cases lnG G false a t <;> cases lnG G false a (t - 1) <;> simp
  have e : lowOf (fun s => hasG G s a) t = t := lowOf_stop h2
  unfold runR lineR stopG
  rw [if_neg (by simp), if_neg (by simp), e]; rfl

/-- The runs of a line that start from place k on (places counted from 0). -/
def restL (G : Gr) (vert : Bool) (a : Int) (k : Nat) : List Rc :=
  ((List.range' k (80 - k)).filter fun j : Nat => startG G vert a ((j : Int) - 40)).map fun j : Nat => lineR vert a ((j : Int) - 40) (stopG G vert a ((j : Int) - 40))
theorem restL_end (G : Gr) (vert : Bool) (a : Int) {k : Nat} (h : 80 ≤ k) : restL G vert a k = [] := by
  have e : 80 - k = 0 := by omega
  rw [restL, e]; rfl
theorem restL_on (G : Gr) (vert : Bool) (a : Int) {k : Nat} (h : k < 80) (hs : startG G vert a ((k : Int) - 40) = true) : restL G vert a k = lineR vert a ((k : Int) - 40) (stopG G vert a ((k : Int) - 40)) :: restL G vert a (k + 1) := by
  have e : 80 - k = (80 - (k + 1)) + 1 := by omega
  rw [restL, e, List.range'_succ, List.filter_cons, if_pos hs, List.map_cons]; rfl
theorem restL_off (G : Gr) (vert : Bool) (a : Int) {k : Nat} (h : k < 80) (hs : startG G vert a ((k : Int) - 40) = false) : restL G vert a k = restL G vert a (k + 1) := by
  have e : 80 - k = (80 - (k + 1)) + 1 := by omega
  rw [restL, e, List.range'_succ, List.filter_cons, if_neg (by rw [hs]; simp)]; rfl
theorem restL_length (G : Gr) (vert : Bool) (a : Int) (k : Nat) : (restL G vert a k).length ≤ 80 := by
  rw [restL, List.length_map]
  refine Nat.le_trans (List.length_filter_le _ _) ?_
  rw [List.length_range']
  omega
/-- No run starts between k and e: all cells there are alike. -/
theorem restL_alike (G : Gr) (vert : Bool) (a : Int) (b : Bool) : ∀ (d k : Nat), k + d ≤ 79 → (∀ j : Nat, k ≤ j → j ≤ k + d → lnG G vert a ((j : Int) - 40) = b) → restL G vert a (k + 1) = restL G vert a (k + d + 1) := by
  intro d
  induction d with
  | zero => intro k _ _; rfl
  | succ d ih =>
    intro k hk hall
    have h0 := hall k (by omega) (by omega)
    have h1 := hall (k + 1) (by omega) (by omega)
    have hs : startG G vert a (((k + 1 : Nat) : Int) - 40) = false := by
      have e : ((k + 1 : Nat) : Int) - 40 - 1 = (k : Int) - 40 := by omega
      unfold startG
      rw [e, h0, h1]
      cases b <;> rfl
    rw [restL_off G vert a (by omega) hs, ih (k + 1) (by omega) (fun j h2 h3 => hall j (by omega) (by omega))]
    congr 1
    omega
theorem lnG_off (G : Gr) (vert : Bool) (a : Int) {t : Int} (h : 40 ≤ t) : lnG G vert a t = false := by
  rw [Bool.eq_false_iff]
  intro hc
  have := lnG_in hc
  omega
/-- From one change of a line to the next: cells that are free. -/
theorem restL_free (G : Gr) (vert : Bool) (a : Int) {k e : Nat} (hk : k < e) (he : e ≤ 80) (hall : ∀ j : Nat, k ≤ j → j < e → lnG G vert a ((j : Int) - 40) = false) : restL G vert a k = restL G vert a e := by
  have h0 := hall k (by omega) hk
  have hs : startG G vert a ((k : Int) - 40) = false := by unfold startG; rw [h0]; rfl
  rw [restL_off G vert a (by omega) hs]
  have := restL_alike G vert a false (e - 1 - k) k (by omega) (fun j h1 h2 => hall j h1 (by omega))
  rw [this]
  congr 1
  omega
/-- .. and cells of a run. -/
theorem restL_set (G : Gr) (vert : Bool) (a : Int) {k e : Nat} (hk : k < e) (he : e ≤ 80) (hall : ∀ j : Nat, k ≤ j → j < e → lnG G vert a ((j : Int) - 40) = true)
    (hb : lnG G vert a ((k : Int) - 41) = false) (hend : lnG G vert a ((e : Int) - 40) = false) : restL G vert a k = lineR vert a ((k : Int) - 40) ((e : Int) - 40) :: restL G vert a e := by
  have h0 := hall k (by omega) hk
  have hs : startG G vert a ((k : Int) - 40) = true := by
    have e1 : (k : Int) - 40 - 1 = (k : Int) - 41 := by omega
    unfold startG; rw [h0, e1, hb]; rfl
  have hz : stopG G vert a ((k : Int) - 40) = (e : Int) - 40 := by
    unfold stopG
    have e2 : (e : Int) - 40 = ((k : Int) - 40 + 1) + ((e - 1 - k : Nat) : Int) := by omega
    rw [e2]
    refine highOf_all _ _ (fun t h1 h2 => ?_) (by rw [← e2]; exact hend)
    have h3 := hall (t + 40).toNat (by omega) (by omega)
    have e3 : (((t + 40).toNat : Nat) : Int) - 40 = t := by omega
    rw [e3] at h3
    exact ⟨h3, by omega⟩
  rw [restL_on G vert a (by omega) hs, hz]
  have := restL_alike G vert a true (e - 1 - k) k (by omega) (fun j h1 h2 => hall j h1 (by omega))
  rw [this]
  congr 2
  omega

/-- The runs from line a on (lines counted from 0). -/
def restA (G : Gr) (vert : Bool) (a : Nat) : List Rc := (List.range' a (80 - a)).flatMap fun i : Nat => restL G vert ((i : Int) - 40) 0
theorem restA_end (G : Gr) (vert : Bool) {a : Nat} (h : 80 ≤ a) : restA G vert a = [] := by
  have e : 80 - a = 0 := by omega
  rw [restA, e]; rfl
theorem restA_step (G : Gr) (vert : Bool) {a : Nat} (h : a < 80) : restA G vert a = restL G vert ((a : Int) - 40) 0 ++ restA G vert (a + 1) := by
  have e : 80 - a = (80 - (a + 1)) + 1 := by omega
  rw [restA, e, List.range'_succ, List.flatMap_cons]; rfl
/-- All runs in rows, or in columns. -/
def runsG (G : Gr) (vert : Bool) : List Rc := restA G vert 0
theorem runsG_start (G : Gr) (vert : Bool) : [] ++ restA G vert 0 = runsG G vert := by rw [List.nil_append, runsG]
theorem restA_length (G : Gr) (vert : Bool) (a : Nat) : (restA G vert a).length ≤ 80 * (80 - a) := by
  by_cases h : a < 80
  · rw [restA_step G vert h, List.length_append]
    have h1 := restL_length G vert ((a : Int) - 40) 0
    have h2 := restA_length G vert (a + 1)
    omega
  · rw [restA_end G vert (by omega)]
    simp
termination_by 80 - a
theorem runsG_length (G : Gr) (vert : Bool) : (runsG G vert).length ≤ 6400 := by
  have := restA_length G vert 0
  rw [runsG]
  omega
/-- The runs in rows, then those in columns. -/
def allG (G : Gr) : List Rc := runsG G false ++ runsG G true
theorem allG_length (G : Gr) : (allG G).length ≤ 12800 := by
  have h1 := runsG_length G false
  have h2 := runsG_length G true
  rw [allG, List.length_append]
  omega

theorem goUp_bounds {p : Int → Bool} (hp : ∀ t, p t = true → t ≤ 39) : ∀ n x, x ≤ 40 → x ≤ goUp p n x ∧ goUp p n x ≤ 40 := by
  intro n
  induction n with
  | zero => intro x h; exact ⟨Int.le_refl _, h⟩
  | succ n ih =>
    intro x h
    rw [goUp]
    split
    · rename_i hc
      have := hp x hc
      have := ih (x + 1) (by omega)
      omega
    · exact ⟨Int.le_refl _, h⟩
theorem restL_ok (G : Gr) (vert : Bool) {a : Int} (ha : -40 ≤ a ∧ a ≤ 39) (k : Nat) : ∀ r ∈ restL G vert a k, okRc r = true := by
  intro r hr
  rw [restL, List.mem_map] at hr
  obtain ⟨j, hj, rfl⟩ := hr
  rw [List.mem_filter, List.mem_range'_1] at hj
  have h1 := goUp_bounds (p := lnG G vert a) (fun t ht => (lnG_in ht).2) ((41 - ((j : Int) - 40 + 1)).toNat) ((j : Int) - 40 + 1) (by omega)
  rw [okRc_iff]
  unfold lineR stopG highOf
  cases vert <;> simp only [Bool.false_eq_true, if_false, if_true] <;> omega
theorem runsG_ok (G : Gr) (vert : Bool) : okAll (runsG G vert) = true := by
  rw [okAll, List.all_eq_true]
  intro r hr
  rw [runsG, restA, List.mem_flatMap] at hr
  obtain ⟨i, hi, hr⟩ := hr
  rw [List.mem_range'_1] at hi
  exact restL_ok G vert (by omega) 0 r hr
theorem allG_ok (G : Gr) : okAll (allG G) = true := by
  have h1 := runsG_ok G false
  have h2 := runsG_ok G true
  rw [okAll] at h1 h2 ⊢
  rw [allG, List.all_append, h1, h2]; rfl

end Go.Proofs.Ythifinolgbjekaa
