/- Edges of a set of cells, plainly: sides, maximal runs of sides, sorted lists of edges. No conditions. -/
import Derived.Test.YtjiljodchebniaaGreatQ01

namespace Go.Proofs.YtjiljodchebniaaGreat

structure Ed where
  x0 : Int
  y0 : Int
  x1 : Int
  y1 : Int
  deriving DecidableEq
/-- The order of edges. -/
def edLt (a b : Ed) : Bool := if a.y0 ≠ b.y0 then decide (a.y0 < b.y0) else if a.x0 ≠ b.x0 then decide (a.x0 < b.x0) else if a.y1 ≠ b.y1 then decide (a.y1 < b.y1) else decide (a.x1 < b.x1)
theorem edLt_iff (a b : Ed) : edLt a b = true ↔ a.y0 < b.y0 ∨ (a.y0 = b.y0 ∧ (a.x0 < b.x0 ∨ (a.x0 = b.x0 ∧ (a.y1 < b.y1 ∨ (a.y1 = b.y1 ∧ a.x1 < b.x1))))) := by
  unfold edLt
  by_cases h1 : a.y0 = b.y0
  · rw [if_neg (by simpa using h1)]
    by_cases h2 : a.x0 = b.x0
    · rw [if_neg (by simpa using h2)]
      by_cases h3 : a.y1 = b.y1
      · rw [if_neg (by simpa using h3), decide_eq_true_eq]
        omega
      · rw [if_pos h3, decide_eq_true_eq]
        omega
    · rw [if_pos h2, decide_eq_true_eq]
      omega
  · rw [if_pos h1, decide_eq_true_eq]
    omega
theorem ed_ext {a b : Ed} (h0 : a.x0 = b.x0) (h1 : a.y0 = b.y0) (h2 : a.x1 = b.x1) (h3 : a.y1 = b.y1) : a = b := by
  cases a; cases b; simp_all
theorem edLt_irr (a : Ed) : edLt a a = false := by
  rw [Bool.eq_false_iff]
  intro h
  rw [edLt_iff] at h
  omega
theorem edLt_trans {a b c : Ed} (h : edLt a b = true) (h2 : edLt b c = true) : edLt a c = true := by
  rw [edLt_iff] at h h2 ⊢
  omega
theorem edLt_or {a b : Ed} (h : edLt a b = false) : a = b ∨ edLt b a = true := by
  rw [Bool.eq_false_iff] at h
  by_cases e : edLt b a = true
  · exact .inr e
  · left
    rw [Ne, edLt_iff] at h
    rw [edLt_iff] at e
    exact ed_ext (by omega) (by omega) (by omega) (by omega)
/-- Strictly sorted. -/
def EdS (l : List Ed) : Prop := l.Pairwise fun a b => edLt a b = true
/-- A strictly sorted list is told by its members. -/
theorem eds_one : ∀ {l m : List Ed}, EdS l → EdS m → (∀ e, e ∈ l ↔ e ∈ m) → l = m
  | [], [], _, _, _ => rfl
  | [], b :: m, _, _, h => absurd ((h b).2 List.mem_cons_self) (by simp)
  | a :: l, [], _, _, h => absurd ((h a).1 List.mem_cons_self) (by simp)
  | a :: l, b :: m, hl, hm, h => by
    unfold EdS at hl hm
    rw [List.pairwise_cons] at hl hm
    have hab : a = b := by
      have h1 := (h a).1 List.mem_cons_self
      have h2 := (h b).2 List.mem_cons_self
      rcases List.mem_cons.1 h1 with e | h1
      · exact e
      rcases List.mem_cons.1 h2 with e | h2
      · exact e.symm
      have := edLt_trans (hm.1 a h1) (hl.1 b h2)
      rw [edLt_irr] at this
      cases this
    subst hab
    congr 1
    refine eds_one hl.2 hm.2 fun e => ⟨fun he => ?_, fun he => ?_⟩
    · rcases List.mem_cons.1 ((h e).1 (List.mem_cons_of_mem _ he)) with rfl | h2
      · have := hl.1 e he
        rw [edLt_irr] at this
        cases this
      · exact h2
    · rcases List.mem_cons.1 ((h e).2 (List.mem_cons_of_mem _ he)) with rfl | h2
      · have := hm.1 e he
        rw [edLt_irr] at this
        cases this
      · exact h2
/-- An edge put into a sorted list, once. -/
def putE (l : List Ed) (e : Ed) : List Ed := match l with
  | [] => [e]
  | a :: r => if edLt a e = true then a :: putE r e else if a = e then a :: r else e :: a :: r
theorem putE_mem : ∀ (l : List Ed) (e x : Ed), x ∈ putE l e ↔ x = e ∨ x ∈ l
  | [], e, x => by simp [putE]
  | a :: r, e, x => by
    unfold putE
    split
    · rw [List.mem_cons, putE_mem r e x, List.mem_cons]
      constructor
      · rintro (h | h | h) <;> simp [h]
      · rintro (h | h | h) <;> simp [h]
    · split
      · rename_i h
        subst h
        simp
      · simp
theorem putE_sorted : ∀ {l : List Ed} (e : Ed), EdS l → EdS (putE l e)
  | [], e, _ => by simp [putE, EdS]
  | a :: r, e, h => by
    unfold EdS at h
    rw [List.pairwise_cons] at h
    unfold putE
    split
    · rename_i h1
      unfold EdS
      rw [List.pairwise_cons]
      refine ⟨fun x hx => ?_, putE_sorted e h.2⟩
      rcases (putE_mem r e x).1 hx with rfl | hx
      · exact h1
      · exact h.1 x hx
    · rename_i h1
      split
      · unfold EdS
        rw [List.pairwise_cons]
        exact h
      · rename_i h2
        have h3 : edLt e a = true := by
          rcases edLt_or (Bool.eq_false_iff.2 h1) with h3 | h3
          · exact absurd h3 h2
          · exact h3
        unfold EdS
        rw [List.pairwise_cons, List.pairwise_cons]
        refine ⟨fun x hx => ?_, h⟩
        rcases List.mem_cons.1 hx with rfl | hx
        · exact h3
        · exact edLt_trans h3 (h.1 x hx)
/-- Where the first element stands that is not ahead of e. -/
theorem putE_at {l : List Ed} {e : Ed} {i : Nat} (hi : i ≤ l.length) (h1 : ∀ j a, j < i → l[j]? = some a → edLt a e = true) (h2 : ∀ a, l[i]? = some a → edLt a e = false) :
    putE l e = if l[i]? = some e then l else l.take i ++ e :: l.drop i := by
  induction l generalizing i with
  | nil =>
    obtain rfl : i = 0 := by simpa using hi
    simp [putE]
  | cons a r ih =>
    cases i with
    | zero =>
      have h3 := h2 a rfl
      unfold putE
      rw [if_neg (by rw [h3]; simp)]
      by_cases e1 : a = e
      · rw [if_pos e1, if_pos (by simp [e1])]
      · rw [if_neg e1, if_neg (by simpa using e1)]
        simp
    | succ i =>
      have h3 := h1 0 a (by omega) rfl
      unfold putE
      rw [if_pos h3, ih (i := i) (by simpa using hi) (fun j b hj hb => h1 (j + 1) b (by omega) (by simpa using hb)) (fun b hb => h2 b (by simpa using hb))]
      rw [List.getElem?_cons_succ, List.take_succ_cons, List.drop_succ_cons]
      split <;> simp

/-! Sides and edges. -/
/-- 1 if the second one of two cells alone is set, -1 if the first one alone is. -/
def stp (a b : Bool) : Int := if b = true ∧ a = false then 1 else if a = true ∧ b = false then -1 else 0
def stG (G : Gr) (v : Bool) (a t : Int) : Int := stp (lnG G v (a - 1) t) (lnG G v a t)
def edOf (v : Bool) (k : Int) (a p q : Int) : Ed := match v with
  | false => if k = 1 then ⟨p, a, q, a⟩ else ⟨q, a, p, a⟩
  | true => if k = 1 then ⟨a, q, a, p⟩ else ⟨a, p, a, q⟩
/-- e is an edge of the set: a maximal run of sides of one direction. -/
def EdgeC (G : Gr) (e : Ed) : Prop := ∃ (v : Bool) (k a p q : Int), (k = 1 ∨ k = -1) ∧ p < q ∧ e = edOf v k a p q ∧ (∀ t, p ≤ t → t < q → stG G v a t = k) ∧ stG G v a (p - 1) ≠ k ∧ stG G v a q ≠ k
theorem lnG_out {G : Gr} {v : Bool} {a t : Int} (h : lnG G v a t = true) : (-40 ≤ t ∧ t ≤ 39) ∧ (-40 ≤ a ∧ a ≤ 39) := by
  cases v
  · have := hasG_in (lnG_h G a t ▸ h); omega
  · have := hasG_in (lnG_v G a t ▸ h); omega
theorem stG_in {G : Gr} {v : Bool} {a t : Int} (h : stG G v a t ≠ 0) : (-40 ≤ t ∧ t ≤ 39) ∧ (-40 ≤ a ∧ a ≤ 40) := by
  unfold stG stp at h
  split at h
  · rename_i h1
    have := lnG_out h1.1
    omega
  · split at h
    · rename_i h1
      have := lnG_out h1.1
      omega
    · exact absurd rfl h
theorem edge_in {G : Gr} {e : Ed} (h : EdgeC G e) : (-40 ≤ e.x0 ∧ e.x0 ≤ 40) ∧ (-40 ≤ e.y0 ∧ e.y0 ≤ 40) ∧ (-40 ≤ e.x1 ∧ e.x1 ≤ 40) ∧ (-40 ≤ e.y1 ∧ e.y1 ≤ 40) ∧ ((e.x0 = e.x1 ∧ e.y0 ≠ e.y1) ∨ (e.y0 = e.y1 ∧ e.x0 ≠ e.x1)) := by
  obtain ⟨v, k, a, p, q, hk, hpq, rfl, hall, -, -⟩ := h
  have h1 := stG_in (by rw [hall p (Int.le_refl _) hpq]; omega)
  have h2 := stG_in (by rw [hall (q - 1) (by omega) (by omega)]; omega)
  cases v <;> rcases hk with rfl | rfl
  · rw [show edOf false 1 a p q = ⟨p, a, q, a⟩ from rfl]; dsimp only; exact ⟨by omega, by omega, by omega, by omega, .inr ⟨rfl, by omega⟩⟩
  · rw [show edOf false (-1) a p q = ⟨q, a, p, a⟩ from rfl]; dsimp only; exact ⟨by omega, by omega, by omega, by omega, .inr ⟨rfl, by omega⟩⟩
  · rw [show edOf true 1 a p q = ⟨a, q, a, p⟩ from rfl]; dsimp only; exact ⟨by omega, by omega, by omega, by omega, .inl ⟨rfl, by omega⟩⟩
  · rw [show edOf true (-1) a p q = ⟨a, p, a, q⟩ from rfl]; dsimp only; exact ⟨by omega, by omega, by omega, by omega, .inl ⟨rfl, by omega⟩⟩
/-- A cell of M lies beside the edge. -/
def TouchC (M : Gr) (e : Ed) : Prop := (e.x0 = e.x1 ∧ ∃ y, min e.y0 e.y1 ≤ y ∧ y < max e.y0 e.y1 ∧ (hasG M (e.x0 - 1) y = true ∨ hasG M e.x0 y = true)) ∨
  (e.y0 = e.y1 ∧ ∃ x, min e.x0 e.x1 ≤ x ∧ x < max e.x0 e.x1 ∧ (hasG M x (e.y0 - 1) = true ∨ hasG M x e.y0 = true))

/-! A run, by its end. -/
/-- The end of the run of k from t on. -/
def runUp (f : Int → Int) (k : Int) : Nat → Int → Int
  | 0, t => t
  | n + 1, t => if f t = k then runUp f k n (t + 1) else t
theorem runUp_ge (f : Int → Int) (k : Int) : ∀ (n : Nat) (t : Int), t ≤ runUp f k n t
  | 0, t => Int.le_refl _
  | n + 1, t => by
    unfold runUp
    split
    · have := runUp_ge f k n (t + 1); omega
    · exact Int.le_refl _
theorem runUp_all (f : Int → Int) (k : Int) : ∀ (n : Nat) (t u : Int), t ≤ u → u < runUp f k n t → f u = k
  | 0, t, u, h, h2 => by unfold runUp at h2; omega
  | n + 1, t, u, h, h2 => by
    unfold runUp at h2
    split at h2
    · rename_i h3
      by_cases e : u = t
      · rw [e]; exact h3
      · exact runUp_all f k n (t + 1) u (by omega) h2
    · omega
theorem runUp_end (f : Int → Int) (k : Int) : ∀ (n : Nat) (t : Int), (∀ u, f u = k → u < t + n) → f (runUp f k n t) ≠ k
  | 0, t, h => fun h2 => by
    have := h _ h2
    unfold runUp at this
    omega
  | n + 1, t, h => by
    unfold runUp
    split
    · exact runUp_end f k n (t + 1) fun u hu => by have := h u hu; omega
    · rename_i h3
      exact h3

/-- .. and its start. -/
def runDn (f : Int → Int) (k : Int) : Nat → Int → Int
  | 0, t => t
  | n + 1, t => if f (t - 1) = k then runDn f k n (t - 1) else t
theorem runDn_le (f : Int → Int) (k : Int) : ∀ (n : Nat) (t : Int), runDn f k n t ≤ t
  | 0, t => Int.le_refl _
  | n + 1, t => by
    unfold runDn
    split
    · have := runDn_le f k n (t - 1); omega
    · exact Int.le_refl _
theorem runDn_all (f : Int → Int) (k : Int) : ∀ (n : Nat) (t u : Int), runDn f k n t ≤ u → u < t → f u = k
  | 0, t, u, h, h2 => by unfold runDn at h; omega
  | n + 1, t, u, h, h2 => by
    unfold runDn at h
    split at h
    · rename_i h3
      by_cases e : u = t - 1
      · rw [e]; exact h3
      · exact runDn_all f k n (t - 1) u h (by omega)
    · omega
theorem runDn_end (f : Int → Int) (k : Int) : ∀ (n : Nat) (t : Int), (∀ u, f u = k → t - n ≤ u) → f (runDn f k n t - 1) ≠ k
  | 0, t, h => fun h2 => by
    have := h _ h2
    unfold runDn at this
    omega
  | n + 1, t, h => by
    unfold runDn
    split
    · exact runDn_end f k n (t - 1) fun u hu => by have := h u hu; omega
    · rename_i h3
      exact h3
/-- A run's two ends are told by what holds there. -/
theorem run_one {f : Int → Int} {k p q p' q' t : Int} (h1 : p ≤ t ∧ t < q) (h2 : p' ≤ t ∧ t < q') (ha : ∀ u, p ≤ u → u < q → f u = k) (hb : ∀ u, p' ≤ u → u < q' → f u = k) (e1 : f (p - 1) ≠ k) (e2 : f q ≠ k) (e3 : f (p' - 1) ≠ k) (e4 : f q' ≠ k) : p = p' ∧ q = q' := by
  have a1 : ¬ p < p' := fun h => e3 (ha _ (by omega) (by omega))
  have a2 : ¬ p' < p := fun h => e1 (hb _ (by omega) (by omega))
  have a3 : ¬ q < q' := fun h => e2 (hb _ (by omega) (by omega))
  have a4 : ¬ q' < q := fun h => e4 (ha _ (by omega) (by omega))
  omega

/-! The reference's way. -/
def isSide (G : Gr) (x y dx dy : Int) : Bool :=
  if dx = 1 then hasG G x y && !hasG G x (y - 1) else if dx = -1 then hasG G (x - 1) (y - 1) && !hasG G (x - 1) y
  else if dy = 1 then hasG G (x - 1) y && !hasG G x y else hasG G x (y - 1) && !hasG G (x - 1) (y - 1)
theorem stp_one (a b : Bool) : decide (stp a b = 1) = (b && !a) := by cases a <;> cases b <;> rfl
theorem stp_neg (a b : Bool) : decide (stp a b = -1) = (a && !b) := by cases a <;> cases b <;> rfl
theorem side_h1 (G : Gr) (t a : Int) : isSide G t a 1 0 = decide (stG G false a t = 1) := by unfold stG; rw [stp_one]; rfl
theorem side_h2 (G : Gr) (t a : Int) : isSide G (t + 1) a (-1) 0 = decide (stG G false a t = -1) := by
  unfold stG
  rw [stp_neg]
  unfold isSide
  rw [if_neg (by decide), if_pos rfl, show t + 1 - 1 = t by omega]
  rfl
theorem side_v2 (G : Gr) (t a : Int) : isSide G a t 0 1 = decide (stG G true a t = -1) := by unfold stG; rw [stp_neg]; rfl
theorem side_v1 (G : Gr) (t a : Int) : isSide G a (t + 1) 0 (-1) = decide (stG G true a t = 1) := by
  unfold stG
  rw [stp_one]
  unfold isSide
  rw [if_neg (by decide), if_neg (by decide), if_neg (by decide), show t + 1 - 1 = t by omega]
  rfl
/-- The sides of a cell. -/
def sidesAt (G : Gr) (x y : Int) : List Ed :=
  if hasG G x y = true then
    (((if hasG G x (y - 1) = true then [] else [⟨x, y, x + 1, y⟩]) ++ (if hasG G (x + 1) y = true then [] else [⟨x + 1, y, x + 1, y + 1⟩])) ++ (if hasG G x (y + 1) = true then [] else [⟨x + 1, y + 1, x, y + 1⟩])) ++ (if hasG G (x - 1) y = true then [] else [⟨x, y + 1, x, y⟩])
  else []
def sidesTo (G : Gr) (n : Nat) : List Ed := (List.range n).flatMap fun i => sidesAt G (((i % 80 : Nat) : Int) - 40) (((i / 80 : Nat) : Int) - 40)
theorem sidesTo_succ (G : Gr) (n : Nat) : sidesTo G (n + 1) = sidesTo G n ++ sidesAt G (((n % 80 : Nat) : Int) - 40) (((n / 80 : Nat) : Int) - 40) := by
  unfold sidesTo
  rw [List.range_succ, List.flatMap_append]
  simp
theorem sidesAt_len (G : Gr) (x y : Int) : (sidesAt G x y).length ≤ 4 := by
  unfold sidesAt
  split
  · simp only [List.length_append]
    have h : ∀ (c : Bool) (e : Ed), (if c = true then ([] : List Ed) else [e]).length ≤ 1 := by
      intro c e
      cases c <;> simp
    have h1 := h (hasG G x (y - 1)) ⟨x, y, x + 1, y⟩
    have h2 := h (hasG G (x + 1) y) ⟨x + 1, y, x + 1, y + 1⟩
    have h3 := h (hasG G x (y + 1)) ⟨x + 1, y + 1, x, y + 1⟩
    have h4 := h (hasG G (x - 1) y) ⟨x, y + 1, x, y⟩
    omega
  · simp
theorem sidesTo_len (G : Gr) : ∀ n, (sidesTo G n).length ≤ 4 * n
  | 0 => by simp [sidesTo]
  | n + 1 => by
    rw [sidesTo_succ, List.length_append]
    have := sidesTo_len G n
    have := sidesAt_len G (((n % 80 : Nat) : Int) - 40) (((n / 80 : Nat) : Int) - 40)
    omega
/-- A side: its line, its kind, its place. -/
def SideC (G : Gr) (e : Ed) (v : Bool) (k a t : Int) : Prop := (k = 1 ∨ k = -1) ∧ stG G v a t = k ∧ e = edOf v k a t (t + 1)
theorem mem_one {c : Bool} {e x : Ed} : x ∈ (if c = true then ([] : List Ed) else [e]) ↔ c = false ∧ x = e := by
  cases c <;> simp
theorem stp_eq1 {a b : Bool} : stp a b = 1 ↔ b = true ∧ a = false := by cases a <;> cases b <;> decide
theorem stp_eq2 {a b : Bool} : stp a b = -1 ↔ a = true ∧ b = false := by cases a <;> cases b <;> decide
theorem sidesAt_mem (G : Gr) (x y : Int) (e : Ed) : e ∈ sidesAt G x y ↔ hasG G x y = true ∧ (SideC G e false 1 y x ∨ SideC G e true (-1) (x + 1) y ∨ SideC G e false (-1) (y + 1) x ∨ SideC G e true 1 x y) := by
  unfold sidesAt
  by_cases h : hasG G x y = true
  · rw [if_pos h]
    simp only [List.mem_append, mem_one]
    have s1 : SideC G e false 1 y x ↔ hasG G x (y - 1) = false ∧ e = ⟨x, y, x + 1, y⟩ := by
      unfold SideC stG
      rw [stp_eq1, lnG_h, lnG_h, h]
      simp [edOf]
    have s2 : SideC G e true (-1) (x + 1) y ↔ hasG G (x + 1) y = false ∧ e = ⟨x + 1, y, x + 1, y + 1⟩ := by
      unfold SideC stG
      rw [stp_eq2, lnG_v, lnG_v, show x + 1 - 1 = x by omega, h]
      simp [edOf]
    have s3 : SideC G e false (-1) (y + 1) x ↔ hasG G x (y + 1) = false ∧ e = ⟨x + 1, y + 1, x, y + 1⟩ := by
      unfold SideC stG
      rw [stp_eq2, lnG_h, lnG_h, show y + 1 - 1 = y by omega, h]
      simp [edOf]
    have s4 : SideC G e true 1 x y ↔ hasG G (x - 1) y = false ∧ e = ⟨x, y + 1, x, y⟩ := by
      unfold SideC stG
      rw [stp_eq1, lnG_v, lnG_v, h]
      simp [edOf]
    rw [s1, s2, s3, s4]
    constructor
    · rintro (((h2 | h2) | h2) | h2)
      · exact ⟨h, .inl h2⟩
      · exact ⟨h, .inr (.inl h2)⟩
      · exact ⟨h, .inr (.inr (.inl h2))⟩
      · exact ⟨h, .inr (.inr (.inr h2))⟩
    · rintro ⟨-, h | h | h | h⟩
      · exact .inl (.inl (.inl h))
      · exact .inl (.inl (.inr h))
      · exact .inl (.inr h)
      · exact .inr h
  · rw [if_neg h]
    simp [h]
theorem sides_mem (G : Gr) (e : Ed) : e ∈ sidesTo G 6400 ↔ ∃ v k a t, SideC G e v k a t := by
  unfold sidesTo
  rw [List.mem_flatMap]
  have cell : ∀ {x y : Int}, hasG G x y = true → ∃ i ∈ List.range 6400, ((i % 80 : Nat) : Int) - 40 = x ∧ ((i / 80 : Nat) : Int) - 40 = y := by
    intro x y h
    have := hasG_in h
    refine ⟨((y + 40) * 80 + (x + 40)).toNat, List.mem_range.2 (by omega), ?_, ?_⟩ <;> omega
  constructor
  · rintro ⟨i, -, hi⟩
    rcases ((sidesAt_mem G _ _ e).1 hi).2 with h | h | h | h
    · exact ⟨_, _, _, _, h⟩
    · exact ⟨_, _, _, _, h⟩
    · exact ⟨_, _, _, _, h⟩
    · exact ⟨_, _, _, _, h⟩
  · rintro ⟨v, k, a, t, h⟩
    have hk := h.1
    have hs := h.2.1
    unfold stG at hs
    rcases hk with rfl | rfl
    · rw [stp_eq1] at hs
      cases v
      · rw [lnG_h] at hs
        obtain ⟨i, hi, e1, e2⟩ := cell hs.1
        exact ⟨i, hi, by rw [e1, e2, sidesAt_mem]; exact ⟨hs.1, .inl h⟩⟩
      · rw [lnG_v] at hs
        obtain ⟨i, hi, e1, e2⟩ := cell hs.1
        exact ⟨i, hi, by rw [e1, e2, sidesAt_mem]; exact ⟨hs.1, .inr (.inr (.inr h))⟩⟩
    · rw [stp_eq2] at hs
      cases v
      · rw [lnG_h] at hs
        obtain ⟨i, hi, e1, e2⟩ := cell hs.1
        exact ⟨i, hi, by rw [e1, e2, sidesAt_mem, show a - 1 + 1 = a by omega]; exact ⟨hs.1, .inr (.inr (.inl h))⟩⟩
      · rw [lnG_v] at hs
        obtain ⟨i, hi, e1, e2⟩ := cell hs.1
        exact ⟨i, hi, by rw [e1, e2, sidesAt_mem, show a - 1 + 1 = a by omega]; exact ⟨hs.1, .inr (.inl h)⟩⟩
/-- The edge of which a side is part. -/
def wholeE (G : Gr) (v : Bool) (k a t : Int) : Ed := edOf v k a (runDn (stG G v a) k 100 t) (runUp (stG G v a) k 100 (t + 1))
/-- The sides run towards growing places. -/
def upD (v : Bool) (k : Int) : Bool := decide (k = 1) != v
def FirstC (G : Gr) (v : Bool) (k a t : Int) : Prop := if upD v k = true then stG G v a (t - 1) ≠ k else stG G v a (t + 1) ≠ k
theorem whole_ends {G : Gr} {v : Bool} {k a t : Int} (hk : k ≠ 0) (h : stG G v a t = k) : (stG G v a (runDn (stG G v a) k 100 t - 1) ≠ k) ∧ stG G v a (runUp (stG G v a) k 100 (t + 1)) ≠ k := by
  have ht := stG_in (by rw [h]; exact hk)
  refine ⟨runDn_end _ _ _ _ fun u hu => ?_, runUp_end _ _ _ _ fun u hu => ?_⟩
  · have := stG_in (by rw [hu]; exact hk)
    omega
  · have := stG_in (by rw [hu]; exact hk)
    omega
theorem whole_edge {G : Gr} {v : Bool} {k a t : Int} (hk : k = 1 ∨ k = -1) (h : stG G v a t = k) : EdgeC G (wholeE G v k a t) := by
  have hk0 : k ≠ 0 := by omega
  obtain ⟨e1, e2⟩ := whole_ends hk0 h
  have l1 := runDn_le (stG G v a) k 100 t
  have l2 := runUp_ge (stG G v a) k 100 (t + 1)
  refine ⟨v, k, a, _, _, hk, by omega, rfl, fun u h1 h2 => ?_, e1, e2⟩
  by_cases c1 : u < t
  · exact runDn_all _ _ _ _ _ h1 c1
  · by_cases c2 : u = t
    · rw [c2]; exact h
    · exact runUp_all _ _ _ _ _ (by omega) h2
/-- The edges are the wholes of the first sides. -/
theorem edges_iff (G : Gr) (e : Ed) : EdgeC G e ↔ ∃ v k a t, (k = 1 ∨ k = -1) ∧ stG G v a t = k ∧ FirstC G v k a t ∧ e = wholeE G v k a t := by
  constructor
  · rintro ⟨v, k, a, p, q, hk, hpq, rfl, hall, h1, h2⟩
    have key : ∀ t, p ≤ t → t < q → edOf v k a p q = wholeE G v k a t := fun t g1 g2 => by
      have hs := hall t g1 g2
      obtain ⟨e1, e2⟩ := whole_ends (by omega) hs
      have l1 := runDn_le (stG G v a) k 100 t
      have l2 := runUp_ge (stG G v a) k 100 (t + 1)
      have := run_one (f := stG G v a) (k := k) (t := t) ⟨g1, g2⟩ (p' := runDn (stG G v a) k 100 t) (q' := runUp (stG G v a) k 100 (t + 1)) ⟨l1, by omega⟩ hall (fun u c1 c2 => by
        by_cases d1 : u < t
        · exact runDn_all _ _ _ _ _ c1 d1
        · by_cases d2 : u = t
          · rw [d2]; exact hs
          · exact runUp_all _ _ _ _ _ (by omega) c2) h1 h2 e1 e2
      unfold wholeE
      rw [← this.1, ← this.2]
    by_cases hu : upD v k = true
    · exact ⟨v, k, a, p, hk, hall p (Int.le_refl _) hpq, by unfold FirstC; rw [if_pos hu]; exact h1, key p (Int.le_refl _) hpq⟩
    · exact ⟨v, k, a, q - 1, hk, hall (q - 1) (by omega) (by omega), by unfold FirstC; rw [if_neg hu, show q - 1 + 1 = q by omega]; exact h2, key (q - 1) (by omega) (by omega)⟩
  · rintro ⟨v, k, a, t, hk, hs, -, rfl⟩
    exact whole_edge hk hs

/-! The program's way: the runs of a line. -/
/-- The edges of line a, from place i - 40 on. -/
def lineE (G : Gr) (v : Bool) (a : Int) : Nat → Int → List Ed
  | 0, _ => []
  | n + 1, t => if 40 ≤ t then [] else
    (if stG G v a t = 0 then [] else [edOf v (stG G v a t) a t (runUp (stG G v a) (stG G v a t) (39 - t).toNat (t + 1))]) ++ lineE G v a n (runUp (stG G v a) (stG G v a t) (39 - t).toNat (t + 1))

theorem runUp_or (f : Int → Int) (k : Int) : ∀ (n : Nat) (t : Int), f (runUp f k n t) ≠ k ∨ runUp f k n t = t + n
  | 0, t => .inr (by unfold runUp; omega)
  | n + 1, t => by
    unfold runUp
    split
    · rcases runUp_or f k n (t + 1) with h | h
      · exact .inl h
      · exact .inr (by omega)
    · rename_i h
      exact .inl h
theorem runUp_le (f : Int → Int) (k : Int) : ∀ (n : Nat) (t : Int), runUp f k n t ≤ t + n
  | 0, t => by unfold runUp; omega
  | n + 1, t => by
    unfold runUp
    split
    · have := runUp_le f k n (t + 1); omega
    · omega
theorem stG_three (G : Gr) (v : Bool) (a t : Int) : stG G v a t = 0 ∨ stG G v a t = 1 ∨ stG G v a t = -1 := by
  unfold stG stp
  split
  · exact .inr (.inl rfl)
  · split
    · exact .inr (.inr rfl)
    · exact .inl rfl
theorem lineE_mem (G : Gr) (v : Bool) (a : Int) (e : Ed) : ∀ (n : Nat) (t : Int), 40 - t ≤ n → -40 ≤ t → (stG G v a (t - 1) ≠ stG G v a t ∨ stG G v a t = 0) →
    (e ∈ lineE G v a n t ↔ ∃ k p q, (k = 1 ∨ k = -1) ∧ t ≤ p ∧ p < q ∧ e = edOf v k a p q ∧ (∀ u, p ≤ u → u < q → stG G v a u = k) ∧ stG G v a (p - 1) ≠ k ∧ stG G v a q ≠ k)
  | 0, t, hn, h40, _ => by
    unfold lineE
    constructor
    · intro h; cases h
    · rintro ⟨k, p, q, hk, h1, h2, -, h3, -, -⟩
      have := stG_in (G := G) (v := v) (a := a) (t := p) (by rw [h3 p (Int.le_refl _) h2]; omega)
      omega
  | n + 1, t, hn, h40, hst => by
    unfold lineE
    by_cases ht : 40 ≤ t
    · rw [if_pos ht]
      constructor
      · intro h; cases h
      · rintro ⟨k, p, q, hk, h1, h2, -, h3, -, -⟩
        have := stG_in (G := G) (v := v) (a := a) (t := p) (by rw [h3 p (Int.le_refl _) h2]; omega)
        omega
    rw [if_neg ht]
    have u1 := runUp_ge (stG G v a) (stG G v a t) (39 - t).toNat (t + 1)
    have u2 := runUp_le (stG G v a) (stG G v a t) (39 - t).toNat (t + 1)
    have u3 := runUp_or (stG G v a) (stG G v a t) (39 - t).toNat (t + 1)
    have u4 : ∀ u, t ≤ u → u < runUp (stG G v a) (stG G v a t) (39 - t).toNat (t + 1) → stG G v a u = stG G v a t := fun u c1 c2 => by
      by_cases d : u = t
      · rw [d]
      · exact runUp_all _ _ _ _ _ (by omega) c2
    generalize runUp (stG G v a) (stG G v a t) (39 - t).toNat (t + 1) = z at u1 u2 u3 u4 ⊢
    have hz : stG G v a z ≠ stG G v a t ∨ stG G v a z = 0 := by
      rcases u3 with h | h
      · exact .inl h
      · right
        by_cases e0 : stG G v a z = 0
        · exact e0
        · have := stG_in e0
          omega
    have hz1 : stG G v a (z - 1) = stG G v a t := u4 _ (by omega) (by omega)
    have ih := lineE_mem G v a e n z (by omega) (by omega) (by rw [hz1]; rcases hz with h | h; exact .inl (fun c => h c.symm); exact .inr h)
    rw [List.mem_append, ih]
    constructor
    · rintro (h | ⟨k, p, q, hk, h1, h2, h3, h4, h5, h6⟩)
      · by_cases h0 : stG G v a t = 0
        · rw [if_pos h0] at h; cases h
        · rw [if_neg h0, List.mem_singleton] at h
          refine ⟨stG G v a t, t, z, ?_, Int.le_refl _, by omega, h, u4, ?_, ?_⟩
          · rcases stG_three G v a t with c | c | c
            · exact absurd c h0
            · exact .inl c
            · exact .inr c
          · rcases hst with c | c
            · exact c
            · exact absurd c h0
          · rcases hz with c | c
            · exact c
            · rw [c]; exact fun d => h0 d.symm
      · exact ⟨k, p, q, hk, by omega, h2, h3, h4, h5, h6⟩
    · rintro ⟨k, p, q, hk, h1, h2, h3, h4, h5, h6⟩
      by_cases hp : z ≤ p
      · exact .inr ⟨k, p, q, hk, hp, h2, h3, h4, h5, h6⟩
      · left
        have hpk : stG G v a t = k := by rw [← u4 p h1 (by omega)]; exact h4 p (Int.le_refl _) h2
        have hpt : p = t := by
          by_cases d : p = t
          · exact d
          · exact absurd ((u4 (p - 1) (by omega) (by omega)).trans hpk) h5
        subst hpt
        have hzk : stG G v a z ≠ k := by
          rcases hz with c | c
          · rw [← hpk]; exact c
          · rw [c]; omega
        have hqz : q = z := by
          have c1 : ¬ q < z := fun d => h6 ((u4 q (by omega) d).trans hpk)
          have c2 : ¬ z < q := fun d => hzk (h4 z (by omega) d)
          omega
        rw [if_neg (by rw [hpk]; omega), List.mem_singleton, hpk, ← hqz]
        exact h3
/-- The edges of a line, all. -/
def lineL (G : Gr) (v : Bool) (a : Int) : List Ed := lineE G v a 80 (-40)
theorem lineL_mem (G : Gr) (v : Bool) (a : Int) (e : Ed) : e ∈ lineL G v a ↔ ∃ k p q, (k = 1 ∨ k = -1) ∧ p < q ∧ e = edOf v k a p q ∧ (∀ u, p ≤ u → u < q → stG G v a u = k) ∧ stG G v a (p - 1) ≠ k ∧ stG G v a q ≠ k := by
  unfold lineL
  rw [lineE_mem G v a e 80 (-40) (by omega) (by omega) (by
    by_cases h : stG G v a (-40) = 0
    · exact .inr h
    · left
      intro c
      have := stG_in (G := G) (v := v) (a := a) (t := -40 - 1) (by rw [c]; exact h)
      omega)]
  constructor
  · rintro ⟨k, p, q, hk, -, h⟩
    exact ⟨k, p, q, hk, h⟩
  · rintro ⟨k, p, q, hk, h2, h3, h4, h5, h6⟩
    have := stG_in (G := G) (v := v) (a := a) (t := p) (by rw [h4 p (Int.le_refl _) h2]; omega)
    exact ⟨k, p, q, hk, by omega, h2, h3, h4, h5, h6⟩
/-- The edges of the first n lines. -/
def bndTo (G : Gr) (n : Nat) : List Ed := (List.range n).flatMap fun (i : Nat) => lineL G false ((i : Int) - 40) ++ lineL G true ((i : Int) - 40)
theorem bndTo_succ (G : Gr) (n : Nat) : bndTo G (n + 1) = (bndTo G n ++ lineL G false ((n : Int) - 40)) ++ lineL G true ((n : Int) - 40) := by
  unfold bndTo
  rw [List.range_succ, List.flatMap_append]
  simp
theorem bnd_mem (G : Gr) (e : Ed) : e ∈ bndTo G 81 ↔ EdgeC G e := by
  unfold bndTo
  simp only [List.mem_flatMap, List.mem_append, lineL_mem]
  constructor
  · rintro ⟨i, -, ⟨k, p, q, h⟩ | ⟨k, p, q, h⟩⟩
    · exact ⟨false, k, _, p, q, h⟩
    · exact ⟨true, k, _, p, q, h⟩
  · rintro ⟨v, k, a, p, q, hk, h2, h3, h4, h5, h6⟩
    have hin := stG_in (G := G) (v := v) (a := a) (t := p) (by rw [h4 p (Int.le_refl _) h2]; omega)
    have hpk := h4 p (Int.le_refl _) h2
    refine ⟨(a + 40).toNat, List.mem_range.2 (by have := hin; omega), ?_⟩
    rw [show (((a + 40).toNat : Nat) : Int) - 40 = a by omega]
    cases v
    · exact .inl ⟨k, p, q, hk, h2, h3, h4, h5, h6⟩
    · exact .inr ⟨k, p, q, hk, h2, h3, h4, h5, h6⟩
theorem lineE_len (G : Gr) (v : Bool) (a : Int) : ∀ n t, (lineE G v a n t).length ≤ n
  | 0, _ => by simp [lineE]
  | n + 1, t => by
    unfold lineE
    split
    · simp
    · rw [List.length_append]
      have := lineE_len G v a n (runUp (stG G v a) (stG G v a t) (39 - t).toNat (t + 1))
      split <;> simp <;> omega
theorem bndTo_len (G : Gr) : ∀ n, (bndTo G n).length ≤ 160 * n
  | 0 => by simp [bndTo]
  | n + 1 => by
    rw [bndTo_succ, List.length_append, List.length_append]
    have h0 := bndTo_len G n
    have h1 := lineE_len G false ((n : Int) - 40) 80 (-40)
    have h2 := lineE_len G true ((n : Int) - 40) 80 (-40)
    unfold lineL
    omega

end Go.Proofs.YtjiljodchebniaaGreat
