/- Plain law of facing edges: short runs, pairs of edges at their ends, lists of pairs. No conditions. -/
import Derived.Test.YtjiljodchebniaaGreatQ11
import Derived.Test.YtjiljodchebniaaGreatQ14

namespace Go.Proofs.YtjiljodchebniaaGreat

/-- A pair of edges that face each other. -/
structure EP where
  f : Ed
  s : Ed
  deriving DecidableEq
/-- Their distance. -/
def EP.d (x : EP) : Int := if x.f.x0 = x.f.x1 then x.s.x0 - x.f.x0 else x.s.y0 - x.f.y0
/-- A run of the set, shorter than d. -/
def ShortC (G : Gr) (v : Bool) (a p q d : Int) : Prop := p < q ∧ q - p < d ∧ (∀ t, p ≤ t → t < q → lnG G v a t = true) ∧ lnG G v a (p - 1) = false ∧ lnG G v a q = false
/-- The edges at a run's ends. -/
def pairOf (G : Gr) (v : Bool) (a p q : Int) : EP := ⟨wholeE G (!v) 1 p a, wholeE G (!v) (-1) q a⟩
def FaceC (G : Gr) (d : Int) (x : EP) : Prop := ∃ v a p q, ShortC G v a p q d ∧ x = pairOf G v a p q
/-- 1 in the set, 0 beside it. -/
def knG (G : Gr) (v : Bool) (a t : Int) : Int := if lnG G v a t = true then 1 else 0
theorem knG_zero {G : Gr} {v : Bool} {a t : Int} : knG G v a t = 0 ↔ lnG G v a t = false := by unfold knG; cases lnG G v a t <;> simp
theorem knG_one {G : Gr} {v : Bool} {a t : Int} : knG G v a t = 1 ↔ lnG G v a t = true := by unfold knG; cases lnG G v a t <;> simp
theorem knG_in {G : Gr} {v : Bool} {a t : Int} (h : knG G v a t ≠ 0) : -40 ≤ t ∧ t ≤ 39 := by
  have : lnG G v a t = true := by
    cases e : lnG G v a t
    · exact absurd (knG_zero.2 e) h
    · rfl
  exact (lnG_out this).1
/-- The pairs of line a, from place t on. -/
def lineP (G : Gr) (v : Bool) (a d : Int) : Nat → Int → List EP
  | 0, _ => []
  | n + 1, t => if 40 ≤ t then [] else
    (if knG G v a t ≠ 0 ∧ runUp (knG G v a) (knG G v a t) (39 - t).toNat (t + 1) - t < d then [pairOf G v a t (runUp (knG G v a) (knG G v a t) (39 - t).toNat (t + 1))] else []) ++ lineP G v a d n (runUp (knG G v a) (knG G v a t) (39 - t).toNat (t + 1))
theorem lineP_len (G : Gr) (v : Bool) (a d : Int) : ∀ (n : Nat) (t : Int), (lineP G v a d n t).length ≤ n
  | 0, t => by simp [lineP]
  | n + 1, t => by
    unfold lineP
    split
    · simp
    · rw [List.length_append]
      have := lineP_len G v a d n (runUp (knG G v a) (knG G v a t) (39 - t).toNat (t + 1))
      split <;> simp <;> omega
theorem lineP_mem (G : Gr) (v : Bool) (a d : Int) (x : EP) : ∀ (n : Nat) (t : Int), 40 - t ≤ n → -40 ≤ t → (knG G v a (t - 1) ≠ knG G v a t ∨ knG G v a t = 0) →
    (x ∈ lineP G v a d n t ↔ ∃ p q, t ≤ p ∧ ShortC G v a p q d ∧ x = pairOf G v a p q)
  | 0, t, hn, h40, _ => by
    unfold lineP
    constructor
    · intro h; cases h
    · rintro ⟨p, q, h1, ⟨h2, -, h3, -, -⟩, -⟩
      have := lnG_out (h3 p (Int.le_refl _) h2)
      omega
  | n + 1, t, hn, h40, hst => by
    unfold lineP
    by_cases ht : 40 ≤ t
    · rw [if_pos ht]
      constructor
      · intro h; cases h
      · rintro ⟨p, q, h1, ⟨h2, -, h3, -, -⟩, -⟩
        have := lnG_out (h3 p (Int.le_refl _) h2)
        omega
    rw [if_neg ht]
    have u1 := runUp_ge (knG G v a) (knG G v a t) (39 - t).toNat (t + 1)
    have u2 := runUp_le (knG G v a) (knG G v a t) (39 - t).toNat (t + 1)
    have u3 := runUp_or (knG G v a) (knG G v a t) (39 - t).toNat (t + 1)
    have u4 : ∀ u, t ≤ u → u < runUp (knG G v a) (knG G v a t) (39 - t).toNat (t + 1) → knG G v a u = knG G v a t := fun u c1 c2 => by
      by_cases d : u = t
      · rw [d]
      · exact runUp_all _ _ _ _ _ (by omega) c2
    generalize runUp (knG G v a) (knG G v a t) (39 - t).toNat (t + 1) = z at u1 u2 u3 u4 ⊢
    have hz : knG G v a z ≠ knG G v a t ∨ knG G v a z = 0 := by
      rcases u3 with h | h
      · exact .inl h
      · right
        by_cases e0 : knG G v a z = 0
        · exact e0
        · have := knG_in e0
          omega
    have hz1 : knG G v a (z - 1) = knG G v a t := u4 _ (by omega) (by omega)
    have ih := lineP_mem G v a d x n z (by omega) (by omega) (by rw [hz1]; rcases hz with h | h; exact .inl (fun c => h c.symm); exact .inr h)
    rw [List.mem_append, ih]
    constructor
    · rintro (h | ⟨p, q, h1, h2, h3⟩)
      · by_cases h0 : knG G v a t ≠ 0 ∧ z - t < d
        · rw [if_pos h0, List.mem_singleton] at h
          have ht1 : knG G v a t = 1 := by
            have := h0.1
            unfold knG at this ⊢
            cases e : lnG G v a t
            · rw [e] at this; exact absurd rfl this
            · rfl
          refine ⟨t, z, Int.le_refl _, ⟨by omega, h0.2, fun u c1 c2 => knG_one.1 ((u4 u c1 c2).trans ht1), ?_, ?_⟩, h⟩
          · rcases hst with c | c
            · rw [ht1] at c
              cases e : lnG G v a (t - 1)
              · rfl
              · exact absurd (knG_one.2 e) c
            · exact absurd c h0.1
          · rcases hz with c | c
            · rw [ht1] at c
              cases e : lnG G v a z
              · rfl
              · exact absurd (knG_one.2 e) c
            · exact knG_zero.1 c
        · rw [if_neg h0] at h; cases h
      · exact ⟨p, q, by omega, h2, h3⟩
    · rintro ⟨p, q, h1, ⟨g1, g2, g3, g4, g5⟩, h3⟩
      by_cases hp : z ≤ p
      · exact .inr ⟨p, q, hp, ⟨g1, g2, g3, g4, g5⟩, h3⟩
      · left
        have hpk : knG G v a t = 1 := by rw [← u4 p h1 (by omega)]; exact knG_one.2 (g3 p (Int.le_refl _) g1)
        have hpt : p = t := by
          by_cases d : p = t
          · exact d
          · have := knG_one.1 ((u4 (p - 1) (by omega) (by omega)).trans hpk)
            rw [g4] at this; cases this
        subst hpt
        have hzk : knG G v a z ≠ 1 := by
          rcases hz with c | c
          · rw [← hpk]; exact c
          · rw [c]; omega
        have hqz : q = z := by
          have c1 : ¬ q < z := fun d => by
            have := knG_one.1 ((u4 q (by omega) d).trans hpk)
            rw [g5] at this; cases this
          have c2 : ¬ z < q := fun d => hzk (knG_one.2 (g3 z (by omega) d))
          omega
        subst hqz
        rw [if_pos ⟨by rw [hpk]; omega, g2⟩, List.mem_singleton]
        exact h3
def linesP (G : Gr) (v : Bool) (a d : Int) : List EP := lineP G v a d 80 (-40)
theorem linesP_mem (G : Gr) (v : Bool) (a d : Int) (x : EP) : x ∈ linesP G v a d ↔ ∃ p q, ShortC G v a p q d ∧ x = pairOf G v a p q := by
  unfold linesP
  rw [lineP_mem G v a d x 80 (-40) (by omega) (by omega) (by
    by_cases h : knG G v a (-40) = 0
    · exact .inr h
    · left
      intro c
      have := knG_in (G := G) (v := v) (a := a) (t := -40 - 1) (by rw [c]; exact h)
      omega)]
  constructor
  · rintro ⟨p, q, -, h⟩
    exact ⟨p, q, h⟩
  · rintro ⟨p, q, h, h2⟩
    have := lnG_out (h.2.2.1 p (Int.le_refl _) h.1)
    exact ⟨p, q, by omega, h, h2⟩
/-- The pairs of the first n lines, in the order in which they are found. -/
def faceTo (G : Gr) (d : Int) (n : Nat) : List EP := (List.range n).flatMap fun (i : Nat) => linesP G false ((i : Int) - 40) d ++ linesP G true ((i : Int) - 40) d
theorem faceTo_succ (G : Gr) (d : Int) (n : Nat) : faceTo G d (n + 1) = (faceTo G d n ++ linesP G false ((n : Int) - 40) d) ++ linesP G true ((n : Int) - 40) d := by
  unfold faceTo
  rw [List.range_succ, List.flatMap_append]
  simp
theorem faceTo_len (G : Gr) (d : Int) : ∀ n, (faceTo G d n).length ≤ 160 * n
  | 0 => by simp [faceTo]
  | n + 1 => by
    rw [faceTo_succ, List.length_append, List.length_append]
    have := faceTo_len G d n
    have h1 := lineP_len G false ((n : Int) - 40) d 80 (-40)
    have h2 := lineP_len G true ((n : Int) - 40) d 80 (-40)
    unfold linesP
    omega
theorem face_mem (G : Gr) (d : Int) (x : EP) : x ∈ faceTo G d 80 ↔ FaceC G d x := by
  unfold faceTo FaceC
  rw [List.mem_flatMap]
  constructor
  · rintro ⟨i, -, hi⟩
    rw [List.mem_append, linesP_mem, linesP_mem] at hi
    rcases hi with ⟨p, q, h⟩ | ⟨p, q, h⟩
    · exact ⟨_, _, p, q, h⟩
    · exact ⟨_, _, p, q, h⟩
  · rintro ⟨v, a, p, q, h, h2⟩
    have := lnG_out (h.2.2.1 p (Int.le_refl _) h.1)
    refine ⟨(a + 40).toNat, List.mem_range.2 (by omega), ?_⟩
    rw [List.mem_append, linesP_mem, linesP_mem, show (((a + 40).toNat : Nat) : Int) - 40 = a by omega]
    cases v
    · exact .inl ⟨p, q, h, h2⟩
    · exact .inr ⟨p, q, h, h2⟩

/-! A list in which each pair is put once. -/
def addP (l : List EP) (x : EP) : List EP := if x ∈ l then l else l ++ [x]
theorem addP_mem (l : List EP) (x y : EP) : y ∈ addP l x ↔ y = x ∨ y ∈ l := by
  unfold addP
  split
  · rename_i h
    constructor
    · exact .inr
    · rintro (rfl | h2)
      · exact h
      · exact h2
  · rw [List.mem_append, List.mem_singleton]
    exact Or.comm
theorem addP_nodup {l : List EP} (x : EP) (h : l.Nodup) : (addP l x).Nodup := by
  unfold addP
  split
  · exact h
  · rename_i hx
    rw [List.nodup_append]
    refine ⟨h, by simp, fun a ha b hb => ?_⟩
    rw [List.mem_singleton] at hb
    subst hb
    exact fun e => hx (e ▸ ha)
theorem addP_len (l : List EP) (x : EP) : (addP l x).length ≤ l.length + 1 := by
  unfold addP
  split <;> simp
def addAll (l m : List EP) : List EP := m.foldl addP l
theorem addAll_append (l m n : List EP) : addAll l (m ++ n) = addAll (addAll l m) n := by unfold addAll; exact List.foldl_append
theorem addAll_mem : ∀ (m l : List EP) (y : EP), y ∈ addAll l m ↔ y ∈ l ∨ y ∈ m
  | [], l, y => by simp [addAll]
  | x :: m, l, y => by
    have ih := addAll_mem m (addP l x) y
    unfold addAll at ih ⊢
    rw [List.foldl_cons, ih, addP_mem, List.mem_cons]
    constructor
    · rintro ((h | h) | h)
      · exact .inr (.inl h)
      · exact .inl h
      · exact .inr (.inr h)
    · rintro (h | h | h)
      · exact .inl (.inr h)
      · exact .inl (.inl h)
      · exact .inr h
theorem addAll_nodup : ∀ (m : List EP) {l : List EP}, l.Nodup → (addAll l m).Nodup
  | [], _, h => h
  | x :: m, l, h => by
    have := addAll_nodup m (addP_nodup x h)
    unfold addAll at this ⊢
    exact this
theorem addAll_len : ∀ (m l : List EP), (addAll l m).length ≤ l.length + m.length
  | [], _ => by simp [addAll]
  | x :: m, l => by
    have h1 := addAll_len m (addP l x)
    have h2 := addP_len l x
    unfold addAll at h1 ⊢
    rw [List.foldl_cons, List.length_cons]
    omega
/-- What the program finds, ahead of its sorting. -/
def faceL (G : Gr) (d : Int) : List EP := addAll [] (faceTo G d 80)
theorem faceL_mem (G : Gr) (d : Int) (x : EP) : x ∈ faceL G d ↔ FaceC G d x := by
  unfold faceL
  rw [addAll_mem, face_mem]
  simp
theorem faceL_nodup (G : Gr) (d : Int) : (faceL G d).Nodup := addAll_nodup _ (by simp)

/-! The reference's list of pairs, sorted. -/
def epLt (x y : EP) : Bool := if x.f = y.f then edLt x.s y.s else edLt x.f y.f
def putP (l : List EP) (e : EP) : List EP := match l with
  | [] => [e]
  | a :: r => if epLt a e = true then a :: putP r e else if a = e then a :: r else e :: a :: r
theorem putP_mem : ∀ (l : List EP) (e x : EP), x ∈ putP l e ↔ x = e ∨ x ∈ l
  | [], e, x => by simp [putP]
  | a :: r, e, x => by
    unfold putP
    split
    · rw [List.mem_cons, putP_mem r e x, List.mem_cons]
      constructor
      · rintro (h | h | h) <;> simp [h]
      · rintro (h | h | h) <;> simp [h]
    · split
      · rename_i h
        subst h
        simp
      · simp
theorem putP_len : ∀ (l : List EP) (e : EP), (putP l e).length ≤ l.length + 1
  | [], e => by simp [putP]
  | a :: r, e => by
    unfold putP
    split
    · have := putP_len r e
      rw [List.length_cons, List.length_cons]; omega
    · split <;> simp
/-- Where the first element stands that is not ahead of e. -/
theorem putP_at {l : List EP} {e : EP} {i : Nat} (hi : i ≤ l.length) (h1 : ∀ j a, j < i → l[j]? = some a → epLt a e = true) (h2 : ∀ a, l[i]? = some a → epLt a e = false) :
    putP l e = if l[i]? = some e then l else l.take i ++ e :: l.drop i := by
  induction l generalizing i with
  | nil =>
    obtain rfl : i = 0 := by simpa using hi
    simp [putP]
  | cons a r ih =>
    cases i with
    | zero =>
      have h3 := h2 a rfl
      unfold putP
      rw [if_neg (by rw [h3]; simp)]
      by_cases e1 : a = e
      · rw [if_pos e1, if_pos (by simp [e1])]
      · rw [if_neg e1, if_neg (by simpa using e1)]
        simp
    | succ i =>
      have h3 := h1 0 a (by omega) rfl
      unfold putP
      rw [if_pos h3, ih (i := i) (by simpa using hi) (fun j b hj hb => h1 (j + 1) b (by omega) (by simpa using hb)) (fun b hb => h2 b (by simpa using hb))]
      rw [List.getElem?_cons_succ, List.take_succ_cons, List.drop_succ_cons]
      split <;> simp
theorem epLt_irr (x : EP) : epLt x x = false := by
  unfold epLt
  rw [if_pos rfl, edLt_irr]
theorem epLt_trans {x y z : EP} (h : epLt x y = true) (h2 : epLt y z = true) : epLt x z = true := by
  unfold epLt at *
  by_cases e1 : x.f = y.f
  · rw [if_pos e1] at h
    rw [e1]
    by_cases e2 : y.f = z.f
    · rw [if_pos e2] at h2 ⊢
      exact edLt_trans h h2
    · rw [if_neg e2] at h2 ⊢
      exact h2
  · rw [if_neg e1] at h
    by_cases e2 : y.f = z.f
    · rw [if_pos e2] at h2
      rw [← e2, if_neg e1]
      exact h
    · rw [if_neg e2] at h2
      have h3 := edLt_trans h h2
      rw [if_neg, h3]
      intro e
      rw [e, edLt_irr] at h3
      cases h3
theorem epLt_or {x y : EP} (h : epLt x y = false) : x = y ∨ epLt y x = true := by
  unfold epLt at h ⊢
  by_cases e1 : x.f = y.f
  · rw [if_pos e1] at h
    rw [if_pos e1.symm]
    rcases edLt_or h with h2 | h2
    · left
      cases x; cases y
      simp_all
    · exact .inr h2
  · rw [if_neg e1] at h
    rw [if_neg (Ne.symm e1)]
    rcases edLt_or h with h2 | h2
    · exact absurd h2 e1
    · exact .inr h2
def EpS (l : List EP) : Prop := l.Pairwise fun a b => epLt a b = true
theorem putP_sorted : ∀ {l : List EP} (e : EP), EpS l → EpS (putP l e)
  | [], e, _ => by simp [putP, EpS]
  | a :: r, e, h => by
    unfold EpS at h
    rw [List.pairwise_cons] at h
    unfold putP
    split
    · rename_i h1
      unfold EpS
      rw [List.pairwise_cons]
      refine ⟨fun x hx => ?_, putP_sorted e h.2⟩
      rcases (putP_mem r e x).1 hx with rfl | hx
      · exact h1
      · exact h.1 x hx
    · rename_i h1
      split
      · unfold EpS
        rw [List.pairwise_cons]
        exact h
      · rename_i h2
        have h3 : epLt e a = true := by
          rcases epLt_or (Bool.eq_false_iff.2 h1) with h3 | h3
          · exact absurd h3 h2
          · exact h3
        unfold EpS
        rw [List.pairwise_cons, List.pairwise_cons]
        refine ⟨fun x hx => ?_, h⟩
        rcases List.mem_cons.1 hx with rfl | hx
        · exact h3
        · exact epLt_trans h3 (h.1 x hx)
def putPs (l m : List EP) : List EP := m.foldl putP l
theorem putPs_append (l m n : List EP) : putPs l (m ++ n) = putPs (putPs l m) n := by unfold putPs; exact List.foldl_append
theorem putPs_mem : ∀ (m l : List EP) (y : EP), y ∈ putPs l m ↔ y ∈ l ∨ y ∈ m
  | [], l, y => by simp [putPs]
  | x :: m, l, y => by
    have ih := putPs_mem m (putP l x) y
    unfold putPs at ih ⊢
    rw [List.foldl_cons, ih, putP_mem, List.mem_cons]
    constructor
    · rintro ((h | h) | h)
      · exact .inr (.inl h)
      · exact .inl h
      · exact .inr (.inr h)
    · rintro (h | h | h)
      · exact .inl (.inr h)
      · exact .inl (.inl h)
      · exact .inr h
theorem putPs_len : ∀ (m l : List EP), (putPs l m).length ≤ l.length + m.length
  | [], _ => by simp [putPs]
  | x :: m, l => by
    have h1 := putPs_len m (putP l x)
    have h2 := putP_len l x
    unfold putPs at h1 ⊢
    rw [List.foldl_cons, List.length_cons]
    omega
theorem putPs_sorted : ∀ (m : List EP) {l : List EP}, EpS l → EpS (putPs l m)
  | [], _, h => h
  | x :: m, l, h => by
    have := putPs_sorted m (putP_sorted x h)
    unfold putPs at this ⊢
    exact this
theorem EpS.nodup {l : List EP} (h : EpS l) : l.Nodup := by
  refine h.imp fun {a b} hab e => ?_
  rw [e, epLt_irr] at hab
  cases hab
/-- What the reference finds. -/
def faceS (G : Gr) (d : Int) : List EP := putPs [] (faceTo G d 80)

/-! The edges at the ends of a short run. -/
section
variable {G : Gr} {v : Bool} {a p q d : Int}
theorem short_sides (h : ShortC G v a p q d) : stG G (!v) p a = 1 ∧ stG G (!v) q a = -1 := run_sides h.1 h.2.2.1 h.2.2.2.1 h.2.2.2.2
theorem short_in (h : ShortC G v a p q d) : (-40 ≤ a ∧ a ≤ 39) ∧ -40 ≤ p ∧ q ≤ 40 := by
  have h1 := lnG_out (h.2.2.1 p (Int.le_refl _) h.1)
  have h2 := lnG_out (h.2.2.1 (q - 1) (by have := h.1; omega) (by omega))
  omega
theorem whole_has (k : Int) (v : Bool) (a t : Int) : runDn (stG G v a) k 100 t ≤ t ∧ t < runUp (stG G v a) k 100 (t + 1) := by
  have l1 := runDn_le (stG G v a) k 100 t
  have l2 := runUp_ge (stG G v a) k 100 (t + 1)
  omega
theorem whole_v (k : Int) (a t : Int) : (wholeE G true k a t).x0 = a ∧ (wholeE G true k a t).x1 = a := by unfold wholeE edOf; dsimp only; split <;> exact ⟨rfl, rfl⟩
theorem whole_h (k : Int) (a t : Int) : (wholeE G false k a t).y0 = a ∧ (wholeE G false k a t).y1 = a ∧ (wholeE G false k a t).x0 ≠ (wholeE G false k a t).x1 := by
  have := whole_has (G := G) k false a t
  unfold wholeE edOf
  dsimp only
  split
  · exact ⟨rfl, rfl, by dsimp only; omega⟩
  · exact ⟨rfl, rfl, by dsimp only; omega⟩
theorem pair_d (v : Bool) (a p q : Int) : (pairOf G v a p q).d = q - p := by
  unfold EP.d pairOf
  cases v
  · simp only [Bool.not_false]
    rw [(whole_v _ _ _).1, (whole_v _ _ _).2, (whole_v _ _ _).1, if_pos rfl]
  · simp only [Bool.not_true]
    rw [if_neg (whole_h _ _ _).2.2, (whole_h _ _ _).1, (whole_h _ _ _).1]
theorem pair_edges (h : ShortC G v a p q d) : EdgeC G (pairOf G v a p q).f ∧ EdgeC G (pairOf G v a p q).s :=
  ⟨whole_edge (.inl rfl) (short_sides h).1, whole_edge (.inr rfl) (short_sides h).2⟩
end
theorem faceS_mem (G : Gr) (d : Int) (x : EP) : x ∈ faceS G d ↔ FaceC G d x := by
  unfold faceS
  rw [putPs_mem, face_mem]
  simp
theorem faceS_nodup (G : Gr) (d : Int) : (faceS G d).Nodup := (putPs_sorted _ List.Pairwise.nil).nodup
theorem face_count (G : Gr) (d : Int) : (faceL G d).length = (faceS G d).length :=
  ((List.perm_ext_iff_of_nodup (faceL_nodup G d) (faceS_nodup G d)).2 fun x => by rw [faceL_mem, faceS_mem]).length_eq

/-! Short runs and the markers of a width. -/
theorem atG_ln (G : Gr) (v : Bool) (a t k : Int) : (if v = true then atG G v a t k else atG G v t a k) = lnG G v a (t + k) := by
  cases v <;> rfl
theorem narrow_of {G : Gr} {v : Bool} {a p q d : Int} (h : ShortC G v a p q d) {t : Int} (h1 : p ≤ t) (h2 : t < q) : lnG (shortG (allG G) d) v a t = true := by
  have hh := h.2.2.1 t h1 h2
  have h3 := h.2.2.2.1
  have h4 := h.2.2.2.2
  have h5 := h.2.1
  cases v
  · rw [lnG_h] at hh ⊢
    rw [narrow_iff]
    refine ⟨hh, false, p - t, q - t, by omega, by omega, by omega, ?_, ?_⟩
    · show hasG G (t + (p - t - 1)) a = false
      rw [show t + (p - t - 1) = p - 1 by omega]; exact h3
    · show hasG G (t + (q - t)) a = false
      rw [show t + (q - t) = q by omega]; exact h4
  · rw [lnG_v] at hh ⊢
    rw [narrow_iff]
    refine ⟨hh, true, p - t, q - t, by omega, by omega, by omega, ?_, ?_⟩
    · show hasG G a (t + (p - t - 1)) = false
      rw [show t + (p - t - 1) = p - 1 by omega]; exact h3
    · show hasG G a (t + (q - t)) = false
      rw [show t + (q - t) = q by omega]; exact h4
theorem run_around {f : Int → Bool} {t P Q : Int} (h : f t = true) (hP : P < t) (hQ : t < Q) (h1 : f P = false) (h2 : f Q = false) : ∃ p q, P < p ∧ p ≤ t ∧ t < q ∧ q ≤ Q ∧ (∀ u, p ≤ u → u < q → f u = true) ∧ f (p - 1) = false ∧ f q = false := by
  have dn : ∀ n : Nat, t - P ≤ n → ∃ p, P < p ∧ p ≤ t ∧ (∀ u, p ≤ u → u ≤ t → f u = true) ∧ f (p - 1) = false := by
    intro n
    induction n generalizing P with
    | zero => intro hn; omega
    | succ n ih =>
      intro hn
      by_cases hc : ∃ u, P < u ∧ u < t ∧ f u = false
      · obtain ⟨u, g1, g2, g3⟩ := hc
        obtain ⟨p, k1, k2, k3, k4⟩ := ih g2 g3 (by omega)
        exact ⟨p, by omega, k2, k3, k4⟩
      · refine ⟨P + 1, by omega, by omega, fun u c1 c2 => ?_, by rw [show P + 1 - 1 = P by omega]; exact h1⟩
        by_cases e : u = t
        · rw [e]; exact h
        · cases e2 : f u
          · exact absurd ⟨u, by omega, by omega, e2⟩ hc
          · rfl
  have up : ∀ n : Nat, Q - t ≤ n → ∃ q, t < q ∧ q ≤ Q ∧ (∀ u, t ≤ u → u < q → f u = true) ∧ f q = false := by
    intro n
    induction n generalizing Q with
    | zero => intro hn; omega
    | succ n ih =>
      intro hn
      by_cases hc : ∃ u, t < u ∧ u < Q ∧ f u = false
      · obtain ⟨u, g1, g2, g3⟩ := hc
        obtain ⟨p, k1, k2, k3, k4⟩ := ih g1 g3 (by omega)
        exact ⟨p, k1, by omega, k3, k4⟩
      · refine ⟨Q, by omega, by omega, fun u c1 c2 => ?_, h2⟩
        by_cases e : u = t
        · rw [e]; exact h
        · cases e2 : f u
          · exact absurd ⟨u, by omega, by omega, e2⟩ hc
          · rfl
  obtain ⟨p, a1, a2, a3, a4⟩ := dn (t - P).toNat (by omega)
  obtain ⟨q, b1, b2, b3, b4⟩ := up (Q - t).toNat (by omega)
  refine ⟨p, q, a1, a2, b1, b2, fun u c1 c2 => ?_, a4, b4⟩
  by_cases e : u ≤ t
  · exact a3 u c1 e
  · exact b3 u (by omega) c2
theorem narrow_has {G : Gr} {d x y : Int} (h : hasG (shortG (allG G) d) x y = true) : ∃ v a p q, ShortC G v a p q d := by
  rw [narrow_iff] at h
  obtain ⟨hh, v, P, Q, h1, h2, h3, h4, h5⟩ := h
  cases v
  · obtain ⟨p, q, k1, k2, k3, k4, k5, k6, k7⟩ := run_around (f := lnG G false y) (t := x) (P := x + (P - 1)) (Q := x + Q) hh (by omega) (by omega) h4 h5
    exact ⟨false, y, p, q, by omega, by omega, k5, k6, k7⟩
  · obtain ⟨p, q, k1, k2, k3, k4, k5, k6, k7⟩ := run_around (f := lnG G true x) (t := y) (P := y + (P - 1)) (Q := y + Q) hh (by omega) (by omega) h4 h5
    exact ⟨true, x, p, q, by omega, by omega, k5, k6, k7⟩

end Go.Proofs.YtjiljodchebniaaGreat
