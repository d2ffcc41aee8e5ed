/- Plain law: what near cells decide; the image of grown sets, of components, of a rule's markers under a turn and a move. No program in sight. -/
import Derived.Test.YtbljapihmkmolaaGreatTurn2
import Derived.Test.YtbljapihmkmolaaGreatLawC
import Derived.Test.YtbljapihmkmolaaGreatRm
namespace Go.Proofs.YtbljapihmkmolaaGreat

/-- Two sets agree on the cells at a distance of at most k. -/
def AgreeN (G H : Gr) (x y k : Int) : Prop := ∀ u v, x - k ≤ u → u ≤ x + k → y - k ≤ v → v ≤ y + k → hasG G u v = hasG H u v
theorem agree_at {G H : Gr} {x y k : Int} (h : AgreeN G H x y k) (_hk : 0 ≤ k) (v : Bool) {j : Int} (h1 : -k ≤ j) (h2 : j ≤ k) : atG G v x y j = atG H v x y j := by
  unfold atG
  cases v
  · simp only [Bool.false_eq_true, if_false]
    exact h _ _ (by omega) (by omega) (by omega) (by omega)
  · simp only [if_true]
    exact h _ _ (by omega) (by omega) (by omega) (by omega)
theorem agree_symm {G H : Gr} {x y k : Int} (h : AgreeN G H x y k) : AgreeN H G x y k := fun u v a b c d => (h u v a b c d).symm
theorem agree_here {G H : Gr} {x y k : Int} (h : AgreeN G H x y k) (hk : 0 ≤ k) : hasG G x y = hasG H x y := h x y (by omega) (by omega) (by omega) (by omega)
theorem narrow_near {G H : Gr} {x y d : Int} (h : AgreeN G H x y d) (hd : 1 ≤ d) (hn : NarrowC G d x y) : NarrowC H d x y := by
  obtain ⟨h0, v, p, q, h1, h2, h3, h4, h5⟩ := hn
  refine ⟨by rw [← agree_here h (by omega)]; exact h0, v, p, q, h1, h2, h3, ?_, ?_⟩
  · rw [← agree_at h (by omega) v (by omega) (by omega)]; exact h4
  · rw [← agree_at h (by omega) v (by omega) (by omega)]; exact h5
theorem close_near {G H : Gr} {x y d : Int} (h : AgreeN G H x y d) (hd : 1 ≤ d) (hn : CloseC G d x y) : CloseC H d x y := by
  obtain ⟨h0, v, p, q, h1, h2, h3, h4, h5⟩ := hn
  refine ⟨by rw [← agree_here h (by omega)]; exact h0, v, p, q, h1, h2, h3, ?_, ?_⟩
  · rw [← agree_at h (by omega) v (by omega) (by omega)]; exact h4
  · rw [← agree_at h (by omega) v (by omega) (by omega)]; exact h5
theorem btw_near {A B A' B' : Gr} {x y d : Int} (hA : AgreeN A A' x y d) (hB : AgreeN B B' x y d) (hd : 1 ≤ d) (hn : BtwC A B d x y) : BtwC A' B' d x y := by
  obtain ⟨v, p, q, h1, h2, h3, h4, h5⟩ := hn
  refine ⟨v, p, q, h1, h2, h3, fun j j1 j2 => ?_, ?_⟩
  · rw [← agree_at hA (by omega) v (by omega) (by omega), ← agree_at hB (by omega) v (by omega) (by omega)]
    exact h4 j j1 j2
  · rw [← agree_at hA (by omega) v (by omega) (by omega), ← agree_at hB (by omega) v (by omega) (by omega), ← agree_at hA (by omega) v (by omega) (by omega), ← agree_at hB (by omega) v (by omega) (by omega)]
    exact h5
/-- A cell of the set lies within k cells. -/
def GrownC (P : Gr) (k x y : Int) : Prop := ∃ u v, x - k ≤ u ∧ u ≤ x + k ∧ y - k ≤ v ∧ v ≤ y + k ∧ hasG P u v = true
theorem grown_near {G H : Gr} {x y k : Int} (h : AgreeN G H x y k) (hn : GrownC G k x y) : GrownC H k x y := by
  obtain ⟨u, v, a, b, c, d, hG⟩ := hn
  exact ⟨u, v, a, b, c, d, by rw [← h u v a b c d]; exact hG⟩
theorem grown_cell {rs : List Rc} (hok : okAll rs = true) {k x y : Int} (hk : 0 ≤ k) : hasG (grownG rs k) x y = true ↔ onC x y = true ∧ GrownC (cellsG rs) k x y := by
  constructor
  · intro h
    obtain ⟨hc, h⟩ := hasG_yes h
    refine ⟨hc, ?_⟩
    obtain ⟨r, hr, hin⟩ := (grown_iff _ _ _).1 h
    have hin := (inRc_ix hc).1 hin
    have hb := (okRc_iff r).1 (okAll_in hok hr)
    unfold InRc growR at hin
    dsimp only at hin
    refine ⟨max r.x0 (min x (r.x1 - 1)), max r.y0 (min y (r.y1 - 1)), by omega, by omega, by omega, by omega, (hasG_cells hok).2 ⟨r, hr, ?_⟩⟩
    unfold InRc
    omega
  · rintro ⟨hc, u, v, a, b, c, d, hG⟩
    obtain ⟨r, hr, hin⟩ := (hasG_cells hok).1 hG
    rw [hasG_on hc]
    refine (grown_iff _ _ _).2 ⟨r, hr, (inRc_ix hc).2 ?_⟩
    unfold InRc at hin ⊢
    unfold growR
    dsimp only
    omega
theorem hasG_diff (A B : Gr) (x y : Int) : hasG (diffG A B) x y = (hasG A x y && !hasG B x y) := by
  unfold hasG diffG
  cases onC x y <;> simp

/-! ## Enclosure of the image -/
theorem cheb {t : Tf} (ht : 0 ≤ t.o ∧ t.o ≤ 7) (x y u v k : Int) : (cellX t x y - k ≤ cellX t u v ∧ cellX t u v ≤ cellX t x y + k ∧ cellY t x y - k ≤ cellY t u v ∧ cellY t u v ≤ cellY t x y + k) ↔ (x - k ≤ u ∧ u ≤ x + k ∧ y - k ≤ v ∧ v ≤ y + k) := by
  obtain ⟨o, a, b⟩ := t
  unfold cellX cellY moveX moveY turnX turnY
  rcases eight ht with h | h | h | h | h | h | h | h <;> (dsimp only at h ht ⊢; subst h; simp only [reduceIte, Int.reduceEq]; omega)
theorem image_grown {t : Tf} (ht : 0 ≤ t.o ∧ t.o ≤ 7) {G H : Gr} (hI : Image t G H) (k x y : Int) : GrownC H k (cellX t x y) (cellY t x y) ↔ GrownC G k x y := by
  constructor
  · rintro ⟨u', v', a, b, c, d, h⟩
    obtain ⟨u, v, rfl, rfl⟩ := cell_onto ht u' v'
    obtain ⟨a, b, c, d⟩ := (cheb ht x y u v k).1 ⟨a, b, c, d⟩
    exact ⟨u, v, a, b, c, d, by rw [← hI u v]; exact h⟩
  · rintro ⟨u, v, a, b, c, d, h⟩
    obtain ⟨a, b, c, d⟩ := (cheb ht x y u v k).2 ⟨a, b, c, d⟩
    exact ⟨_, _, a, b, c, d, by rw [hI u v]; exact h⟩
/-- All cells keep ten cells from the border. -/
def InnerG (G : Gr) : Prop := ∀ x y, hasG G x y = true → -30 ≤ x ∧ x ≤ 29 ∧ -30 ≤ y ∧ y ≤ 29
theorem inner_list {rs : List Rc} (hok : okAll rs = true) (h : ∀ r ∈ rs, -30 ≤ r.x0 ∧ -30 ≤ r.y0 ∧ r.x1 ≤ 30 ∧ r.y1 ≤ 30) : InnerG (cellsG rs) := fun x y hxy => by
  obtain ⟨r, hr, hin⟩ := (hasG_cells hok).1 hxy
  have := h r hr
  unfold InRc at hin
  omega
theorem grown_inner {rs : List Rc} (hok : okAll rs = true) (hi : InnerG (cellsG rs)) {k x y : Int} (hk : 0 ≤ k ∧ k ≤ 8) : hasG (grownG rs k) x y = true ↔ GrownC (cellsG rs) k x y := by
  rw [grown_cell hok hk.1]
  refine ⟨fun h => h.2, fun h => ⟨?_, h⟩⟩
  obtain ⟨u, v, a, b, c, d, h⟩ := h
  have := hi u v h
  rw [onC_iff]; omega
theorem image_enc {t : Tf} (ht : 0 ≤ t.o ∧ t.o ≤ 7) {rs qs rs' qs' : List Rc} (h1 : okAll rs = true) (h2 : okAll rs' = true) (hi : InnerG (cellsG rs)) (hi' : InnerG (cellsG rs')) (hI : Image t (cellsG rs) (cellsG rs')) (hJ : Image t (cellsG qs) (cellsG qs')) {k : Int} (hk : 0 ≤ k ∧ k ≤ 8) :
    Image t (diffG (grownG rs k) (cellsG qs)) (diffG (grownG rs' k) (cellsG qs')) := fun x y => by
  have e : hasG (grownG rs' k) (cellX t x y) (cellY t x y) = hasG (grownG rs k) x y := by
    rw [Bool.eq_iff_iff, grown_inner h1 hi hk, grown_inner h2 hi' hk, image_grown ht hI]
  rw [hasG_diff, hasG_diff, e, hJ x y]

/-! ## Components -/
theorem subset_length {α : Type} : ∀ (l m : List α), l.Nodup → (∀ a ∈ l, a ∈ m) → l.length ≤ m.length
  | [], m, _, _ => Nat.zero_le _
  | a :: l, m, hn, hs => by
    rw [List.nodup_cons] at hn
    obtain ⟨m1, m2, rfl⟩ := List.append_of_mem (hs a (by simp))
    have := subset_length l (m1 ++ m2) hn.2 fun b hb => by
      have h1 := hs b (by simp [hb])
      have hne : b ≠ a := fun e => hn.1 (e ▸ hb)
      simp only [List.mem_append, List.mem_cons] at h1 ⊢
      rcases h1 with h1 | h1 | h1
      · exact .inl h1
      · exact absurd h1 hne
      · exact .inr h1
    simp only [List.length_append, List.length_cons] at this ⊢
    omega
def cellsL (G : Gr) (n : Nat) : List Nat := (List.range n).filter G
theorem flatC_cells (G : Gr) : ∀ n : Nat, flatC G n = ((cellsL G n).length : Int)
  | 0 => rfl
  | n + 1 => by
    unfold cellsL
    rw [List.range_succ, List.filter_append, List.length_append]
    have ih := flatC_cells G n
    unfold cellsL at ih
    by_cases h : G n = true
    · rw [flatC_yes h, ih, List.filter_cons, if_pos h]; simp
    · have h' : G n = false := by simpa using h
      rw [flatC_no h', ih, List.filter_cons, if_neg h]; simp
theorem count_cells (G : Gr) : countG G = ((cellsL G 6400).length : Int) := by rw [← flatC_all, flatC_cells]
theorem cellsL_mem {G : Gr} {i : Nat} : i ∈ cellsL G 6400 ↔ i < 6400 ∧ G i = true := by unfold cellsL; rw [List.mem_filter, List.mem_range]
theorem cellsL_nodup (G : Gr) : (cellsL G 6400).Nodup := List.nodup_range.sublist List.filter_sublist
theorem nodup_map {α β : Type} {f : α → β} : ∀ {l : List α}, (∀ a ∈ l, ∀ b ∈ l, f a = f b → a = b) → l.Nodup → (l.map f).Nodup
  | [], _, _ => List.nodup_nil
  | a :: l, hf, hn => by
    rw [List.nodup_cons] at hn
    rw [List.map_cons, List.nodup_cons]
    refine ⟨fun hm => ?_, nodup_map (fun x hx y hy => hf x (by simp [hx]) y (by simp [hy])) hn.2⟩
    obtain ⟨b, hb, e⟩ := List.mem_map.1 hm
    exact hn.1 (hf b (by simp [hb]) a (by simp) e ▸ hb)
/-- An injection of the cells of one set into those of another. -/
theorem count_le {P Q : Gr} (f : Nat → Nat) (h : ∀ i, i < 6400 → P i = true → f i < 6400 ∧ Q (f i) = true) (hf : ∀ i j, i < 6400 → j < 6400 → P i = true → P j = true → f i = f j → i = j) : countG P ≤ countG Q := by
  rw [count_cells, count_cells]
  have := subset_length ((cellsL P 6400).map f) (cellsL Q 6400) (nodup_map (fun a ha b hb => by
    rw [cellsL_mem] at ha hb
    exact hf a b ha.1 hb.1 ha.2 hb.2) (cellsL_nodup P)) fun a ha => by
      obtain ⟨b, hb, rfl⟩ := List.mem_map.1 ha
      rw [cellsL_mem] at hb ⊢
      exact h b hb.1 hb.2
  rw [List.length_map] at this
  omega
def cx (i : Nat) : Int := ((i % 80 : Nat) : Int) - 40
def cy (i : Nat) : Int := ((i / 80 : Nat) : Int) - 40
theorem ix_c {i : Nat} : (ix (cx i) (cy i)).toNat = i := by unfold ix cx cy; omega
theorem onC_c {i : Nat} (hi : i < 6400) : onC (cx i) (cy i) = true := by rw [onC_iff]; unfold cx cy; omega
theorem hasG_c {G : Gr} {i : Nat} (hi : i < 6400) : hasG G (cx i) (cy i) = G i := by rw [hasG_on (onC_c hi), ix_c]
theorem c_ix {x y : Int} (hc : onC x y = true) : cx (ix x y).toNat = x ∧ cy (ix x y).toNat = y := by
  rw [onC_iff] at hc
  unfold cx cy ix; omega
theorem cell_inj {t : Tf} (ht : 0 ≤ t.o ∧ t.o ≤ 7) {x y u v : Int} (h1 : cellX t x y = cellX t u v) (h2 : cellY t x y = cellY t u v) : x = u ∧ y = v := by
  have := (cheb ht x y u v 0).1 ⟨by omega, by omega, by omega, by omega⟩
  omega
/-- The image of a set has as many cells. -/
theorem image_count {t : Tf} (ht : 0 ≤ t.o ∧ t.o ≤ 7) {P Q : Gr} (hI : Image t P Q) : countG P = countG Q := by
  have on1 : ∀ i, i < 6400 → P i = true → onC (cellX t (cx i) (cy i)) (cellY t (cx i) (cy i)) = true ∧ Q (ix (cellX t (cx i) (cy i)) (cellY t (cx i) (cy i))).toNat = true := fun i hi hP => by
    have := hI (cx i) (cy i)
    rw [hasG_c hi, hP] at this
    exact hasG_yes this
  have key : ∀ j, j < 6400 → Q j = true → ∃ i, i < 6400 ∧ P i = true ∧ cellX t (cx i) (cy i) = cx j ∧ cellY t (cx i) (cy i) = cy j := fun j hj hQ => by
    obtain ⟨x, y, e1, e2⟩ := cell_onto ht (cx j) (cy j)
    have := hI x y
    rw [e1, e2, hasG_c hj, hQ] at this
    obtain ⟨hc, hP⟩ := hasG_yes this.symm
    obtain ⟨d1, d2⟩ := c_ix hc
    exact ⟨_, onC_ix hc, hP, by rw [d1, d2]; exact e1, by rw [d1, d2]; exact e2⟩
  refine Int.le_antisymm ?_ ?_
  · refine count_le (fun i => (ix (cellX t (cx i) (cy i)) (cellY t (cx i) (cy i))).toNat) (fun i hi hP => ?_) (fun i j hi hj hP hPj e => ?_)
    · obtain ⟨h1, h2⟩ := on1 i hi hP
      exact ⟨onC_ix h1, h2⟩
    · obtain ⟨h1, _⟩ := on1 i hi hP
      obtain ⟨h2, _⟩ := on1 j hj hPj
      have a1 := c_ix h1
      have a2 := c_ix h2
      rw [e] at a1
      obtain ⟨g1, g2⟩ := cell_inj ht (a1.1.symm.trans a2.1) (a1.2.symm.trans a2.2)
      rw [← ix_c (i := i), ← ix_c (i := j), g1, g2]
  · have hg : ∀ j, ∃ i, (j < 6400 → Q j = true → i < 6400 ∧ P i = true ∧ cellX t (cx i) (cy i) = cx j ∧ cellY t (cx i) (cy i) = cy j) := fun j => by
      by_cases hj : j < 6400
      · by_cases hQ : Q j = true
        · obtain ⟨i, hi⟩ := key j hj hQ
          exact ⟨i, fun _ _ => hi⟩
        · exact ⟨0, fun _ h => absurd h hQ⟩
      · exact ⟨0, fun h => absurd h hj⟩
    obtain ⟨f, hf⟩ := Classical.axiomOfChoice hg
    refine count_le f (fun j hj hQ => ⟨(hf j hj hQ).1, (hf j hj hQ).2.1⟩) (fun i j hi hj hQi hQj e => ?_)
    obtain ⟨_, _, a1, a2⟩ := hf i hi hQi
    obtain ⟨_, _, b1, b2⟩ := hf j hj hQj
    rw [e] at a1 a2
    rw [← ix_c (i := i), ← ix_c (i := j), ← a1, ← a2, ← b1, ← b2]

/-! ## Components of the image -/
theorem comp_eq {L : Gr} {i j : Nat} (hi : i < 6400) (hL : L i = true) (h : Reach L i j) : compG L i = compG L j := by
  funext m
  rw [Bool.eq_iff_iff, compG_iff, compG_iff]
  exact ⟨fun k => reach_trans (reach_symm hi hL h) k, fun k => reach_trans h k⟩
/-- Without a component the others are as they were. -/
theorem comp_left {L : Gr} {i j : Nat} (_hi : i < 6400) (_hL : L i = true) (hj : minusG L (compG L i) j = true) (hj6 : j < 6400) : compG (minusG L (compG L i)) j = compG L j := by
  have hm : ∀ k, minusG L (compG L i) k = true ↔ L k = true ∧ ¬ Reach L i k := fun k => by
    unfold minusG
    rw [Bool.and_eq_true, Bool.not_eq_true', ← Bool.not_eq_true, compG_iff]
  obtain ⟨hLj, hn⟩ := (hm j).1 hj
  funext m
  rw [Bool.eq_iff_iff, compG_iff, compG_iff]
  constructor
  · intro h
    exact reach_ind (p := fun m => Reach L j m) (reach_start L j) (fun a b ha hab hb hG => reach_step ha hab hb ((hm b).1 hG).1) h
  · intro h
    have key : Reach (minusG L (compG L i)) j m ∧ Reach L j m := reach_ind (p := fun m => Reach (minusG L (compG L i)) j m ∧ Reach L j m) ⟨reach_start _ j, reach_start L j⟩ (fun a b ha hab hb hG => by
      have hr := reach_step ha.2 hab hb hG
      exact ⟨reach_step ha.1 hab hb ((hm b).2 ⟨hG, fun hib => hn (reach_trans hib (reach_symm hj6 hLj hr))⟩), hr⟩) h
    exact key.1
theorem compsF_comp : ∀ (n i : Nat) (L : Gr), 6400 - i ≤ n → ∀ P ∈ compsF L i, ∀ j, j < 6400 → P j = true → P = compG L j
  | 0, i, L, hn, P, hP, j, hj, h => by rw [compsF_end (by omega)] at hP; cases hP
  | n + 1, i, L, hn, P, hP, j, hj, h => by
    by_cases hi : i < 6400
    · by_cases hL : L i = true
      · rw [compsF_yes hi hL] at hP
        rcases List.mem_cons.1 hP with rfl | hP
        · exact comp_eq hi hL ((compG_iff L i j).1 h)
        · have ih := compsF_comp n (i + 1) _ (by omega) P hP j hj h
          have hin := (comps_in n (i + 1) _ (by omega) P hP j h).2
          rw [ih, comp_left hi hL hin hj]
      · rw [compsF_no hi (by simpa using hL)] at hP
        exact compsF_comp n (i + 1) L (by omega) P hP j hj h
    · rw [compsF_end (by omega)] at hP; cases hP
/-- A cell is in a small component. -/
theorem small_cell {G : Gr} {d : Int} {j : Nat} (hj : j < 6400) : smallG d (comps G) j = true ↔ G j = true ∧ countG (compG G j) < d := by
  rw [smallG_iff]
  constructor
  · rintro ⟨P, hP, hc, h⟩
    have e := compsF_comp 6400 0 G (by omega) P hP j hj h
    exact ⟨(comps_in 6400 0 G (by omega) P hP j h).2, by rw [← e]; exact hc⟩
  · rintro ⟨hG, hc⟩
    obtain ⟨P, hP, h⟩ := (comps_cover G hj).1 hG
    have e := compsF_comp 6400 0 G (by omega) P hP j hj h
    exact ⟨P, hP, by rw [e]; exact hc, h⟩
/-- Cells with a common side. -/
def SideC (x y u v : Int) : Prop := (x = u ∧ (y + 1 = v ∨ v + 1 = y)) ∨ (y = v ∧ (x + 1 = u ∨ u + 1 = x))
theorem nbr_side {i j : Nat} (h : nbr i j) : SideC (cx i) (cy i) (cx j) (cy j) := by
  unfold nbr at h
  unfold SideC cx cy
  omega
theorem side_nbr {x y u v : Int} (h1 : onC x y = true) (h2 : onC u v = true) (h : SideC x y u v) : nbr (ix x y).toNat (ix u v).toNat := by
  rw [onC_iff] at h1 h2
  unfold SideC at h
  unfold nbr ix
  omega
theorem side_image {t : Tf} (ht : 0 ≤ t.o ∧ t.o ≤ 7) (x y u v : Int) : SideC (cellX t x y) (cellY t x y) (cellX t u v) (cellY t u v) ↔ SideC x y u v := by
  obtain ⟨o, a, b⟩ := t
  unfold SideC cellX cellY moveX moveY turnX turnY
  rcases eight ht with h | h | h | h | h | h | h | h <;> (dsimp only at h ht ⊢; subst h; simp only [reduceIte, Int.reduceEq]; omega)
theorem image_comp {t : Tf} (ht : 0 ≤ t.o ∧ t.o ≤ 7) {G H : Gr} (hI : Image t G H) {x y : Int} (h : hasG G x y = true) : Image t (compG G (ix x y).toNat) (compG H (ix (cellX t x y) (cellY t x y)).toNat) := image_of fun u v => by
  have hH : hasG H (cellX t x y) (cellY t x y) = true := by rw [hI]; exact h
  obtain ⟨c1, g1⟩ := hasG_yes h
  obtain ⟨c2, g2⟩ := hasG_yes hH
  constructor
  · intro hq
    obtain ⟨c4, q4⟩ := hasG_yes hq
    rw [compG_iff] at q4
    have key : ∀ a b, cellX t a b = cx (ix (cellX t u v) (cellY t u v)).toNat → cellY t a b = cy (ix (cellX t u v) (cellY t u v)).toNat → onC a b = true ∧ Reach G (ix x y).toNat (ix a b).toNat := by
      refine reach_ind (p := fun m => ∀ a b, cellX t a b = cx m → cellY t a b = cy m → onC a b = true ∧ Reach G (ix x y).toNat (ix a b).toNat) ?_ ?_ q4
      · intro a b e1 e2
        obtain ⟨d1, d2⟩ := c_ix c2
        obtain ⟨rfl, rfl⟩ := cell_inj ht (e1.trans d1) (e2.trans d2)
        exact ⟨c1, reach_start _ _⟩
      · intro p q hp hpq hq6 hHq a b e1 e2
        obtain ⟨a', b', e3, e4⟩ := cell_onto ht (cx p) (cy p)
        obtain ⟨on', hr⟩ := hp a' b' e3 e4
        have hs := nbr_side hpq
        rw [← e1, ← e2, ← e3, ← e4, side_image ht] at hs
        have hG : hasG G a b = true := by rw [← hI a b, e1, e2, hasG_c hq6]; exact hHq
        obtain ⟨on, gq⟩ := hasG_yes hG
        exact ⟨on, reach_step hr (side_nbr on' on hs) (onC_ix on) gq⟩
    obtain ⟨d1, d2⟩ := c_ix c4
    obtain ⟨on, hr⟩ := key u v d1.symm d2.symm
    rw [hasG_on on, compG_iff]
    exact hr
  · intro hq
    obtain ⟨c4, q4⟩ := hasG_yes hq
    rw [compG_iff] at q4
    have key : onC (cellX t (cx (ix u v).toNat) (cy (ix u v).toNat)) (cellY t (cx (ix u v).toNat) (cy (ix u v).toNat)) = true ∧ Reach H (ix (cellX t x y) (cellY t x y)).toNat (ix (cellX t (cx (ix u v).toNat) (cy (ix u v).toNat)) (cellY t (cx (ix u v).toNat) (cy (ix u v).toNat))).toNat := by
      refine reach_ind (p := fun m => onC (cellX t (cx m) (cy m)) (cellY t (cx m) (cy m)) = true ∧ Reach H (ix (cellX t x y) (cellY t x y)).toNat (ix (cellX t (cx m) (cy m)) (cellY t (cx m) (cy m))).toNat) ?_ ?_ q4
      · obtain ⟨d1, d2⟩ := c_ix c1
        rw [d1, d2]
        exact ⟨c2, reach_start _ _⟩
      · intro p q hp hpq hq6 hGq
        have hs := (side_image ht (cx p) (cy p) (cx q) (cy q)).2 (nbr_side hpq)
        have hH : hasG H (cellX t (cx q) (cy q)) (cellY t (cx q) (cy q)) = true := by rw [hI, hasG_c hq6]; exact hGq
        obtain ⟨on, gq⟩ := hasG_yes hH
        exact ⟨on, reach_step hp.2 (side_nbr hp.1 on hs) (onC_ix on) gq⟩
    obtain ⟨d1, d2⟩ := c_ix c4
    rw [d1, d2] at key
    rw [hasG_on key.1, compG_iff]
    exact key.2
theorem image_small {t : Tf} (ht : 0 ≤ t.o ∧ t.o ≤ 7) {G H : Gr} (hI : Image t G H) (d : Int) : Image t (smallG d (comps G)) (smallG d (comps H)) := image_of fun x y => by
  have aux : ∀ (K : Gr) (a b : Int), hasG (smallG d (comps K)) a b = true ↔ hasG K a b = true ∧ countG (compG K (ix a b).toNat) < d := fun K a b => by
    constructor
    · intro h
      obtain ⟨c, g⟩ := hasG_yes h
      obtain ⟨g1, g2⟩ := (small_cell (onC_ix c)).1 g
      exact ⟨by rw [hasG_on c]; exact g1, g2⟩
    · rintro ⟨h, hc⟩
      obtain ⟨c, g⟩ := hasG_yes h
      rw [hasG_on c]
      exact (small_cell (onC_ix c)).2 ⟨g, hc⟩
  rw [aux, aux, hI x y]
  constructor
  · rintro ⟨h, hc⟩
    exact ⟨h, by rw [image_count ht (image_comp ht hI h)]; exact hc⟩
  · rintro ⟨h, hc⟩
    exact ⟨h, by rw [← image_count ht (image_comp ht hI h)]; exact hc⟩

/-! ## A rule's markers in the image of a layout -/
/-- All cells of the list lie ten cells from the border. -/
def innerL (rs : List Rc) : Prop := ∀ r ∈ rs, -30 ≤ r.x0 ∧ -30 ≤ r.y0 ∧ r.x1 ≤ 30 ∧ r.y1 ≤ 30
structure Moved (t : Tf) (rss rss' : List (List Rc)) : Prop where
  len : rss.length = 8
  len' : rss'.length = 8
  each : ∀ (k : Nat) (rs rs' : List Rc), rss[k]? = some rs → rss'[k]? = some rs' → moveV t rs = some rs' ∧ innerL rs ∧ innerL rs'
section
variable {t : Tf} {rss rss' : List (List Rc)}
theorem Moved.at_ (h : Moved t rss rss') {l : Int} (h0 : 0 ≤ l) (h7 : l ≤ 7) : moveV t (layAt rss l) = some (layAt rss' l) ∧ innerL (layAt rss l) ∧ innerL (layAt rss' l) := by
  obtain ⟨k, rfl⟩ : ∃ k : Nat, l = k := ⟨l.toNat, by omega⟩
  have a := h.len
  have b := h.len'
  have e1 : rss[k]? = some (layAt rss (k : Int)) := by unfold layAt; rw [Int.toNat_natCast, List.getD_eq_getElem?_getD, List.getElem?_eq_getElem (by omega)]; rfl
  have e2 : rss'[k]? = some (layAt rss' (k : Int)) := by unfold layAt; rw [Int.toNat_natCast, List.getD_eq_getElem?_getD, List.getElem?_eq_getElem (by omega)]; rfl
  exact h.each k _ _ e1 e2
theorem moved_reg {rs qs : List Rc} (h : moveV t rs = some qs) : isReg rs = true ∧ isReg qs = true := by
  obtain ⟨_, h2, e, _⟩ := moveV_is h
  exact ⟨h2, by rw [e]; exact isReg_canon _⟩
theorem Moved.lay (h : Moved t rss rss') : layB rss = true ∧ layB rss' = true := by
  rw [layB_iff, layB_iff]
  refine ⟨⟨h.len, fun rs hr => ?_⟩, ⟨h.len', fun rs hr => ?_⟩⟩
  · obtain ⟨k, hk, e⟩ := List.mem_iff_getElem.1 hr
    have hk' : k < rss'.length := by rw [h.len']; rw [h.len] at hk; exact hk
    exact (moved_reg (h.each k rs _ (by rw [List.getElem?_eq_getElem hk, e]) (List.getElem?_eq_getElem hk')).1).1
  · obtain ⟨k, hk, e⟩ := List.mem_iff_getElem.1 hr
    have hk' : k < rss.length := by rw [h.len]; rw [h.len'] at hk; exact hk
    exact (moved_reg (h.each k _ rs (List.getElem?_eq_getElem hk') (by rw [List.getElem?_eq_getElem hk, e])).1).2
/-- The markers of the image are the image of the markers. -/
theorem moved_rule (h : Moved t rss rss') (ht : validT t = true) (r : Ru) (h5 : r.k ≠ 5) : moveV t (rmV rss r) = some (rmV rss' r) := by
  obtain ⟨l1, l2⟩ := h.lay
  cases hr : ruleB r with
  | false => rw [rmV_no2 hr, rmV_no2 hr]; exact moveV_nil ht
  | true =>
  rw [rmV_yes l1 hr, rmV_yes l2 hr]
  obtain ⟨f1, f2, f3⟩ := rule_facts hr
  have h8 := ((validT_iff t).1 ht).1
  obtain ⟨m1, i1, j1⟩ := h.at_ f2.1 f2.2
  obtain ⟨m2, i2, j2⟩ := h.at_ f3.1 f3.2
  obtain ⟨_, r1, _, I1⟩ := moveV_is m1
  obtain ⟨_, r2, _, I2⟩ := moveV_is m2
  have q1 := (moved_reg m1).2
  have q2 := (moved_reg m2).2
  have hv : valueB r.k r.v = true := by
    unfold ruleB at hr
    simp only [Bool.and_eq_true] at hr
    exact hr.1.1.2
  obtain ⟨k, l, o, v, p⟩ := r
  dsimp only at f1 f2 f3 h5 hv m1 m2 i1 i2 j1 j2 r1 r2 q1 q2 I1 I2
  have hk : k = 0 ∨ k = 1 ∨ k = 2 ∨ k = 3 ∨ k = 4 := by omega
  rcases hk with rfl | rfl | rfl | rfl | rfl
  · have hv' : inB 1 v 8 = true := hv
    rw [ruleM_0, ruleM_0, markV_yes (by rw [chkV_of r1]; exact hv'), markV_yes (by rw [chkV_of q1]; exact hv')]
    exact moveV_marks ht (image_narrow h8 I1)
  · have hv' : inB 1 v 8 = true := hv
    rw [ruleM_1, ruleM_1, markgV_yes (by rw [chkV_of r1]; exact hv'), markgV_yes (by rw [chkV_of q1]; exact hv')]
    exact moveV_marks ht (image_close h8 I1)
  · have hv' : inB 1 v 8 = true := hv
    rw [ruleM_2, ruleM_2]
    unfold mkbV
    rw [if_pos (by rw [r1, r2, hv']; rfl), if_pos (by rw [q1, q2, hv']; rfl)]
    exact moveV_marks ht (image_union (image_btw h8 I1 I2) (image_inter I1 I2))
  · have hv' : inB 1 v 8 = true := hv
    have hv0 := (inB_iff _ _ _).1 hv'
    rw [ruleM_3, ruleM_3, encV_yes r1 r2 ((inB_iff _ _ _).2 (by omega)), encV_yes q1 q2 ((inB_iff _ _ _).2 (by omega))]
    exact moveV_marks ht (image_enc h8 (okAll_of_reg r1) (okAll_of_reg q1) (inner_list (okAll_of_reg r1) i1) (inner_list (okAll_of_reg q1) j1) I1 I2 (by omega))
  · have hv' := (inB_iff _ _ _).1 (show inB 1 v 6400 = true from hv)
    rw [ruleM_4, ruleM_4, areaMV_yes r1 hv'.1 hv'.2, areaMV_yes q1 hv'.1 hv'.2]
    exact moveV_marks ht (image_small h8 I1 v)
end

end Go.Proofs.YtbljapihmkmolaaGreat
