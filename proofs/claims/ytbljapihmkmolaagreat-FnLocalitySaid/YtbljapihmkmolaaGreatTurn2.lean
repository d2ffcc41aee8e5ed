/- Plain law: the markers of the image of a set are the image of its markers; the image of a region. No conditions. -/
import Derived.Test.YtbljapihmkmolaaGreatTurn
namespace Go.Proofs.YtbljapihmkmolaaGreat

def Nar (f : Int → Bool) (d : Int) : Prop := ∃ p q : Int, p ≤ 0 ∧ 0 < q ∧ q - p < d ∧ f (p - 1) = false ∧ f q = false
def Clo (f : Int → Bool) (d : Int) : Prop := ∃ p q : Int, p ≤ 0 ∧ 0 < q ∧ q - p < d ∧ f (p - 1) = true ∧ f q = true
def Btn (f g : Int → Bool) (d : Int) : Prop := ∃ p q : Int, p ≤ 0 ∧ 0 < q ∧ q - p < d ∧ (∀ j, p ≤ j → j < q → f j = false ∧ g j = false) ∧ ((f (p - 1) = true ∧ g q = true) ∨ (g (p - 1) = true ∧ f q = true))
theorem nar_flip {f g : Int → Bool} (h : ∀ k, g k = f (-k)) {d : Int} (hn : Nar f d) : Nar g d := by
  obtain ⟨p, q, h1, h2, h3, h4, h5⟩ := hn
  refine ⟨1 - q, 1 - p, by omega, by omega, by omega, ?_, ?_⟩
  · rw [h, ← h5]; congr 1; omega
  · rw [h, ← h4]; congr 1; omega
theorem clo_flip {f g : Int → Bool} (h : ∀ k, g k = f (-k)) {d : Int} (hn : Clo f d) : Clo g d := by
  obtain ⟨p, q, h1, h2, h3, h4, h5⟩ := hn
  refine ⟨1 - q, 1 - p, by omega, by omega, by omega, ?_, ?_⟩
  · rw [h, ← h5]; congr 1; omega
  · rw [h, ← h4]; congr 1; omega
theorem btn_flip {f g f' g' : Int → Bool} (h : ∀ k, f' k = f (-k)) (h' : ∀ k, g' k = g (-k)) {d : Int} (hn : Btn f g d) : Btn f' g' d := by
  obtain ⟨p, q, h1, h2, h3, h4, h5⟩ := hn
  have e1 : -(1 - q - 1) = q := by omega
  have e2 : -(1 - p) = p - 1 := by omega
  refine ⟨1 - q, 1 - p, by omega, by omega, by omega, fun j j1 j2 => ?_, ?_⟩
  · rw [h, h']; exact h4 (-j) (by omega) (by omega)
  · rw [h, h, h', h', e1, e2]
    rcases h5 with ⟨a, b⟩ | ⟨a, b⟩
    · exact .inr ⟨b, a⟩
    · exact .inl ⟨b, a⟩
theorem nar_if {f g : Int → Bool} {b : Bool} (h : ∀ k, g k = f (if b = true then -k else k)) (d : Int) : Nar g d ↔ Nar f d := by
  cases b
  · simp only [Bool.false_eq_true, if_false] at h
    have e : g = f := funext h
    rw [e]
  · simp only [if_true] at h
    exact ⟨nar_flip fun k => by rw [h, Int.neg_neg], nar_flip h⟩
theorem clo_if {f g : Int → Bool} {b : Bool} (h : ∀ k, g k = f (if b = true then -k else k)) (d : Int) : Clo g d ↔ Clo f d := by
  cases b
  · simp only [Bool.false_eq_true, if_false] at h
    have e : g = f := funext h
    rw [e]
  · simp only [if_true] at h
    exact ⟨clo_flip fun k => by rw [h, Int.neg_neg], clo_flip h⟩
theorem btn_if {f g f' g' : Int → Bool} {b : Bool} (h : ∀ k, f' k = f (if b = true then -k else k)) (h' : ∀ k, g' k = g (if b = true then -k else k)) (d : Int) : Btn f' g' d ↔ Btn f g d := by
  cases b
  · simp only [Bool.false_eq_true, if_false] at h h'
    have e : f' = f := funext h
    have e' : g' = g := funext h'
    rw [e, e']
  · simp only [if_true] at h h'
    exact ⟨btn_flip (fun k => by rw [h, Int.neg_neg]) (fun k => by rw [h', Int.neg_neg]), btn_flip h h'⟩
theorem exists_dir {p q : Bool → Prop} (s : Bool) (h : ∀ v, p (v ^^ s) ↔ q v) : (∃ v, p v) ↔ ∃ v, q v := by
  constructor
  · rintro ⟨v, hv⟩
    refine ⟨v ^^ s, (h _).1 ?_⟩
    rw [Bool.xor_assoc, Bool.xor_self, Bool.xor_false]
    exact hv
  · rintro ⟨v, hv⟩
    exact ⟨_, (h v).2 hv⟩
section
variable {t : Tf} {G H A B : Gr} {d : Int}
theorem image_of {P Q : Gr} (h : ∀ x y, hasG Q (cellX t x y) (cellY t x y) = true ↔ hasG P x y = true) : Image t P Q := fun x y => by
  rw [Bool.eq_iff_iff]; exact h x y
theorem image_narrow (ht : 0 ≤ t.o ∧ t.o ≤ 7) (hI : Image t G H) : Image t (shortG (allG G) d) (shortG (allG H) d) := image_of fun x y => by
  obtain ⟨s, m, hm⟩ := image_dir ht
  rw [narrow_iff, narrow_iff]
  unfold NarrowC
  rw [hI x y]
  refine and_congr Iff.rfl ?_
  exact exists_dir (p := fun v => Nar (atG H v (cellX t x y) (cellY t x y)) d) (q := fun v => Nar (atG G v x y) d) s fun v => nar_if (fun k => hm v G H hI x y k) d
theorem image_close (ht : 0 ≤ t.o ∧ t.o ≤ 7) (hI : Image t G H) : Image t (shortG (allGaps G) d) (shortG (allGaps H) d) := image_of fun x y => by
  obtain ⟨s, m, hm⟩ := image_dir ht
  rw [close_iff, close_iff]
  unfold CloseC
  rw [hI x y]
  refine and_congr Iff.rfl ?_
  exact exists_dir (p := fun v => Clo (atG H v (cellX t x y) (cellY t x y)) d) (q := fun v => Clo (atG G v x y) d) s fun v => clo_if (fun k => hm v G H hI x y k) d
theorem image_btw {A' B' : Gr} (ht : 0 ≤ t.o ∧ t.o ≤ 7) (hA : Image t A A') (hB : Image t B B') : Image t (shortG (allBtw A B) d) (shortG (allBtw A' B') d) := image_of fun x y => by
  obtain ⟨s, m, hm⟩ := image_dir ht
  rw [btw_iff, btw_iff]
  unfold BtwC
  exact exists_dir (p := fun v => Btn (atG A' v (cellX t x y) (cellY t x y)) (atG B' v (cellX t x y) (cellY t x y)) d) (q := fun v => Btn (atG A v x y) (atG B v x y) d) s fun v => btn_if (fun k => hm v A A' hA x y k) (fun k => hm v B B' hB x y k) d
theorem image_union {A' B' : Gr} (hA : Image t A A') (hB : Image t B B') : Image t (unionG A B) (unionG A' B') := fun x y => by
  rw [hasG_union, hasG_union, hA x y, hB x y]
theorem hasG_inter (A B : Gr) (x y : Int) : hasG (interG A B) x y = (hasG A x y && hasG B x y) := by
  unfold hasG interG
  cases onC x y <;> simp
theorem image_inter {A' B' : Gr} (hA : Image t A A') (hB : Image t B B') : Image t (interG A B) (interG A' B') := fun x y => by
  rw [hasG_inter, hasG_inter, hA x y, hB x y]
theorem image_same {G' H' : Gr} (hI : Image t G H) (hG : sameG G G') (hH : sameG H H') : Image t G' H' := fun x y => by
  rw [← hasG_same hG, ← hasG_same hH, hI x y]
theorem image_congr {H' : Gr} (ht : 0 ≤ t.o ∧ t.o ≤ 7) (h1 : Image t G H) (h2 : Image t G H') : sameG H H' := fun i hi => by
  have hx : onC (((i % 80 : Nat) : Int) - 40) (((i / 80 : Nat) : Int) - 40) = true := by rw [onC_iff]; omega
  have hn : (ix (((i % 80 : Nat) : Int) - 40) (((i / 80 : Nat) : Int) - 40)).toNat = i := by unfold ix; omega
  obtain ⟨x, y, e1, e2⟩ := cell_onto ht (((i % 80 : Nat) : Int) - 40) (((i / 80 : Nat) : Int) - 40)
  have a := h1 x y
  have b := h2 x y
  rw [e1, e2, hasG_on hx, hn] at a b
  rw [a, b]
end
/-- The image of some rectangles, all of them on the chip. -/
theorem image_cells {t : Tf} (ht : 0 ≤ t.o ∧ t.o ≤ 7) {rs : List Rc} (hok : okAll rs = true) (hmv : okAll (rs.map (moveR t)) = true) : Image t (cellsG rs) (cellsG (rs.map (moveR t))) := image_of fun x y => by
  rw [hasG_cells hmv, hasG_cells hok]
  constructor
  · rintro ⟨r', hr', h⟩
    obtain ⟨r, hr, rfl⟩ := List.mem_map.1 hr'
    have hb := (okRc_iff r).1 (okAll_in hok hr)
    exact ⟨r, hr, (inRc_move ht (by omega) x y).1 h⟩
  · rintro ⟨r, hr, h⟩
    have hb := (okRc_iff r).1 (okAll_in hok hr)
    exact ⟨_, List.mem_map.2 ⟨r, hr, rfl⟩, (inRc_move ht (by omega) x y).2 h⟩
/-- Rectangles whose cells have an image on the chip. -/
theorem image_ok {t : Tf} (ht : 0 ≤ t.o ∧ t.o ≤ 7) {rs : List Rc} {H : Gr} (hok : okAll rs = true) (hI : Image t (cellsG rs) H) : okAll (rs.map (moveR t)) = true := by
  rw [okAll, List.all_eq_true]
  intro r' hr'
  obtain ⟨r, hr, rfl⟩ := List.mem_map.1 hr'
  have hb := (okRc_iff r).1 (okAll_in hok hr)
  have hs := move_size ht (r := r) (by omega)
  have key : ∀ u v, InRc (moveR t r) u v → onC u v = true := fun u v h => by
    obtain ⟨x, y, rfl, rfl⟩ := cell_onto ht u v
    have h1 := (inRc_move ht (r := r) (by omega) x y).1 h
    have h2 : hasG (cellsG rs) x y = true := (hasG_cells hok).2 ⟨r, hr, h1⟩
    rw [← hI x y] at h2
    exact (hasG_yes h2).1
  have k1 := key (moveR t r).x0 (moveR t r).y0 ⟨by omega, by omega, by omega, by omega⟩
  have k2 := key ((moveR t r).x1 - 1) ((moveR t r).y1 - 1) ⟨by omega, by omega, by omega, by omega⟩
  rw [onC_iff] at k1 k2
  rw [okRc_iff]
  omega
/-- The image of a region, none if a part of it leaves the chip. -/
def moveV (t : Tf) (rs : List Rc) : Option (List Rc) := if validT t = true ∧ isReg rs = true ∧ okAll (rs.map (moveR t)) = true then some (canon (cellsG (rs.map (moveR t)))) else none
theorem moveV_yes {t : Tf} {rs : List Rc} (h1 : validT t = true) (h2 : isReg rs = true) (h3 : okAll (rs.map (moveR t)) = true) : moveV t rs = some (canon (cellsG (rs.map (moveR t)))) := if_pos ⟨h1, h2, h3⟩
theorem moveV_is {t : Tf} {rs qs : List Rc} (h : moveV t rs = some qs) : validT t = true ∧ isReg rs = true ∧ qs = canon (cellsG (rs.map (moveR t))) ∧ Image t (cellsG rs) (cellsG qs) := by
  unfold moveV at h
  split at h
  · rename_i hc
    obtain ⟨h1, h2, h3⟩ := hc
    have ht := ((validT_iff t).1 h1).1
    injection h with h
    refine ⟨h1, h2, h.symm, ?_⟩
    rw [← h]
    exact image_same (image_cells ht (okAll_of_reg h2) h3) (fun _ _ => rfl) (fun i hi => (cells_canon _ i hi).symm)
  · cases h
/-- Markers with an image. -/
theorem moveV_marks {t : Tf} {M N : Gr} (h1 : validT t = true) (hI : Image t M N) : moveV t (canon M) = some (canon N) := by
  have ht := ((validT_iff t).1 h1).1
  have hI' : Image t (cellsG (canon M)) N := image_same hI (fun i hi => (cells_canon M i hi).symm) (fun _ _ => rfl)
  have hmv := image_ok ht (canon_ok M) hI'
  rw [moveV_yes h1 (isReg_canon M) hmv]
  exact congrArg some (canon_congr (image_congr ht (image_cells ht (canon_ok M) hmv) hI'))
theorem moveV_nil {t : Tf} (h1 : validT t = true) : moveV t [] = some [] := by
  have := moveV_marks (t := t) (M := emptyG) (N := emptyG) h1 (fun x y => by simp [hasG, emptyG])
  have e : canon emptyG = [] := (canon_nil_iff _).2 fun i _ => rfl
  rw [e] at this
  exact this
/-- The set of no cells has the image of no cells. -/
theorem image_nil {t : Tf} (ht : 0 ≤ t.o ∧ t.o ≤ 7) {G H : Gr} (hI : Image t G H) : canon G = [] ↔ canon H = [] := by
  rw [canon_nil_iff, canon_nil_iff]
  constructor
  · intro h i hi
    have hx : onC (((i % 80 : Nat) : Int) - 40) (((i / 80 : Nat) : Int) - 40) = true := by rw [onC_iff]; omega
    have hn : (ix (((i % 80 : Nat) : Int) - 40) (((i / 80 : Nat) : Int) - 40)).toNat = i := by unfold ix; omega
    obtain ⟨x, y, e1, e2⟩ := cell_onto ht (((i % 80 : Nat) : Int) - 40) (((i / 80 : Nat) : Int) - 40)
    have a := hI x y
    rw [e1, e2, hasG_on hx, hn] at a
    rw [a, Bool.eq_false_iff]
    intro hc
    obtain ⟨hc1, hc2⟩ := hasG_yes hc
    rw [h _ (onC_ix hc1)] at hc2
    cases hc2
  · intro h i hi
    have hx : onC (((i % 80 : Nat) : Int) - 40) (((i / 80 : Nat) : Int) - 40) = true := by rw [onC_iff]; omega
    have hn : (ix (((i % 80 : Nat) : Int) - 40) (((i / 80 : Nat) : Int) - 40)).toNat = i := by unfold ix; omega
    have a := hI (((i % 80 : Nat) : Int) - 40) (((i / 80 : Nat) : Int) - 40)
    rw [hasG_on hx, hn] at a
    rw [← a, Bool.eq_false_iff]
    intro hc
    obtain ⟨hc1, hc2⟩ := hasG_yes hc
    rw [h _ (onC_ix hc1)] at hc2
    cases hc2
/-- Lists of runs with the same markers at all lengths have the same shortest run. -/
theorem min_same {R S : List Rc} (hR : okAll R = true) (hS : okAll S = true) (h : ∀ d, canon (shortG R d) = [] ↔ canon (shortG S d) = []) : minA R = minA S := by
  have bR := minA_bounds hR
  have bS := minA_bounds hS
  have hR0 := min_zero hR
  have hS0 := min_zero hS
  have key := fun d => h d
  have lR := fun d => lim_iff (R := R) (d := d) hR
  have lS := fun d => lim_iff (R := S) (d := d) hS
  by_cases e : R = []
  · have := (lS 7000).1 ((key 7000).1 ((lR 7000).2 (.inl e)))
    rcases this with h1 | h1
    · rw [e, h1]
    · omega
  · by_cases e' : S = []
    · have := (lR 7000).1 ((key 7000).2 ((lS 7000).2 (.inl e')))
      rcases this with h1 | h1
      · exact absurd h1 e
      · omega
    · have h1 := (lS (minA R)).1 ((key _).1 ((lR (minA R)).2 (.inr (Int.le_refl _))))
      have h2 := (lR (minA S)).1 ((key _).2 ((lS (minA S)).2 (.inr (Int.le_refl _))))
      rcases h1 with h1 | h1
      · exact absurd h1 e'
      · rcases h2 with h2 | h2
        · exact absurd h2 e
        · omega
end Go.Proofs.YtbljapihmkmolaaGreat
