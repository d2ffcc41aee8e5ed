/- Plain law: the markers of the image of a set are the image of its markers; the image of a region. No conditions. Contracts: the program's runThrough on a set. Condition: the cell lies on the chip. Contract: the program's RegionContains. No conditions. Contracts: RunThrough of the reference and of the program. No conditions. Contracts: GapThrough of the reference and of the program. No conditions. Contracts: the reference's transforms: IsValidTransform, l01Turn, l01Move, l02Move, l03Moved, MoveRegion. Conditions: of the turns, an orientation in range and coordinates of at most 1000. Contracts: the reference's l03Moved and MoveRegion. No conditions of MoveRegion. -/
import Derived.Test.YtgegbgkokkdmpaaGreatQ24
import Derived.Test.YtgegbgkokkdmpaaGreatQ04
import Derived.Test.YtgegbgkokkdmpaaGreatQ01
import Derived.Test.YtgegbgkokkdmpaaGreatQ07
import Derived.Deep.RegionHeld3
import Derived.Test.YtgegbgkokkdmpaaGreatQ06
import Derived.Test.YtgegbgkokkdmpaaGreatQ08
import Derived.Deep.CutRange

namespace Go.Proofs.YtgegbgkokkdmpaaGreat

def Nar (f : Int → Bool) (d : Int) : Prop := ∃ p q : Int, p ≤ 0 ∧ 0 < q ∧ q - p < d ∧ f (p - 1) = false ∧ f q = false
def Clo (f : Int → Bool) (d : Int) : Prop := ∃ p q : Int, p ≤ 0 ∧ 0 < q ∧ q - p < d ∧ f (p - 1) = true ∧ f q = true
def Btn (f g : Int → Bool) (d : Int) : Prop := ∃ p q : Int, p ≤ 0 ∧ 0 < q ∧ q - p < d ∧ (∀ j, p ≤ j → j < q → f j = false ∧ g j = false) ∧ ((f (p - 1) = true ∧ g q = true) ∨ (g (p - 1) = true ∧ f q = true))
theorem nar_flip {f g : Int → Bool} (h : ∀ k, g k = f (-k)) {d : Int} (hn : Nar f d) : Nar g d := by
  obtain ⟨p, q, h1, h2, h3, h4, h5⟩ := hn
  refine ⟨1 - q, 1 - p, by omega, by omega, by omega, ?_, ?_⟩
  · rw [h, ← h5]; congr 1; omega
  · rw [h, ← h4]; congr 1; omega
theorem clo_flip {f g : Int → Bool} (h : ∀ k, g k = f (-k)) {d : Int} (hn : Clo f d) : Clo g d := by
  obtain ⟨p, q, h1, h2, h3, h4, h5⟩ := hn
  refine ⟨1 - q, 1 - p, by omega, by omega, by omega, ?_, ?_⟩
  · rw [h, ← h5]; congr 1; omega
  · rw [h, ← h4]; congr 1; omega
theorem btn_flip {f g f' g' : Int → Bool} (h : ∀ k, f' k = f (-k)) (h' : ∀ k, g' k = g (-k)) {d : Int} (hn : Btn f g d) : Btn f' g' d := by
  obtain ⟨p, q, h1, h2, h3, h4, h5⟩ := hn
  have e1 : -(1 - q - 1) = q := by omega
  have e2 : -(1 - p) = p - 1 := by omega
  refine ⟨1 - q, 1 - p, by omega, by omega, by omega, fun j j1 j2 => ?_, ?_⟩
  · rw [h, h']; exact h4 (-j) (by omega) (by omega)
  · rw [h, h, h', h', e1, e2]
    rcases h5 with ⟨a, b⟩ | ⟨a, b⟩
    · exact .inr ⟨b, a⟩
    · exact .inl ⟨b, a⟩
theorem nar_if {f g : Int → Bool} {b : Bool} (h : ∀ k, g k = f (if b = true then -k else k)) (d : Int) : Nar g d ↔ Nar f d := by
  cases b
  · simp only [Bool.false_eq_true, if_false] at h
    have e : g = f := funext h
    rw [e]
  · simp only [if_true] at h
    exact ⟨nar_flip fun k => by rw [h, Int.neg_neg], nar_flip h⟩
theorem clo_if {f g : Int → Bool} {b : Bool} (h : ∀ k, g k = f (if b = true then -k else k)) (d : Int) : Clo g d ↔ Clo f d := by
  cases b
  · simp only [Bool.false_eq_true, if_false] at h
    have e : g = f := funext h
    rw [e]
  · simp only [if_true] at h
    exact ⟨clo_flip fun k => by rw [h, Int.neg_neg], clo_flip h⟩
theorem btn_if {f g f' g' : Int → Bool} {b : Bool} (h : ∀ k, f' k = f (if b = true then -k else k)) (h' : ∀ k, g' k = g (if b = true then -k else k)) (d : Int) : Btn f' g' d ↔ Btn f g d := by
  cases b
  · simp only [Bool.false_eq_true, if_false] at h h'
    have e : f' = f := funext h
    have e' : g' = g := funext h'
    rw [e, e']
  · simp only [if_true] at h h'
    exact ⟨btn_flip (fun k => by rw [h, Int.neg_neg]) (fun k => by rw [h', Int.neg_neg]), btn_flip h h'⟩
theorem exists_dir {p q : Bool → Prop} (s : Bool) (h : ∀ v, p (v ^^ s) ↔ q v) : (∃ v, p v) ↔ ∃ v, q v := by
  constructor
  · rintro ⟨v, hv⟩
    refine ⟨v ^^ s, (h _).1 ?_⟩
    rw [Bool.xor_assoc, Bool.xor_self, Bool.xor_false]
    exact hv
  · rintro ⟨v, hv⟩
    exact ⟨_, (h v).2 hv⟩
section
variable {t : Tf} {G H A B : Gr} {d : Int}
theorem image_of {P Q : Gr} (h : ∀ x y, hasG Q (cellX t x y) (cellY t x y) = true ↔ hasG P x y = true) : Image t P Q := fun x y => by
  rw [Bool.eq_iff_iff]; exact h x y
theorem image_narrow (ht : 0 ≤ t.o ∧ t.o ≤ 7) (hI : Image t G H) : Image t (shortG (allG G) d) (shortG (allG H) d) := image_of fun x y => by
  obtain ⟨s, m, hm⟩ := image_dir ht
  rw [narrow_iff, narrow_iff]
  unfold NarrowC
  rw [hI x y]
  refine and_congr Iff.rfl ?_
  exact exists_dir (p := fun v => Nar (atG H v (cellX t x y) (cellY t x y)) d) (q := fun v => Nar (atG G v x y) d) s fun v => nar_if (fun k => hm v G H hI x y k) d
theorem image_close (ht : 0 ≤ t.o ∧ t.o ≤ 7) (hI : Image t G H) : Image t (shortG (allGaps G) d) (shortG (allGaps H) d) := image_of fun x y => by
  obtain ⟨s, m, hm⟩ := image_dir ht
  rw [close_iff, close_iff]
  unfold CloseC
  rw [hI x y]
  refine and_congr Iff.rfl ?_
  exact exists_dir (p := fun v => Clo (atG H v (cellX t x y) (cellY t x y)) d) (q := fun v => Clo (atG G v x y) d) s fun v => clo_if (fun k => hm v G H hI x y k) d
theorem image_btw {A' B' : Gr} (ht : 0 ≤ t.o ∧ t.o ≤ 7) (hA : Image t A A') (hB : Image t B B') : Image t (shortG (allBtw A B) d) (shortG (allBtw A' B') d) := image_of fun x y => by
  obtain ⟨s, m, hm⟩ := image_dir ht
  rw [btw_iff, btw_iff]
  unfold BtwC
  exact exists_dir (p := fun v => Btn (atG A' v (cellX t x y) (cellY t x y)) (atG B' v (cellX t x y) (cellY t x y)) d) (q := fun v => Btn (atG A v x y) (atG B v x y) d) s fun v => btn_if (fun k => hm v A A' hA x y k) (fun k => hm v B B' hB x y k) d
theorem image_union {A' B' : Gr} (hA : Image t A A') (hB : Image t B B') : Image t (unionG A B) (unionG A' B') := fun x y => by
  rw [hasG_union, hasG_union, hA x y, hB x y]
theorem hasG_inter (A B : Gr) (x y : Int) : hasG (interG A B) x y = (hasG A x y && hasG B x y) := by
  unfold hasG interG
  cases onC x y <;> simp
theorem image_inter {A' B' : Gr} (hA : Image t A A') (hB : Image t B B') : Image t (interG A B) (interG A' B') := fun x y => by
  rw [hasG_inter, hasG_inter, hA x y, hB x y]
theorem image_same {G' H' : Gr} (hI : Image t G H) (hG : sameG G G') (hH : sameG H H') : Image t G' H' := fun x y => by
  rw [← hasG_same hG, ← hasG_same hH, hI x y]
theorem image_congr {H' : Gr} (ht : 0 ≤ t.o ∧ t.o ≤ 7) (h1 : Image t G H) (h2 : Image t G H') : sameG H H' := fun i hi => by
  have hx : onC (((i % 80 : Nat) : Int) - 40) (((i / 80 : Nat) : Int) - 40) = true := by rw [onC_iff]; omega
  have hn : (ix (((i % 80 : Nat) : Int) - 40) (((i / 80 : Nat) : Int) - 40)).toNat = i := by unfold ix; omega
  obtain ⟨x, y, e1, e2⟩ := cell_onto ht (((i % 80 : Nat) : Int) - 40) (((i / 80 : Nat) : Int) - 40)
  have a := h1 x y
  have b := h2 x y
  rw [e1, e2, hasG_on hx, hn] at a b
  rw [a, b]
end
/-- The image of some rectangles, all of them on the chip. -/
theorem image_cells {t : Tf} (ht : 0 ≤ t.o ∧ t.o ≤ 7) {rs : List Rc} (hok : okAll rs = true) (hmv : okAll (rs.map (moveR t)) = true) : Image t (cellsG rs) (cellsG (rs.map (moveR t))) := image_of fun x y => by
  rw [hasG_cells hmv, hasG_cells hok]
  constructor
  · rintro ⟨r', hr', h⟩
    obtain ⟨r, hr, rfl⟩ := List.mem_map.1 hr'
    have hb := (okRc_iff r).1 (okAll_in hok hr)
    exact ⟨r, hr, (inRc_move ht (by omega) x y).1 h⟩
  · rintro ⟨r, hr, h⟩
    have hb := (okRc_iff r).1 (okAll_in hok hr)
    exact ⟨_, List.mem_map.2 ⟨r, hr, rfl⟩, (inRc_move ht (by omega) x y).2 h⟩
/-- Rectangles whose cells have an image on the chip. -/
theorem image_ok {t : Tf} (ht : 0 ≤ t.o ∧ t.o ≤ 7) {rs : List Rc} {H : Gr} (hok : okAll rs = true) (hI : Image t (cellsG rs) H) : okAll (rs.map (moveR t)) = true := by
  rw [okAll, List.all_eq_true]
  intro r' hr'
  obtain ⟨r, hr, rfl⟩ := List.mem_map.1 hr'
  have hb := (okRc_iff r).1 (okAll_in hok hr)
  have hs := move_size ht (r := r) (by omega)
  have key : ∀ u v, InRc (moveR t r) u v → onC u v = true := fun u v h => by
    obtain ⟨x, y, rfl, rfl⟩ := cell_onto ht u v
    have h1 := (inRc_move ht (r := r) (by omega) x y).1 h
    have h2 : hasG (cellsG rs) x y = true := (hasG_cells hok).2 ⟨r, hr, h1⟩
    rw [← hI x y] at h2
    exact (hasG_yes h2).1
  have k1 := key (moveR t r).x0 (moveR t r).y0 ⟨by omega, by omega, by omega, by omega⟩
  have k2 := key ((moveR t r).x1 - 1) ((moveR t r).y1 - 1) ⟨by omega, by omega, by omega, by omega⟩
  rw [onC_iff] at k1 k2
  rw [okRc_iff]
  omega
/-- The image of a region, none if a part of it leaves the chip. -/
def moveV (t : Tf) (rs : List Rc) : Option (List Rc) := if validT t = true ∧ isReg rs = true ∧ okAll (rs.map (moveR t)) = true then some (canon (cellsG (rs.map (moveR t)))) else none
theorem moveV_yes {t : Tf} {rs : List Rc} (h1 : validT t = true) (h2 : isReg rs = true) (h3 : okAll (rs.map (moveR t)) = true) : moveV t rs = some (canon (cellsG (rs.map (moveR t)))) := if_pos ⟨h1, h2, h3⟩
theorem moveV_is {t : Tf} {rs qs : List Rc} (h : moveV t rs = some qs) : validT t = true ∧ isReg rs = true ∧ qs = canon (cellsG (rs.map (moveR t))) ∧ Image t (cellsG rs) (cellsG qs) := by
  unfold moveV at h
  split at h
  · rename_i hc
    obtain ⟨h1, h2, h3⟩ := hc
    have ht := ((validT_iff t).1 h1).1
    injection h with h
    refine ⟨h1, h2, h.symm, ?_⟩
    rw [← h]
    exact image_same (image_cells ht (okAll_of_reg h2) h3) (fun _ _ => rfl) (fun i hi => (cells_canon _ i hi).symm)
  · cases h
/-- Markers with an image. -/
theorem moveV_marks {t : Tf} {M N : Gr} (h1 : validT t = true) (hI : Image t M N) : moveV t (canon M) = some (canon N) := by
  have ht := ((validT_iff t).1 h1).1
  have hI' : Image t (cellsG (canon M)) N := image_same hI (fun i hi => (cells_canon M i hi).symm) (fun _ _ => rfl)
  have hmv := image_ok ht (canon_ok M) hI'
  rw [moveV_yes h1 (isReg_canon M) hmv]
  exact congrArg some (canon_congr (image_congr ht (image_cells ht (canon_ok M) hmv) hI'))
theorem moveV_nil {t : Tf} (h1 : validT t = true) : moveV t [] = some [] := by
  have := moveV_marks (t := t) (M := emptyG) (N := emptyG) h1 (fun x y => by simp [hasG, emptyG])
  have e : canon emptyG = [] := (canon_nil_iff _).2 fun i _ => rfl
  rw [e] at this
  exact this
/-- The set of no cells has the image of no cells. -/
theorem image_nil {t : Tf} (ht : 0 ≤ t.o ∧ t.o ≤ 7) {G H : Gr} (hI : Image t G H) : canon G = [] ↔ canon H = [] := by
  rw [canon_nil_iff, canon_nil_iff]
  constructor
  · intro h i hi
    have hx : onC (((i % 80 : Nat) : Int) - 40) (((i / 80 : Nat) : Int) - 40) = true := by rw [onC_iff]; omega
    have hn : (ix (((i % 80 : Nat) : Int) - 40) (((i / 80 : Nat) : Int) - 40)).toNat = i := by unfold ix; omega
    obtain ⟨x, y, e1, e2⟩ := cell_onto ht (((i % 80 : Nat) : Int) - 40) (((i / 80 : Nat) : Int) - 40)
    have a := hI x y
    rw [e1, e2, hasG_on hx, hn] at a
    rw [a, Bool.eq_false_iff]
    intro hc
    obtain ⟨hc1, hc2⟩ := hasG_yes hc
    rw [h _ (onC_ix hc1)] at hc2
    cases hc2
  · intro h i hi
    have hx : onC (((i % 80 : Nat) : Int) - 40) (((i / 80 : Nat) : Int) - 40) = true := by rw [onC_iff]; omega
    have hn : (ix (((i % 80 : Nat) : Int) - 40) (((i / 80 : Nat) : Int) - 40)).toNat = i := by unfold ix; omega
    have a := hI (((i % 80 : Nat) : Int) - 40) (((i / 80 : Nat) : Int) - 40)
    rw [hasG_on hx, hn] at a
    rw [← a, Bool.eq_false_iff]
    intro hc
    obtain ⟨hc1, hc2⟩ := hasG_yes hc
    rw [h _ (onC_ix hc1)] at hc2
    cases hc2
/-- Lists of runs with the same markers at all lengths have the same shortest run. -/
theorem min_same {R S : List Rc} (hR : okAll R = true) (hS : okAll S = true) (h : ∀ d, canon (shortG R d) = [] ↔ canon (shortG S d) = []) : minA R = minA S := by
  have bR := minA_bounds hR
  have bS := minA_bounds hS
  have hR0 := min_zero hR
  have hS0 := min_zero hS
  have key := fun d => h d
  have lR := fun d => lim_iff (R := R) (d := d) hR
  have lS := fun d => lim_iff (R := S) (d := d) hS
  by_cases e : R = []
  · have := (lS 7000).1 ((key 7000).1 ((lR 7000).2 (.inl e)))
    rcases this with h1 | h1
    · rw [e, h1]
    · omega
  · by_cases e' : S = []
    · have := (lR 7000).1 ((key 7000).2 ((lS 7000).2 (.inl e')))
      rcases this with h1 | h1
      · exact absurd h1 e
      · omega
    · have h1 := (lS (minA R)).1 ((key _).1 ((lR (minA R)).2 (.inr (Int.le_refl _))))
      have h2 := (lR (minA S)).1 ((key _).2 ((lS (minA S)).2 (.inr (Int.le_refl _))))
      rcases h1 with h1 | h1
      · exact absurd h1 e'
      · rcases h2 with h2 | h2
        · exact absurd h2 e
        · omega
end Go.Proofs.YtgegbgkokkdmpaaGreat

namespace Go.Proofs.YtgegbgkokkdmpaaGreat
open Go.RowKit

/-- The number in a cell. -/
def cellI (w : World) (g i : Nat) : Int := match w.cell? ⟨g, i, none⟩ with | some v => intOf v | none => 0
theorem cellI_of {w : World} {g i : Nat} {n : Int} (h : w.cell? ⟨g, i, none⟩ = some (.int .i64 n)) : cellI w g i = n := by unfold cellI; rw [h]; rfl
theorem set2 {w : World} {b : Nat} {t : TypeId} {a0 a1 : Value} (h : Bk w b t #[a0, a1]) (x0 x1 : Value) : Bk ((w.setCell ⟨b, 0, none⟩ x0).setCell ⟨b, 1, none⟩ x1) b t #[x0, x1] := (h.store 0 x0).store 1 x1
theorem other2 {w : World} {g b : Nat} {t : TypeId} {cs : Array Value} (h : Bk w g t cs) (hne : g ≠ b) (x0 x1 : Value) : Bk ((w.setCell ⟨b, 0, none⟩ x0).setCell ⟨b, 1, none⟩ x1) g t cs := (h.other (p := ⟨b, 0, none⟩) hne x0).other (p := ⟨b, 1, none⟩) hne x1
theorem below2 {B b : Nat} {a w : World} (h : Below B a w) (hb : B ≤ b) (x0 x1 : Value) : Below B a ((w.setCell ⟨b, 0, none⟩ x0).setCell ⟨b, 1, none⟩ x1) := (h.setCell hb x0).setCell hb x1
theorem below4 {B b : Nat} {a w : World} (h : Below B a w) (hb : B ≤ b) (x0 x1 x2 x3 : Value) : Below B a ((((w.setCell ⟨b, 0, none⟩ x0).setCell ⟨b, 1, none⟩ x1).setCell ⟨b, 2, none⟩ x2).setCell ⟨b, 3, none⟩ x3) := (((h.setCell hb x0).setCell hb x1).setCell hb x2).setCell hb x3
theorem set4of {w : World} {b : Nat} {t : TypeId} {a0 a1 a2 a3 : Value} (h : Bk w b t #[a0, a1, a2, a3]) (x0 x1 x2 x3 : Value) :
    (w.setCell ⟨b, 0, none⟩ x0).cell? ⟨b, 0, none⟩ = some x0 ∧ ((w.setCell ⟨b, 0, none⟩ x0).setCell ⟨b, 1, none⟩ x1).cell? ⟨b, 1, none⟩ = some x1 ∧
    (((w.setCell ⟨b, 0, none⟩ x0).setCell ⟨b, 1, none⟩ x1).setCell ⟨b, 2, none⟩ x2).cell? ⟨b, 2, none⟩ = some x2 ∧
    ((((w.setCell ⟨b, 0, none⟩ x0).setCell ⟨b, 1, none⟩ x1).setCell ⟨b, 2, none⟩ x2).setCell ⟨b, 3, none⟩ x3).cell? ⟨b, 3, none⟩ = some x3 :=
  ⟨(h.store 0 x0).cell 0, ((h.store 0 x0).store 1 x1).cell 1, (((h.store 0 x0).store 1 x1).store 2 x2).cell 2, ((((h.store 0 x0).store 1 x1).store 2 x2).store 3 x3).cell 3⟩

end Go.Proofs.YtgegbgkokkdmpaaGreat

namespace Go.Proofs.YtgegbgkokkdmpaaGreat
open Go.RowKit

/-- A valid rectangle has the cell (x, y). -/
def containsR (x y : Int) (r : Rc) : Bool := okRc r && decide (r.x0 ≤ x ∧ x < r.x1 ∧ r.y0 ≤ y ∧ y < r.y1)
theorem contains_no {x y : Int} {r : Rc} (h : okRc r = false) : containsR x y r = false := by unfold containsR; rw [h]; rfl
theorem contains_yes {x y : Int} {r : Rc} (h : okRc r = true) : containsR x y r = decide (r.x0 ≤ x ∧ x < r.x1 ∧ r.y0 ≤ y ∧ y < r.y1) := by unfold containsR; rw [h]; rfl
theorem inR_ix {r : Rc} {x y : Int} (hc : onC x y = true) : inR r (ix x y).toNat = decide (r.x0 ≤ x ∧ x < r.x1 ∧ r.y0 ≤ y ∧ y < r.y1) := by
  have h := (onC_iff x y).1 hc
  obtain ⟨e, _⟩ := ix_nat hc
  rw [Bool.eq_iff_iff, inR_iff, decide_eq_true_iff, e]
  have e1 : ((y + 40).toNat * 80 + (x + 40).toNat) / 80 = (y + 40).toNat ∧ ((y + 40).toNat * 80 + (x + 40).toNat) % 80 = (x + 40).toNat := by omega
  rw [e1.1, e1.2]
  omega
theorem any_contains {rs : List Rc} (hok : okAll rs = true) (x y : Int) : rs.any (containsR x y) = hasG (cellsG rs) x y := by
  rw [okAll, List.all_eq_true] at hok
  by_cases hc : onC x y = true
  · rw [hasG_on hc, Bool.eq_iff_iff]
    unfold cellsG
    rw [List.any_eq_true, List.any_eq_true]
    constructor
    · rintro ⟨r, hr, h⟩
      rw [contains_yes (hok r hr), ← inR_ix hc] at h
      exact ⟨r, hr, h⟩
    · rintro ⟨r, hr, h⟩
      refine ⟨r, hr, ?_⟩
      rw [contains_yes (hok r hr), ← inR_ix hc]
      exact h
  · have hc' : onC x y = false := by simpa using hc
    rw [hasG_off hc', Bool.eq_false_iff]
    intro h
    rw [List.any_eq_true] at h
    obtain ⟨r, hr, h⟩ := h
    rw [contains_yes (hok r hr), decide_eq_true_iff] at h
    have h2 := (okRc_iff r).1 (hok r hr)
    exact hc ((onC_iff x y).2 (by omega))

theorem any_first {α : Type} {p : α → Bool} {l : List α} {k : Nat} {a : α} (h : l[k]? = some a) (hp : p a = true) : (l.drop k).any p = true := by
  rw [List.any_eq_true]
  obtain ⟨hk, he⟩ := List.getElem?_eq_some_iff.1 h
  exact ⟨a, by rw [List.drop_eq_getElem_cons hk, he]; simp, hp⟩
theorem any_next {α : Type} {p : α → Bool} {l : List α} {k : Nat} {a : α} (h : l[k]? = some a) (hp : p a = false) : (l.drop k).any p = (l.drop (k + 1)).any p := by
  obtain ⟨hk, he⟩ := List.getElem?_eq_some_iff.1 h
  rw [List.drop_eq_getElem_cons hk, he, List.any_cons, hp, Bool.false_or]
theorem any_last {α : Type} {p : α → Bool} {l : List α} {k : Nat} (h : l.length ≤ k) : (l.drop k).any p = false := by rw [List.drop_eq_nil_of_le h]; rfl

end Go.Proofs.YtgegbgkokkdmpaaGreat

namespace Go.Proofs.YtgegbgkokkdmpaaGreat
open Go.RowKit

/-- The run through a cell. -/
def rtV (rs : List Rc) (x y : Int) (vert : Bool) : Option Rc := if isReg rs = true ∧ hasG (cellsG rs) x y = true then some (runR (cellsG rs) x y vert) else none
theorem rtV_yes {rs : List Rc} {x y : Int} {vert : Bool} (h : isReg rs = true) (hc : hasG (cellsG rs) x y = true) : rtV rs x y vert = some (runR (cellsG rs) x y vert) := if_pos ⟨h, hc⟩
theorem rtV_no1 {rs : List Rc} {x y : Int} {vert : Bool} (h : isReg rs = false) : rtV rs x y vert = none := if_neg (by rw [h]; simp)
theorem rtV_no2 {rs : List Rc} {x y : Int} {vert : Bool} (h : hasG (cellsG rs) x y = false) : rtV rs x y vert = none := if_neg (by rw [h]; simp)

end Go.Proofs.YtgegbgkokkdmpaaGreat

namespace Go.Proofs.YtgegbgkokkdmpaaGreat
open Go.RowKit

/-- The gap through a cell. -/
def gtV (rs : List Rc) (x y : Int) (vert : Bool) : Option Rc := if isReg rs = true ∧ hasG (notG (cellsG rs)) x y = true then some (runR (notG (cellsG rs)) x y vert) else none
theorem gtV_yes {rs : List Rc} {x y : Int} {vert : Bool} (h : isReg rs = true) (hc : hasG (notG (cellsG rs)) x y = true) : gtV rs x y vert = some (runR (notG (cellsG rs)) x y vert) := if_pos ⟨h, hc⟩
theorem gtV_no1 {rs : List Rc} {x y : Int} {vert : Bool} (h : isReg rs = false) : gtV rs x y vert = none := if_neg (by rw [h]; simp)
theorem gtV_no2 {rs : List Rc} {x y : Int} {vert : Bool} (h : hasG (notG (cellsG rs)) x y = false) : gtV rs x y vert = none := if_neg (by rw [h]; simp)

end Go.Proofs.YtgegbgkokkdmpaaGreat

namespace Go.Proofs.YtgegbgkokkdmpaaGreat
open Go.RowKit

def rotX : Nat → Int → Int → Int
  | 0, x, _ => x
  | k + 1, x, y => rotX k (-y) x
def rotY : Nat → Int → Int → Int
  | 0, _, y => y
  | k + 1, x, y => rotY k (-y) x
theorem rot_turn {o : Int} (h : 0 ≤ o ∧ o ≤ 7) (x y : Int) : ∃ m : Nat, m ≤ 3 ∧ o % 4 = (m : Int) ∧ o.tmod 4 = (m : Int) ∧ ((4 ≤ o ∧ rotX m x (-y) = turnX o x y ∧ rotY m x (-y) = turnY o x y) ∨ (o < 4 ∧ rotX m x y = turnX o x y ∧ rotY m x y = turnY o x y)) := by
  rcases eight h with rfl | rfl | rfl | rfl | rfl | rfl | rfl | rfl
  · exact ⟨0, by decide, by decide, by decide, .inr ⟨by decide, rfl, rfl⟩⟩
  · exact ⟨1, by decide, by decide, by decide, .inr ⟨by decide, rfl, rfl⟩⟩
  · exact ⟨2, by decide, by decide, by decide, .inr ⟨by decide, rfl, rfl⟩⟩
  · exact ⟨3, by decide, by decide, by decide, .inr ⟨by decide, by simp [rotX, turnX], rfl⟩⟩
  · exact ⟨0, by decide, by decide, by decide, .inl ⟨by decide, rfl, rfl⟩⟩
  · exact ⟨1, by decide, by decide, by decide, .inl ⟨by decide, by simp [rotX, turnX], rfl⟩⟩
  · exact ⟨2, by decide, by decide, by decide, .inl ⟨by decide, rfl, by simp [rotY, turnY]⟩⟩
  · exact ⟨3, by decide, by decide, by decide, .inl ⟨by decide, by simp [rotX, turnX], by simp [rotY, turnY]⟩⟩
theorem turn_bounds {o x y : Int} (h : (-5000 ≤ x ∧ x ≤ 5000) ∧ (-5000 ≤ y ∧ y ≤ 5000)) : (-5000 ≤ turnX o x y ∧ turnX o x y ≤ 5000) ∧ (-5000 ≤ turnY o x y ∧ turnY o x y ≤ 5000) := by
  unfold turnX turnY
  constructor <;> (repeat' split) <;> omega

def Tf.val (t : Tf) : Value := .agg #[.int .i64 t.o, .int .i64 t.x, .int .i64 t.y]
def Tf.small (t : Tf) : Prop := (0 ≤ t.o ∧ t.o ≤ 7) ∧ (-5000 ≤ t.x ∧ t.x ≤ 5000) ∧ (-5000 ≤ t.y ∧ t.y ≤ 5000)
theorem validT_small {t : Tf} (h : validT t = true) : t.small := by
  have := (validT_iff t).1 h
  unfold Tf.small
  omega

end Go.Proofs.YtgegbgkokkdmpaaGreat

namespace Go.Proofs.YtgegbgkokkdmpaaGreat
open Go.RowKit

theorem set4b {w : World} {b : Nat} {t : TypeId} {a0 a1 a2 a3 : Value} (h : Bk w b t #[a0, a1, a2, a3]) (x0 x1 x2 x3 : Value) : Bk ((((w.setCell ⟨b, 0, none⟩ x0).setCell ⟨b, 1, none⟩ x1).setCell ⟨b, 2, none⟩ x2).setCell ⟨b, 3, none⟩ x3) b t #[x0, x1, x2, x3] := (((h.store 0 x0).store 1 x1).store 2 x2).store 3 x3
/-- The images so far are all on the chip. -/
theorem moved_yes {t : Tf} {rs : List Rc} {k : Nat} {r : Rc} (h : okAll ((rs.take k).map (moveR t)) = true) (hr : rs[k]? = some r) (hok : okRc (moveR t r) = true) : okAll ((rs.take (k + 1)).map (moveR t)) = true ∧ (rs.take (k + 1)).map (moveR t) = (rs.take k).map (moveR t) ++ [moveR t r] := by
  have e : (rs.take (k + 1)).map (moveR t) = (rs.take k).map (moveR t) ++ [moveR t r] := by
    rw [List.take_add_one, hr, Option.toList, List.map_append, List.map_cons, List.map_nil]
  refine ⟨?_, e⟩
  rw [e]
  exact okAll_append h (by simp [okAll, hok])
theorem moved_no {t : Tf} {rs : List Rc} {k : Nat} {r : Rc} (hr : rs[k]? = some r) (hok : okRc (moveR t r) = false) : okAll (rs.map (moveR t)) = false := by
  rw [Bool.eq_false_iff]
  intro h
  have := okAll_in h (List.mem_map.2 ⟨r, List.mem_of_getElem? hr, rfl⟩)
  rw [this] at hok
  cases hok
def movedV (mt : Rc → Rc) (rs : List Rc) : List Rc := if okAll (rs.map mt) = true then canon (cellsG (rs.map mt)) else []
theorem movedV_yes {mt : Rc → Rc} {rs : List Rc} (h : okAll (rs.map mt) = true) : movedV mt rs = canon (cellsG (rs.map mt)) := if_pos h
theorem movedV_no {mt : Rc → Rc} {rs : List Rc} (h : okAll (rs.map mt) = false) : movedV mt rs = [] := if_neg (by rw [h]; simp)

end Go.Proofs.YtgegbgkokkdmpaaGreat
