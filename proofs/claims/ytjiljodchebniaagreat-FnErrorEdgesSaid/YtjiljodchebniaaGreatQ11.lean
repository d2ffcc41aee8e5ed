/- Contracts: the program's step, runs over the closures of boundary. Conditions: a set of cells in memory. Contracts: the reference's small operations on sets: l19Count, l19Or, l18Meet. No conditions. Plain law: whole components stay whole; reports: when a list of violations is one, by the reference's rule and by the program's. No conditions. Plain law: each component of a set is closed under neighbours within the set. No conditions. -/
import Derived.Test.YtjiljodchebniaaGreatQ10
import Derived.Deep.RegionHeld3
import Derived.Test.YtjiljodchebniaaGreatQ01
import Derived.Test.YtjiljodchebniaaGreatQ06
import Derived.Test.YtjiljodchebniaaGreatQ04

namespace Go.Proofs.YtjiljodchebniaaGreat
open Go.RowKit

set_option maxHeartbeats 400000 in
/-- step. -/
theorem step_any (a b : Bool) (w : World) : Calls Tryz.prog 66 #[.bool a, .bool b] w fun e w' => e = .returned (.int .i64 (stp a b)) ∧ w = w' := by
  go_enter Tryz.func66, Tryz.ntmps66
  cases a <;> cases b
  all_goals
    go_wp2
    go_ret
    exact ⟨rfl, rfl⟩

/-- The state of boundary: the boxes of its set, its line, its list. -/
structure BS (w W : World) (cb lb ob g : Nat) (G : Gr) (line : Int) (v : Value) (es : List Ed) : Prop where
  cbx : Bk W cb 60 #[.pointer (some ⟨g, 0, none⟩)]
  lbx : Bk W lb 2 #[.int .i64 line]
  obx : Bk W ob 41 #[v]
  row : EL W w.heap.size v es
  gb : GB W g 89 G
  bel : Below w.heap.size w W
  hg : g < w.heap.size
  hob : w.heap.size ≤ ob
section
variable {w W W' : World} {cb lb ob g : Nat} {G : Gr} {line : Int} {v : Value} {es : List Ed}
theorem BS.on (h : BS w W cb lb ob g G line v es) (hb : Below W.heap.size W W') : BS w W' cb lb ob g G line v es :=
  ⟨h.cbx.on hb, h.lbx.on hb, h.obx.on hb, h.row.on hb, h.gb.on hb, h.bel.trans (hb.mono h.bel.size), h.hg, h.hob⟩
theorem bk_not {w : World} {B g s n : Nat} {t e : TypeId} {cs : Array Value} {v : Value} {xs : List Value} (hr : w.ownsRow B e s v n xs) (hb : Bk w g t cs) (ht : t ≠ e) : (some g : Option Nat) ≠ v.ownBlock := by
  intro h
  rcases hr.2 with ⟨rfl, _⟩ | ⟨g', cap, cur, rfl, _, hh, _⟩
  · simp [Value.ownBlock] at h
  · simp [Value.ownBlock] at h
    subst h
    unfold Bk at hb
    rw [hb] at hh
    simp only [Option.some.injEq, Obj.cells.injEq] at hh
    exact ht hh.2.1
theorem bk_two {w : World} {a b : Nat} {t t' : TypeId} {cs cs' : Array Value} (h : Bk w a t cs) (h' : Bk w b t' cs') (ht : t ≠ t') : a ≠ b := by
  rintro rfl
  unfold Bk at h h'
  rw [h] at h'
  simp only [Option.some.injEq, Obj.cells.injEq] at h'
  exact ht h'.2.1
/-- The list has grown and is stored. -/
theorem BS.grow {v' : Value} {es' : List Ed} (h : BS w W cb lb ob g G line v es) (hr : EL W' w.heap.size v' es') (hg : W.grownBy W' v.ownBlock) : BS w (W'.setCell ⟨ob, 0, none⟩ v') cb lb ob g G line v' es' := by
  have hgw := h.hg
  have hob := h.hob
  have c1 := h.cbx.grown hg (bk_not h.row h.cbx (by decide))
  have l1 := h.lbx.grown hg (bk_not h.row h.lbx (by decide))
  have o1 := h.obx.grown hg (bk_not h.row h.obx (by decide))
  have hlt : ∀ q, v.ownBlock = some q → w.heap.size ≤ q := fun q hq => (World.ownsRow.lt h.row q hq).1
  have g1 := h.gb.grown hg (fun e => by have := hlt g e.symm; omega)
  have b1 := h.bel.grown hg h.bel.size hlt
  refine ⟨c1.other (p := ⟨ob, 0, none⟩) (bk_two c1 o1 (by decide)) _, l1.other (p := ⟨ob, 0, none⟩) (bk_two l1 o1 (by decide)) _, ?_, own_other hr (fun e => bk_not hr o1 (by decide) e.symm) _, g1.other (p := ⟨ob, 0, none⟩) (by dsimp only; omega) _, b1.setCell (p := ⟨ob, 0, none⟩) hob _, hgw, hob⟩
  have := o1.store 0 v'
  simpa using this
end

end Go.Proofs.YtjiljodchebniaaGreat

namespace Go.Proofs.YtjiljodchebniaaGreat
open Go.RowKit

theorem ret_intS {a b : Int} (h : a = b) : Ending.returned (.int .i64 a) = .returned (.int .i64 b) := by rw [h]
/-- Two sets have a common cell. -/
def meetG (G H : Gr) : Bool := (List.range 6400).any fun i => G i && H i
theorem meet_yes {G H : Gr} {i : Nat} (hi : i < 6400) (h1 : G i = true) (h2 : H i = true) : meetG G H = true := by
  unfold meetG
  rw [List.any_eq_true]
  exact ⟨i, List.mem_range.2 hi, by rw [h1, h2]; rfl⟩
theorem meet_no {G H : Gr} (h : ∀ i, i < 6400 → (G i && H i) = false) : meetG G H = false := by
  unfold meetG
  rw [Bool.eq_false_iff]
  intro hc
  rw [List.any_eq_true] at hc
  obtain ⟨i, hi, hc⟩ := hc
  rw [h i (List.mem_range.1 hi)] at hc
  cases hc

end Go.Proofs.YtjiljodchebniaaGreat

namespace Go.Proofs.YtjiljodchebniaaGreat
open Go.RowKit

/-! ## Parts that were found are whole -/
/-- D holds whole components of L. -/
def Whole (L D : Gr) : Prop := ∀ i j, i < 6400 → j < 6400 → L i = true → L j = true → D i = true → nbr i j → D j = true
theorem whole_empty (L : Gr) : Whole L emptyG := fun _ _ _ _ _ _ h _ => by cases h
theorem whole_put {L D : Gr} (h : Whole L D) {s : Nat} : Whole L (unionG D (compG L s)) := by
  intro i j hi hj hLi hLj hD hn
  unfold unionG at *
  rw [Bool.or_eq_true] at *
  rcases hD with hD | hD
  · exact .inl (h i j hi hj hLi hLj hD hn)
  · right
    rw [compG_iff] at *
    exact reach_step hD hn hj hLj
theorem comp_minus {L D : Gr} (h : Whole L D) {s : Nat} (hs : s < 6400) (hL : L s = true) (hD : D s = false) : compG (minusG L D) s = compG L s := by
  funext j
  rw [Bool.eq_iff_iff, compG_iff, compG_iff]
  constructor
  · exact reach_ind (p := fun j => Reach L s j) (reach_start L s) fun i j hi hn hj hG => reach_step hi hn hj (by unfold minusG at hG; rw [Bool.and_eq_true] at hG; exact hG.1)
  · intro hr
    have key : Reach (minusG L D) s j ∧ D j = false ∧ j < 6400 ∧ L j = true := by
      refine reach_ind (p := fun j => Reach (minusG L D) s j ∧ D j = false ∧ j < 6400 ∧ L j = true) ⟨reach_start _ s, hD, hs, hL⟩ (fun i j hi hn hj hG => ?_) hr
      obtain ⟨h1, h2, h3, h4⟩ := hi
      have h5 : D j = false := by
        cases hc : D j with
        | false => rfl
        | true =>
          have := h j i hj h3 hG h4 hc (nbr_symm hn)
          rw [h2] at this
          cases this
      exact ⟨reach_step h1 hn hj (by unfold minusG; rw [hG, h5]; rfl), h5, hj, hG⟩
    exact key.1
theorem minus_union (L D P : Gr) : minusG (minusG L D) P = minusG L (unionG D P) := by
  funext i
  unfold minusG unionG
  cases L i <;> cases D i <;> cases P i <;> rfl
theorem minus_empty (L : Gr) : minusG L emptyG = L := by
  funext i
  unfold minusG emptyG
  simp
/-- One step of the search for parts. -/
theorem parts_yes {L D : Gr} (h : Whole L D) {i : Nat} (hi : i < 6400) (hL : L i = true) (hD : D i = false) :
    compsF (minusG L D) i = compG L i :: compsF (minusG L (unionG D (compG L i))) (i + 1) := by
  have e : minusG L D i = true := by unfold minusG; rw [hL, hD]; rfl
  rw [compsF_yes hi e, comp_minus h hi hL hD, minus_union]
theorem parts_no {L D : Gr} {i : Nat} (hi : i < 6400) (h : L i = false ∨ D i = true) : compsF (minusG L D) i = compsF (minusG L D) (i + 1) :=
  compsF_no hi (by unfold minusG; rcases h with h | h <;> rw [h] <;> simp)

/-! ## Reports -/
def lessR (a b : Rc) : Bool := decide (a.y0 < b.y0 ∨ (a.y0 = b.y0 ∧ (a.x0 < b.x0 ∨ (a.x0 = b.x0 ∧ (a.y1 < b.y1 ∨ (a.y1 = b.y1 ∧ a.x1 < b.x1))))))
theorem lessR_iff (a b : Rc) : lessR a b = true ↔ (a.y0 < b.y0 ∨ (a.y0 = b.y0 ∧ (a.x0 < b.x0 ∨ (a.x0 = b.x0 ∧ (a.y1 < b.y1 ∨ (a.y1 = b.y1 ∧ a.x1 < b.x1)))))) := by simp [lessR]
theorem lessR_trans {a b c : Rc} (h : lessR a b = true) (k : lessR b c = true) : lessR a c = true := by
  rw [lessR_iff] at *
  omega
/-- Two regions have a common cell. -/
def touchB (a b : List Rc) : Bool := meetG (cellsG a) (cellsG b)
/-- One violation may stand before another. -/
def befV (a b : Int × List Rc) : Bool := if a.1 = b.1 then lessR (a.2.headD ⟨0, 0, 0, 0⟩) (b.2.headD ⟨0, 0, 0, 0⟩) && !touchB a.2 b.2 else decide (a.1 < b.1)
theorem befV_ne {a b : Int × List Rc} (h : a.1 ≠ b.1) : befV a b = decide (a.1 < b.1) := if_neg h
theorem befV_eq {a b : Int × List Rc} (h : a.1 = b.1) : befV a b = (lessR (a.2.headD ⟨0, 0, 0, 0⟩) (b.2.headD ⟨0, 0, 0, 0⟩) && !touchB a.2 b.2) := if_pos h
theorem befV_le {a b : Int × List Rc} (h : befV a b = true) : a.1 ≤ b.1 := by
  by_cases e : a.1 = b.1
  · omega
  · rw [befV_ne e] at h
    have := of_decide_eq_true h
    omega
/-- The first i violations: each is valid and may stand behind those before it. -/
def GoodTo (ok : Int × List Rc → Bool) (vs : List (Int × List Rc)) (i : Nat) : Prop := ∀ (j : Nat) (b : Int × List Rc), j < i → vs[j]? = some b → ok b = true ∧ ∀ (k : Nat) (a : Int × List Rc), k < j → vs[k]? = some a → befV a b = true
theorem good_zero (ok : Int × List Rc → Bool) (vs : List (Int × List Rc)) : GoodTo ok vs 0 := fun j b hj => absurd hj (by omega)
theorem good_step {ok : Int × List Rc → Bool} {vs : List (Int × List Rc)} {i : Nat} {b : Int × List Rc} (h : GoodTo ok vs i) (hb : vs[i]? = some b) (hv : ok b = true) (hk : ∀ (k : Nat) (a : Int × List Rc), k < i → vs[k]? = some a → befV a b = true) : GoodTo ok vs (i + 1) := by
  intro j c hj hc
  by_cases e : j = i
  · subst e
    rw [hb] at hc
    cases hc
    exact ⟨hv, hk⟩
  · exact h j c (by omega) hc
noncomputable def repB (ok : Int × List Rc → Bool) (vs : List (Int × List Rc)) : Bool := @decide (vs.length ≤ 256 ∧ GoodTo ok vs vs.length) (Classical.propDecidable _)
theorem repB_iff {ok : Int × List Rc → Bool} {vs : List (Int × List Rc)} : repB ok vs = true ↔ vs.length ≤ 256 ∧ GoodTo ok vs vs.length := by
  unfold repB
  exact @decide_eq_true_iff _ (Classical.propDecidable _)
theorem repB_yes {ok : Int × List Rc → Bool} {vs : List (Int × List Rc)} (h : vs.length ≤ 256) (hg : GoodTo ok vs vs.length) : repB ok vs = true := repB_iff.2 ⟨h, hg⟩
theorem repB_long {ok : Int × List Rc → Bool} {vs : List (Int × List Rc)} (h : 256 < vs.length) : repB ok vs = false := by
  rw [Bool.eq_false_iff]
  intro hc
  have := (repB_iff.1 hc).1
  omega
theorem repB_bad {ok : Int × List Rc → Bool} {vs : List (Int × List Rc)} {i : Nat} {b : Int × List Rc} (hb : vs[i]? = some b) (h : ok b = false) : repB ok vs = false := by
  rw [Bool.eq_false_iff]
  intro hc
  have := ((repB_iff.1 hc).2 i b (List.getElem?_eq_some_iff.1 hb).1 hb).1
  rw [h] at this
  cases this
theorem repB_bef {ok : Int × List Rc → Bool} {vs : List (Int × List Rc)} {i k : Nat} {a b : Int × List Rc} (hb : vs[i]? = some b) (ha : vs[k]? = some a) (hk : k < i) (h : befV a b = false) : repB ok vs = false := by
  rw [Bool.eq_false_iff]
  intro hc
  have := ((repB_iff.1 hc).2 i b (List.getElem?_eq_some_iff.1 hb).1 hb).2 k a hk ha
  rw [h] at this
  cases this
/-- Behind a violation of a smaller rule: fine. -/
theorem good_less {ok : Int × List Rc → Bool} {vs : List (Int × List Rc)} {i : Nat} {a b : Int × List Rc} (h : GoodTo ok vs i) (hi : 1 ≤ i) (ha : vs[i - 1]? = some a) (hb : vs[i]? = some b) (hv : ok b = true) (hlt : a.1 < b.1) : GoodTo ok vs (i + 1) := by
  refine good_step h hb hv fun k c hk hc => ?_
  have hle : c.1 ≤ a.1 := by
    by_cases e : k = i - 1
    · subst e
      rw [ha] at hc
      cases hc
      omega
    · exact befV_le ((h (i - 1) a (by omega) ha).2 k c (by omega) hc)
  rw [befV_ne (by omega)]
  exact decide_eq_true (by omega)
/-- .. of the same rule: those of the rule were looked at. -/
theorem good_same {ok : Int × List Rc → Bool} {vs : List (Int × List Rc)} {i : Nat} {a b : Int × List Rc} (h : GoodTo ok vs i) (hi : 1 ≤ i) (ha : vs[i - 1]? = some a) (hb : vs[i]? = some b) (hv : ok b = true) (he : a.1 = b.1)
    (hl : lessR (a.2.headD ⟨0, 0, 0, 0⟩) (b.2.headD ⟨0, 0, 0, 0⟩) = true) {m : Int} (hm : ∀ (k : Nat) (c : Int × List Rc), m < (k : Int) → k < i → vs[k]? = some c → c.1 = b.1 → touchB c.2 b.2 = false)
    (hend : m < 0 ∨ ∃ (k : Nat) (c : Int × List Rc), (k : Int) = m ∧ k < i ∧ vs[k]? = some c ∧ c.1 ≠ b.1) : GoodTo ok vs (i + 1) := by
  refine good_step h hb hv fun k c hk hc => ?_
  have hle : c.1 ≤ a.1 := by
    by_cases e : k = i - 1
    · subst e
      rw [ha] at hc
      cases hc
      omega
    · exact befV_le ((h (i - 1) a (by omega) ha).2 k c (by omega) hc)
  by_cases hne : c.1 = b.1
  · have hmk : m < (k : Int) := by
      rcases hend with hend | ⟨q, d, hq, hqi, hd, hdn⟩
      · omega
      · apply Classical.byContradiction
        intro hc'
        have hdle : d.1 ≤ a.1 := by
          by_cases e : q = i - 1
          · subst e
            rw [ha] at hd
            cases hd
            omega
          · exact befV_le ((h (i - 1) a (by omega) ha).2 q d (by omega) hd)
        have hcd : c.1 ≤ d.1 := by
          by_cases e : k = q
          · subst e
            rw [hc] at hd
            cases hd
            omega
          · exact befV_le ((h q d hqi hd).2 k c (by omega) hc)
        omega
    rw [befV_eq hne, hm k c hmk hk hc hne, Bool.not_false, Bool.and_true]
    by_cases e : k = i - 1
    · subst e
      rw [ha] at hc
      cases hc
      exact hl
    · have h1 := (h (i - 1) a (by omega) ha).2 k c (by omega) hc
      rw [befV_eq (by omega), Bool.and_eq_true] at h1
      exact lessR_trans h1.1 hl
  · rw [befV_ne hne]
    exact decide_eq_true (by omega)
theorem bef_more {a b : Int × List Rc} (h : b.1 < a.1) : befV a b = false := by
  rw [befV_ne (by omega)]
  exact decide_eq_false (by omega)
theorem bef_less_no {a b : Int × List Rc} (he : a.1 = b.1) (h : lessR (a.2.headD ⟨0, 0, 0, 0⟩) (b.2.headD ⟨0, 0, 0, 0⟩) = false) : befV a b = false := by rw [befV_eq he, h, Bool.false_and]
theorem bef_touch {a b : Int × List Rc} (he : a.1 = b.1) (h : touchB a.2 b.2 = true) : befV a b = false := by rw [befV_eq he, h, Bool.not_true, Bool.and_false]
theorem bef_yes {a b : Int × List Rc} (he : a.1 = b.1) (h : lessR (a.2.headD ⟨0, 0, 0, 0⟩) (b.2.headD ⟨0, 0, 0, 0⟩) = true) (h2 : touchB a.2 b.2 = false) : befV a b = true := by rw [befV_eq he, h, h2]; rfl

end Go.Proofs.YtjiljodchebniaaGreat

namespace Go.Proofs.YtjiljodchebniaaGreat

theorem comp_whole (G : Gr) (s : Nat) : Whole G (compG G s) := fun _ j _ hj _ hL hD hn => (compG_iff G s j).2 (reach_step ((compG_iff G s _).1 hD) hn hj hL)
theorem compsN_from (L : Gr) : ∀ (n i : Nat) (D : Gr), Whole L D → i + n ≤ 6400 → ∀ P ∈ compsN (minusG L D) n i, ∃ s, s < 6400 ∧ P = compG L s
  | 0, _, _, _, _, P, h => by simp [compsN] at h
  | n + 1, i, D, hW, hi, P, h => by
    rw [compsN] at h
    split at h
    · rename_i hm
      have hm2 : L i = true ∧ D i = false := by simpa [minusG] using hm
      rw [comp_minus hW (by omega) hm2.1 hm2.2, minus_union] at h
      rcases List.mem_cons.1 h with rfl | h
      · exact ⟨i, by omega, rfl⟩
      · exact compsN_from L n (i + 1) _ (whole_put hW) (by omega) P h
    · exact compsN_from L n (i + 1) D hW (by omega) P h
theorem comps_whole {G P : Gr} (h : P ∈ comps G) : Whole G P := by
  have h2 : P ∈ compsN (minusG G emptyG) 6400 0 := by rw [minus_empty]; exact h
  obtain ⟨s, -, rfl⟩ := compsN_from G 6400 0 emptyG (whole_empty G) (by omega) P h2
  exact comp_whole G s

/-- A step along a line: the next cell of the set is of the same component. -/
theorem next_cell {L P : Gr} (hP : Whole L P) (v : Bool) (a t u : Int) (hu : u = t + 1 ∨ t = u + 1) (h1 : lnG L v a t = true) (h2 : lnG L v a u = true) (h : lnG P v a t = true) : lnG P v a u = true := by
  have key : ∀ x y x' y' : Int, (x' = x ∧ (y' = y + 1 ∨ y = y' + 1)) ∨ (y' = y ∧ (x' = x + 1 ∨ x = x' + 1)) → hasG L x y = true → hasG L x' y' = true → hasG P x y = true → hasG P x' y' = true := by
    intro x y x' y' hn h1 h2 h
    have i1 := hasG_in h1
    have i2 := hasG_in h2
    unfold hasG ix at *
    rw [Bool.and_eq_true] at *
    refine ⟨h2.1, hP _ _ (by omega) (by omega) h1.2 h2.2 h.2 ?_⟩
    unfold nbr
    omega
  cases v
  · exact key t a u a (by omega) h1 h2 h
  · exact key a t a u (by omega) h1 h2 h
/-- A line of cells of the set lies in one component. -/
theorem line_one {L P : Gr} (hP : Whole L P) (v : Bool) (a p q t : Int) (hall : ∀ u, p ≤ u → u < q → lnG L v a u = true) (ht : p ≤ t ∧ t < q) (h : lnG P v a t = true) : ∀ u, p ≤ u → u < q → lnG P v a u = true := by
  have up : ∀ n : Nat, t + n < q → lnG P v a (t + n) = true := by
    intro n
    induction n with
    | zero => intro _; simpa using h
    | succ n ih =>
      intro hn
      exact next_cell hP v a (t + n) (t + (n + 1 : Nat)) (by omega) (hall _ (by omega) (by omega)) (hall _ (by omega) (by omega)) (ih (by omega))
  have dn : ∀ n : Nat, p ≤ t - n → lnG P v a (t - n) = true := by
    intro n
    induction n with
    | zero => intro _; simpa using h
    | succ n ih =>
      intro hn
      exact next_cell hP v a (t - n) (t - (n + 1 : Nat)) (by omega) (hall _ (by omega) (by omega)) (hall _ (by omega) (by omega)) (ih (by omega))
  intro u h1 h2
  by_cases hu : t ≤ u
  · have := up (u - t).toNat (by omega)
    rwa [show t + ((u - t).toNat : Int) = u by omega] at this
  · have := dn (t - u).toNat (by omega)
    rwa [show t - ((t - u).toNat : Int) = u by omega] at this

/-- An edge beside a cell of the set touches it. -/
theorem touch_at {P : Gr} {v : Bool} {k a p q t : Int} (ht : p ≤ t ∧ t < q) (hc : lnG P v (a - 1) t = true ∨ lnG P v a t = true) : TouchC P (edOf v k a p q) := by
  cases v
  · refine .inr ?_
    unfold edOf
    dsimp only
    split <;> exact ⟨rfl, t, by dsimp only; omega, by dsimp only; omega, hc⟩
  · refine .inl ?_
    unfold edOf
    dsimp only
    split <;> exact ⟨rfl, t, by dsimp only; omega, by dsimp only; omega, hc⟩

theorem ln_flip (G : Gr) (v : Bool) (a t : Int) : lnG G v a t = lnG G (!v) t a := by cases v <;> rfl
/-- A run of the set begins at a side of one kind, and ends at one of the other. -/
theorem run_sides {G : Gr} {v : Bool} {a p q : Int} (hpq : p < q) (hall : ∀ t, p ≤ t → t < q → lnG G v a t = true) (h0 : lnG G v a (p - 1) = false) (h1 : lnG G v a q = false) : stG G (!v) p a = 1 ∧ stG G (!v) q a = -1 := by
  unfold stG
  rw [← ln_flip, ← ln_flip, ← ln_flip, ← ln_flip, h0, h1, hall p (by omega) hpq, hall (q - 1) (by omega) (by omega)]
  exact ⟨rfl, rfl⟩

end Go.Proofs.YtjiljodchebniaaGreat
