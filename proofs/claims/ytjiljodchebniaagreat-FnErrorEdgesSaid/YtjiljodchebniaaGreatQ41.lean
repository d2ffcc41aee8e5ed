/- Lists of integers in rows of the call's own, and the laws' helpers on them. No conditions. Contracts: CountByRule of the reference and of the program. Condition: a list of violations in memory. Contracts: MarkerUnion of the reference and of the program. Condition: a list of violations in memory. Plain law: a component is connected: the report of CheckLayout holds violations that are valid. Plain law: the union of the components of a set is the set. -/
import Derived.Test.YtjiljodchebniaaGreatQ30
import Derived.Test.YtjiljodchebniaaGreatQ03
import Derived.Test.YtjiljodchebniaaGreatQ40
import Derived.Test.YtjiljodchebniaaGreatQ25
import Derived.Test.YtjiljodchebniaaGreatQ13
import Derived.Test.YtjiljodchebniaaGreatQ32

namespace Go.Proofs.YtjiljodchebniaaGreat
open Go.RowKit

theorem valsI_length (xs : List Int) : (valsI xs).length = xs.length := by simp [valsI]
theorem valsI_get (xs : List Int) (k : Nat) : (valsI xs)[k]? = (xs[k]?).map (Value.int .i64) := by simp [valsI]
theorem valsI_set (xs : List Int) (k : Nat) (x : Int) : (valsI xs).set k (.int .i64 x) = valsI (xs.set k x) := by simp [valsI]
section
variable {w w' : World} {B B' : Nat} {v : Value} {xs : List Int}
theorem IL.nil (w : World) (B : Nat) : IL w B (.slice none 0 0) [] := World.ownsRow_nil w B _ _
theorem IL.lt (h : IL w B v xs) : ∀ g, v.ownBlock = some g → B ≤ g ∧ g < w.heap.size := own_lt h
theorem IL.set {g n c : Nat} (h : IL w B (.slice (some ⟨g, 0, none⟩) n c) xs) (j : Nat) (x : Int) : IL (w.setCell ⟨g, j, none⟩ (.int .i64 x)) B (.slice (some ⟨g, 0, none⟩) n c) (xs.set j x) := by
  obtain ⟨A, c', e, _, _⟩ := h.form
  simp only [Value.slice.injEq] at e
  obtain ⟨_, rfl, _⟩ := e
  unfold IL at h ⊢
  rw [← valsI_set, List.length_set]
  exact (World.ownsRow.stored h j (.int .i64 x)).1
theorem IL.frozen {g n c : Nat} (h : IL w B (.slice (some ⟨g, 0, none⟩) n c) xs) (j : Nat) : w.frozen? ⟨g, j, none⟩ = false := by
  obtain ⟨A, c', e, _, _⟩ := h.form
  simp only [Value.slice.injEq] at e
  obtain ⟨_, rfl, _⟩ := e
  exact World.ownsRow.frozenAt h j
theorem IL.far {N : Nat} {u : Value} (h : IL w B v xs) (hN : ∀ g, v.ownBlock = some g → g < N) (hg : w.grownBy w' u.ownBlock) (hu : ∀ g, u.ownBlock = some g → N ≤ g) : IL w' B v xs := own_far h hN hg hu
theorem IL.near {N : Nat} {u : Value} (h : IL w B v xs) (hN : ∀ g, v.ownBlock = some g → N ≤ g) (hg : w.grownBy w' u.ownBlock) (hu : ∀ g, u.ownBlock = some g → g < N) : IL w' B v xs := own_near h hN hg hu
end

/-- The first j elements are marked. -/
def marksI (k : Int) (n : Nat) : List Int := (List.range n).map fun i : Nat => k + i
theorem marksI_length (k : Int) (n : Nat) : (marksI k n).length = n := by simp [marksI]
theorem marksI_get (k : Int) (n i : Nat) (h : i < n) : (marksI k n)[i]? = some (k + i) := by simp [marksI, h]
def mixedI (k : Int) (xs : List Int) (j : Nat) : List Int := marksI k j ++ xs.drop j
theorem mixedI_length (k : Int) (xs : List Int) (j : Nat) (h : j ≤ xs.length) : (mixedI k xs j).length = xs.length := by
  simp only [mixedI, List.length_append, marksI_length, List.length_drop]; omega
theorem mixedI_step (k : Int) (xs : List Int) (j : Nat) (h : j < xs.length) : (mixedI k xs j).set j (k + j) = mixedI k xs (j + 1) := by
  have e : xs.drop j = xs[j] :: xs.drop (j + 1) := List.drop_eq_getElem_cons h
  have e2 : marksI k (j + 1) = marksI k j ++ [k + j] := by simp [marksI, List.range_succ]
  unfold mixedI
  rw [List.set_append_right _ _ (by rw [marksI_length]; exact Nat.le_refl _), marksI_length, Nat.sub_self, e, List.set_cons_zero, e2, List.append_assoc]
  rfl
theorem mixedI_end (k : Int) (xs : List Int) : mixedI k xs xs.length = marksI k xs.length := by simp [mixedI]

end Go.Proofs.YtjiljodchebniaaGreat

namespace Go.Proofs.YtjiljodchebniaaGreat
open Go.RowKit

def cntAt (vs : List (Int × List Rc)) (r : Nat) : Int := (vs.countP fun q => decide (q.1 = (r : Int)) : Nat)
def cntL (vs : List (Int × List Rc)) (n : Nat) : List Int := (List.range n).map (cntAt vs)
noncomputable def cntV (vs : List (Int × List Rc)) (m : Int) : List Int := if repB okV vs = true ∧ inB 0 m 12 = true then cntL vs m.toNat else []
theorem cntL_length (vs : List (Int × List Rc)) (n : Nat) : (cntL vs n).length = n := by simp [cntL]
theorem cntL_get (vs : List (Int × List Rc)) {n r : Nat} (h : r < n) : (cntL vs n)[r]? = some (cntAt vs r) := by simp [cntL, h]
theorem cntV_yes {vs : List (Int × List Rc)} {n : Nat} (h : repB okV vs = true) (h2 : inB 0 (n : Int) 12 = true) : cntV vs n = cntL vs n := by unfold cntV; rw [if_pos ⟨h, h2⟩, Int.toNat_natCast]
theorem cntV_no1 {vs : List (Int × List Rc)} {m : Int} (h : repB okV vs = false) : cntV vs m = [] := if_neg (by rw [h]; simp)
theorem cntV_no2 {vs : List (Int × List Rc)} {m : Int} (h : inB 0 m 12 = false) : cntV vs m = [] := if_neg (by rw [h]; simp)
theorem cntV_length (vs : List (Int × List Rc)) (m : Int) : (cntV vs m).length ≤ 1000000 := by
  unfold cntV
  split
  · rename_i h
    rw [cntL_length]
    have := (inB_iff 0 m 12).1 h.2
    omega
  · simp
theorem cntAt_bounds (vs : List (Int × List Rc)) (r : Nat) : 0 ≤ cntAt vs r ∧ cntAt vs r ≤ vs.length := by
  have := List.countP_le_length (p := fun q : Int × List Rc => decide (q.1 = (r : Int))) (l := vs)
  unfold cntAt
  omega
theorem cntAt_step {vs : List (Int × List Rc)} {k : Nat} {q : Int × List Rc} (h : vs[k]? = some q) (r : Nat) : cntAt (vs.take (k + 1)) r = cntAt (vs.take k) r + if q.1 = (r : Int) then 1 else 0 := by
  unfold cntAt
  rw [List.take_add_one, h, Option.toList, List.countP_append, List.countP_cons, List.countP_nil]
  split <;> simp_all
theorem cnt_yes {vs : List (Int × List Rc)} {k n r : Nat} {q : Int × List Rc} (h : vs[k]? = some q) (hr : q.1 = (r : Int)) (hn : r < n) : (cntL (vs.take k) n).set r (cntAt (vs.take k) r + 1) = cntL (vs.take (k + 1)) n := by
  apply List.ext_getElem?
  intro i
  by_cases hi : i < n
  · rw [cntL_get _ hi, cntAt_step h]
    by_cases e : i = r
    · subst e
      rw [List.getElem?_set_self (by rw [cntL_length]; exact hi), if_pos hr]
    · rw [List.getElem?_set_ne (fun e' => e e'.symm), cntL_get _ hi, if_neg (by omega), Int.add_zero]
  · rw [List.getElem?_eq_none (by rw [List.length_set, cntL_length]; omega), List.getElem?_eq_none (by rw [cntL_length]; omega)]
theorem cnt_no {vs : List (Int × List Rc)} {k n : Nat} {q : Int × List Rc} (h : vs[k]? = some q) (hr : ¬ q.1 < (n : Int)) : cntL (vs.take k) n = cntL (vs.take (k + 1)) n := by
  apply List.ext_getElem?
  intro i
  by_cases hi : i < n
  · rw [cntL_get _ hi, cntL_get _ hi, cntAt_step h, if_neg (by omega), Int.add_zero]
  · rw [List.getElem?_eq_none (by rw [cntL_length]; omega), List.getElem?_eq_none (by rw [cntL_length]; omega)]
theorem cntL_start (vs : List (Int × List Rc)) (n : Nat) : cntL (vs.take 0) n = List.replicate n 0 := by
  apply List.ext_getElem?
  intro i
  by_cases hi : i < n
  · rw [cntL_get _ hi, List.getElem?_replicate, if_pos hi]
    rfl
  · rw [List.getElem?_eq_none (by rw [cntL_length]; omega), List.getElem?_eq_none (by simp; omega)]
theorem valsI_zeros (n : Nat) : (madeCells #[.int .i64 0] n).toList = valsI (List.replicate n 0) := by
  apply List.ext_getElem?
  intro j
  rw [valsI_get]
  simp only [madeCells, Array.toList_map, Array.toList_range, List.getElem?_map, List.getElem?_replicate]
  by_cases hj : j < n
  · rw [List.getElem?_range (by omega), if_pos hj]
    have e : j % 1 = 0 := by omega
    show some ((#[Value.int .i64 0] : Array Value)[j % 1]!) = _
    rw [e]
    rfl
  · rw [if_neg hj, List.getElem?_eq_none (by simp; omega)]
    rfl
theorem rep_rule {vs : List (Int × List Rc)} (h : repB okV vs = true) {k : Nat} {q : Int × List Rc} (hq : vs[k]? = some q) : okV q = true ∧ 0 ≤ q.1 ∧ q.1 ≤ 11 := by
  have hg := ((repB_iff.1 h).2 k q (List.getElem?_eq_some_iff.1 hq).1 hq).1
  have h2 := hg
  unfold okV vioV at h2
  rw [Bool.and_eq_true] at h2
  have := (inB_iff 0 q.1 11).1 h2.1
  exact ⟨hg, this⟩
theorem rep_len {vs : List (Int × List Rc)} (h : repB okV vs = true) : vs.length ≤ 256 := (repB_iff.1 h).1


end Go.Proofs.YtjiljodchebniaaGreat

namespace Go.Proofs.YtjiljodchebniaaGreat
open Go.RowKit

/-- The slice value v, of the call's own, holds lists of rectangles that lie wherever. -/
def RLF (w : World) (B : Nat) (v : Value) (rss : List (List Rc)) : Prop := ∃ vs, VL w B 24 v vs ∧ vs.length = rss.length ∧ ∀ (k : Nat) (u : Value) (rs : List Rc), vs[k]? = some u → rss[k]? = some rs → RL w 0 u rs
theorem RLF.on {w w' : World} {B : Nat} {v : Value} {rss : List (List Rc)} (h : RLF w B v rss) (hb : Below w.heap.size w w') : RLF w' B v rss := let ⟨vs, h1, h2, h3⟩ := h; ⟨vs, h1.on hb, h2, fun k u rs hu hr => (h3 k u rs hu hr).on hb⟩
theorem RLF.all {w : World} {B : Nat} {v : Value} {rss : List (List Rc)} (h : RLF w B v rss) : RLL w 0 v rss := let ⟨vs, h1, h2, h3⟩ := h; ⟨vs, h1.less (Nat.zero_le _), h2, h3⟩
theorem RLF.form {w : World} {B : Nat} {v : Value} {rss : List (List Rc)} (h : RLF w B v rss) : ∃ A cap, v = .slice A rss.length cap := by obtain ⟨A, cap, hv, _⟩ := h.all.form; exact ⟨A, cap, hv⟩
theorem RLF.lit0 (w : World) {B : Nat} (hB : B ≤ w.heap.size) : RLF (w.alloc (.cells #[] 24)) B (.slice (some ⟨w.heap.size, 0, none⟩) 0 0) [] := ⟨[], World.ownsRow_lit w #[] 0 hB (by simp [maxLen]) rfl, rfl, fun k u rs hu => by simp at hu⟩
theorem wpList_append_RLF {w : World} {ops : Array Oper} {rest : List Oper} {o : Oper} {a : Act} {Q : Exit → Act → World → Prop} (hgd : o.guard = none) (s x : Operand)
    (ho : o.op = .call { callee := .builtin .append, args := #[s, x], argTypes := #[28, 28] })
    (B : Nat) (v : Value) (rss : List (List Rc)) (hs : a.eval s = v) (hown : RLF w B v rss) (u : Value) (rs : List Rc) (hu : RL w 0 u rs) (hx : a.eval x = .slice (some ⟨w.heap.size, 0, none⟩) 1 1) (hlen : rss.length ≤ 1000000) (hB : B ≤ w.heap.size)
    (h : ∀ v' w', RLF w' B v' (rss ++ [rs]) → w.grownBy w' v.ownBlock → Below B w w' → wpList Tryz.prog ops Q rest (a.put o.dst v') w') :
    wpList Tryz.prog ops Q (o :: rest) a (w.alloc (.cells #[u] 24)) := by
  obtain ⟨vs, h1, h2, h3⟩ := hown
  have hone : u.oneCell' = true := by obtain ⟨A, c, rfl, _⟩ := hu.form; rfl
  refine wpList_append_G hgd s x 24 28 1 24 _ infoRects Tryz.underlying28 rfl (by decide) (by decide) ho B v vs.length vs hs h1 [u] rfl (by simpa using hone) hx (by omega) hB ?_
  intro v' w' k1 k2 k3
  refine h v' w' ⟨vs ++ [u], by unfold VL; rw [List.length_append]; exact k1, by simp [h2], fun k y qs hy hq => ?_⟩ k2 k3
  by_cases hk : k < vs.length
  · rw [List.getElem?_append_left hk] at hy
    rw [List.getElem?_append_left (by omega)] at hq
    have hr := h3 k y qs hy hq
    exact World.ownsRow.kept hr k2 (own_apart hr h1 (by decide))
  · have hke : k = vs.length := by have := (List.getElem?_eq_some_iff.1 hy).1; simp at this; omega
    subst hke
    rw [List.getElem?_append_right (Nat.le_refl _), Nat.sub_self] at hy
    rw [List.getElem?_append_right (by omega), h2, Nat.sub_self] at hq
    simp at hy hq
    subst hy hq
    exact World.ownsRow.kept hu k2 (own_apart hu h1 (by decide))

/-- The markers of a rule. -/
def selL (vs : List (Int × List Rc)) (r : Int) : List (List Rc) := (vs.filter fun q => decide (q.1 = r)).map Prod.snd
theorem sel_yes {vs : List (Int × List Rc)} {k : Nat} {q : Int × List Rc} {r : Int} (h : vs[k]? = some q) (hr : q.1 = r) : selL (vs.take (k + 1)) r = selL (vs.take k) r ++ [q.2] := by
  unfold selL
  rw [List.take_add_one, h, Option.toList, List.filter_append, List.map_append, List.filter_cons, if_pos (decide_eq_true hr)]
  rfl
theorem sel_no {vs : List (Int × List Rc)} {k : Nat} {q : Int × List Rc} {r : Int} (h : vs[k]? = some q) (hr : q.1 ≠ r) : selL (vs.take (k + 1)) r = selL (vs.take k) r := by
  unfold selL
  rw [List.take_add_one, h, Option.toList, List.filter_append, List.map_append, List.filter_cons, if_neg (by simpa using hr)]
  simp
theorem sel_len (vs : List (Int × List Rc)) (k : Nat) (r : Int) : (selL (vs.take k) r).length ≤ k := by
  unfold selL
  rw [List.length_map]
  exact Nat.le_trans (List.length_filter_le _ _) (by rw [List.length_take]; omega)
noncomputable def muV (vs : List (Int × List Rc)) (r : Int) : List Rc := if repB okV vs = true then canon (cellsG (selL vs r).flatten) else []
theorem muV_yes {vs : List (Int × List Rc)} {r : Int} (h : repB okV vs = true) : muV vs r = canon (cellsG (selL vs r).flatten) := if_pos h
theorem muV_no {vs : List (Int × List Rc)} {r : Int} (h : repB okV vs = false) : muV vs r = [] := if_neg (by rw [h]; simp)
theorem muV_length (vs : List (Int × List Rc)) (r : Int) : (muV vs r).length ≤ 1000000 := by
  unfold muV
  split
  · have := canon_few (cellsG (selL vs r).flatten)
    omega
  · simp
theorem cells_sel {vs : List (Int × List Rc)} {k : Nat} {q : Int × List Rc} {r : Int} (h : vs[k]? = some q) (hr : q.1 = r) : cellsG (selL (vs.take (k + 1)) r).flatten = unionG (cellsG (selL (vs.take k) r).flatten) (cellsG q.2) := by
  rw [sel_yes h hr, List.flatten_append, cellsG_append, List.flatten_cons, List.flatten_nil, List.append_nil]

end Go.Proofs.YtjiljodchebniaaGreat

namespace Go.Proofs.YtjiljodchebniaaGreat
open Go.RowKit

theorem compG_self (L : Gr) (s : Nat) : compG (compG L s) s = compG L s := by
  funext j
  rw [Bool.eq_iff_iff, compG_iff, compG_iff]
  constructor
  · intro h
    exact reach_ind (p := fun j => Reach L s j) (reach_start L s) (fun i j _ _ _ hG => (compG_iff L s j).1 hG) h
  · intro h
    exact (reach_ind (p := fun j => Reach L s j ∧ Reach (compG L s) s j) ⟨reach_start _ _, reach_start _ _⟩ (fun i j hi hn hj hG => by
      have h1 := reach_step hi.1 hn hj hG
      exact ⟨h1, reach_step hi.2 hn hj ((compG_iff L s j).2 h1)⟩) h).2
theorem compsF_is : ∀ (n i : Nat) (L : Gr), 6400 - i ≤ n → ∀ P ∈ compsF L i, ∃ s, s < 6400 ∧ P s = true ∧ compG P s = P := by
  intro n
  induction n with
  | zero => intro i L hi P hP; rw [compsF_end (by omega)] at hP; cases hP
  | succ n ih =>
    intro i L hi P hP
    by_cases h6 : i < 6400
    · cases hL : L i with
      | true =>
        rw [compsF_yes h6 hL] at hP
        rcases List.mem_cons.1 hP with rfl | hP
        · exact ⟨i, h6, compG_here L i, compG_self L i⟩
        · exact ih (i + 1) _ (by omega) P hP
      | false =>
        rw [compsF_no h6 hL] at hP
        exact ih (i + 1) _ (by omega) P hP
    · rw [compsF_end (by omega)] at hP; cases hP
theorem compsF_empty : ∀ (n i : Nat) (L : Gr), 6400 - i ≤ n → (∀ j, j < 6400 → L j = false) → compsF L i = [] := by
  intro n
  induction n with
  | zero => intro i L hi _; exact compsF_end (by omega)
  | succ n ih =>
    intro i L hi h
    by_cases h6 : i < 6400
    · rw [compsF_no h6 (h i h6)]
      exact ih (i + 1) L (by omega) h
    · exact compsF_end (by omega)
theorem compsF_skip : ∀ (t i : Nat) (L : Gr), i ≤ t → t ≤ 6400 → (∀ j, j < t → L j = false) → compsF L i = compsF L t := by
  intro t i L hi ht h
  obtain ⟨d, rfl⟩ : ∃ d, t = i + d := ⟨t - i, by omega⟩
  induction d generalizing i with
  | zero => rfl
  | succ d ih =>
    rw [compsF_no (by omega) (h i (by omega))]
    have := ih (i + 1) (by omega) (by omega) (fun j hj => h j (by omega))
    rw [this]
    congr 1
    omega
theorem comps_alone {G P : Gr} (h : P ∈ comps G) : comps P = [P] := by
  obtain ⟨t, ht, hPt, hno⟩ := comps_first G h
  obtain ⟨s, hs, hPs, hself⟩ := compsF_is 6400 0 G (by omega) P h
  have hst : Reach P s t := (compG_iff P s t).1 (by rw [hself]; exact hPt)
  have hts := reach_symm hs hPs hst
  have hc : compG P t = P := by
    funext j
    rw [Bool.eq_iff_iff, compG_iff]
    constructor
    · exact fun hr => (reach_in ht hPt hr).2
    · intro hj
      exact reach_trans hts ((compG_iff P s j).1 (by rw [hself]; exact hj))
  have e : comps P = compsF P t := compsF_skip t 0 P (Nat.zero_le _) (Nat.le_of_lt ht) hno
  rw [e, compsF_yes ht hPt, hc]
  rw [compsF_empty 6400 (t + 1) _ (by omega) (fun j _ => by unfold minusG; cases P j <;> rfl)]
theorem comp_conn {G P : Gr} (h : P ∈ comps G) : connV (canon P) = true := by
  unfold connV
  rw [isReg_canon, comps_congr (cells_canon P), comps_alone h]
  rfl

theorem comps_before {G : Gr} {k : Int} {i j : Nat} {P Q : Gr} (hij : i < j) (hP : (comps G)[i]? = some P) (hQ : (comps G)[j]? = some Q) : befV (k, canon P) (k, canon Q) = true := by
  obtain ⟨ss, hl, hp, hf⟩ := comps_firsts G
  have hi : i < ss.length := by rw [hl]; exact (List.getElem?_eq_some_iff.1 hP).1
  have hj : j < ss.length := by rw [hl]; exact (List.getElem?_eq_some_iff.1 hQ).1
  have f1 := hf i P _ hP (List.getElem?_eq_getElem hi)
  have f2 := hf j Q _ hQ (List.getElem?_eq_getElem hj)
  have hlt : ss[i] < ss[j] := by rw [List.pairwise_iff_getElem] at hp; exact hp i j hi hj hij
  obtain ⟨x1, y1, l1, e1⟩ := canon_first f1
  obtain ⟨x2, y2, l2, e2⟩ := canon_first f2
  refine bef_yes rfl ?_ ?_
  · show lessR ((canon P).headD _) ((canon Q).headD _) = true
    rw [e1, e2, List.headD_cons, List.headD_cons, lessR_iff]
    dsimp only
    omega
  · refine meet_no fun c hc => ?_
    have hap := comps_apart 6400 0 G (by omega)
    rw [List.pairwise_iff_getElem] at hap
    have hi' := (List.getElem?_eq_some_iff.1 hP)
    have hj' := (List.getElem?_eq_some_iff.1 hQ)
    have := hap i j hi'.1 hj'.1 hij c hc
    rw [show (compsF G 0)[i]'hi'.1 = P from hi'.2, show (compsF G 0)[j]'hj'.1 = Q from hj'.2] at this
    show (cellsG (canon P) c && cellsG (canon Q) c) = false
    rw [cells_canon P c hc, cells_canon Q c hc]
    exact this
theorem comp_pair (k : Int) (ms : List Rc) : (compV k ms).Pairwise (fun a b => befV a b = true) := by
  rw [List.pairwise_iff_getElem]
  intro i j hi hj hij
  unfold compV at hi hj ⊢
  simp only [List.length_map] at hi hj
  simp only [List.getElem_map]
  exact comps_before hij (List.getElem?_eq_getElem hi) (List.getElem?_eq_getElem hj)
theorem comp_rule {k : Int} {ms : List Rc} {b : Int × List Rc} (h : b ∈ compV k ms) : b.1 = k ∧ connV b.2 = true := by
  unfold compV at h
  rw [List.mem_map] at h
  obtain ⟨c, hc, rfl⟩ := h
  rw [List.mem_map] at hc
  obtain ⟨P, hP, rfl⟩ := hc
  exact ⟨rfl, comp_conn hP⟩
theorem check_good (rss : List (List Rc)) (qs : List Ru) : ∀ k, (checkTo rss qs k).Pairwise (fun a b => befV a b = true) ∧ ∀ b ∈ checkTo rss qs k, (0 ≤ b.1 ∧ b.1 < (k : Int)) ∧ connV b.2 = true
  | 0 => ⟨List.Pairwise.nil, fun b hb => by rw [check_zero] at hb; cases hb⟩
  | k + 1 => by
    obtain ⟨ih1, ih2⟩ := check_good rss qs k
    cases h : qs[k]? with
    | some q =>
      rw [check_step h]
      refine ⟨List.pairwise_append.2 ⟨ih1, comp_pair _ _, fun a ha b hb => ?_⟩, fun b hb => ?_⟩
      · have h1 := (ih2 a ha).1
        have h2 := (comp_rule hb).1
        rw [befV_ne (by omega)]
        exact decide_eq_true (by omega)
      · rcases List.mem_append.1 hb with hb | hb
        · have h1 := ih2 b hb
          exact ⟨⟨h1.1.1, by omega⟩, h1.2⟩
        · have h1 := comp_rule hb
          exact ⟨⟨by omega, by omega⟩, h1.2⟩
    | none =>
      have e : checkTo rss qs (k + 1) = checkTo rss qs k := by
        unfold checkTo
        rw [List.range_succ, List.flatMap_append, List.flatMap_singleton]
        unfold ruleVs
        rw [h, List.append_nil]
      rw [e]
      exact ⟨ih1, fun b hb => ⟨⟨(ih2 b hb).1.1, by have := (ih2 b hb).1.2; omega⟩, (ih2 b hb).2⟩⟩
/-- What CheckLayout answers is a report. -/
theorem chk_report (rss : List (List Rc)) (qs : List Ru) : repB okV (chkL rss qs) = true := by
  have hnil : repB okV [] = true := repB_yes (by simp) (good_zero _ _)
  unfold chkL
  split
  · rename_i h
    split
    · rename_i h9
      obtain ⟨g1, g2⟩ := check_good rss qs qs.length
      have hn := deck_len h.2
      refine repB_yes h9 fun j b hj hb => ?_
      have hm := g2 b (List.mem_of_getElem? hb)
      refine ⟨?_, fun k a hk ha => ?_⟩
      · unfold okV vioV
        rw [hm.2, Bool.and_true, inB_iff]
        omega
      · rw [List.pairwise_iff_getElem] at g1
        have hb' := List.getElem?_eq_some_iff.1 hb
        have ha' := List.getElem?_eq_some_iff.1 ha
        have := g1 k j ha'.1 hb'.1 hk
        rw [show (checkTo rss qs qs.length)[k]'ha'.1 = a from ha'.2, show (checkTo rss qs qs.length)[j]'hb'.1 = b from hb'.2] at this
        exact this
    · exact hnil
  · exact hnil

end Go.Proofs.YtjiljodchebniaaGreat

namespace Go.Proofs.YtjiljodchebniaaGreat
open Go.RowKit

theorem mem_sel {vs : List (Int × List Rc)} {r : Int} {rs : List Rc} : rs ∈ selL vs r ↔ (r, rs) ∈ vs := by
  unfold selL
  rw [List.mem_map]
  constructor
  · rintro ⟨⟨a, b⟩, h, rfl⟩
    rw [List.mem_filter] at h
    have h2 := of_decide_eq_true h.2
    dsimp only at h2
    subst h2
    exact h.1
  · intro h
    exact ⟨(r, rs), List.mem_filter.2 ⟨h, decide_eq_true rfl⟩, rfl⟩
theorem mem_check {rss : List (List Rc)} {qs : List Ru} {n k : Nat} {q : Ru} {rs : List Rc} (h : qs[k]? = some q) (hk : k < n) : ((k : Int), rs) ∈ checkTo rss qs n ↔ ∃ P ∈ comps (cellsG (rmV rss q)), rs = canon P := by
  unfold checkTo
  rw [List.mem_flatMap]
  constructor
  · rintro ⟨i, _, hi⟩
    unfold ruleVs at hi
    cases hq : qs[i]? with
    | none => rw [hq] at hi; cases hi
    | some q' =>
      rw [hq] at hi
      have e := (comp_rule hi).1
      dsimp only at e
      have e2 : i = k := by omega
      subst e2
      rw [h] at hq
      cases hq
      unfold compV at hi
      rw [List.mem_map] at hi
      obtain ⟨c, hc, e3⟩ := hi
      rw [List.mem_map] at hc
      obtain ⟨P, hP, rfl⟩ := hc
      exact ⟨P, hP, (congrArg Prod.snd e3).symm⟩
  · rintro ⟨P, hP, rfl⟩
    refine ⟨k, List.mem_range.2 hk, ?_⟩
    unfold ruleVs
    rw [h]
    unfold compV
    exact List.mem_map.2 ⟨canon P, List.mem_map.2 ⟨P, hP, rfl⟩, rfl⟩
theorem cells_flat (rss : List (List Rc)) (c : Nat) : cellsG rss.flatten c = true ↔ ∃ rs ∈ rss, cellsG rs c = true := by
  unfold cellsG
  simp only [List.any_eq_true, List.mem_flatten]
  constructor
  · rintro ⟨r, ⟨rs, h1, h2⟩, h3⟩
    exact ⟨rs, h1, r, h2, h3⟩
  · rintro ⟨rs, h1, r, h2, h3⟩
    exact ⟨r, ⟨rs, h1, h2⟩, h3⟩
theorem check_cells {rss : List (List Rc)} {qs : List Ru} {n k : Nat} {q : Ru} (h : qs[k]? = some q) (hk : k < n) : sameG (cellsG (selL (checkTo rss qs n) k).flatten) (cellsG (rmV rss q)) := by
  intro c hc
  rw [Bool.eq_iff_iff, cells_flat, comps_cover _ hc]
  constructor
  · rintro ⟨rs, h1, h2⟩
    obtain ⟨P, hP, rfl⟩ := (mem_check h hk).1 (mem_sel.1 h1)
    rw [cells_canon P c hc] at h2
    exact ⟨P, hP, h2⟩
  · rintro ⟨P, hP, h2⟩
    exact ⟨canon P, mem_sel.2 ((mem_check h hk).2 ⟨P, hP, rfl⟩), by rw [cells_canon P c hc]; exact h2⟩
theorem reg_none : isReg [] = true := by rfl
theorem encL_reg (rs qs : List Rc) (k : Int) : isReg (encL rs qs k) = true := by
  unfold encL
  repeat' split
  all_goals first | exact isReg_canon _ | exact reg_none
theorem rmV_reg (rss : List (List Rc)) (r : Ru) : isReg (rmV rss r) = true := by
  unfold rmV ruleM markV markgV mkbV encV areaMV densV
  repeat' split
  all_goals first | exact isReg_canon _ | exact encL_reg _ _ _ | exact reg_none

/-- The union of the report's violations of a rule is the rule's marker. -/
theorem mu_check {rss : List (List Rc)} {qs : List Ru} {k : Nat} {q : Ru} (h1 : layB rss = true) (h2 : deckB qs = true) (h3 : (checkV rss qs).length ≤ 256) (h : qs[k]? = some q) : muV (chkL rss qs) (k : Int) = rmV rss q := by
  rw [muV_yes (chk_report rss qs), (chk_yes h1 h2 h3).1]
  have hk : k < qs.length := (List.getElem?_eq_some_iff.1 h).1
  rw [canon_congr (show sameG (cellsG (selL (checkV rss qs) (k : Int)).flatten) (cellsG (rmV rss q)) from check_cells h hk)]
  exact canon_of_reg (rmV_reg rss q)

theorem check_nil (rss : List (List Rc)) (qs : List Ru) : checkV rss qs = [] ↔ allClean rss qs = true := by
  unfold checkV checkTo allClean
  rw [List.flatMap_eq_nil_iff, List.all_eq_true]
  have key : ∀ j, ruleVs rss qs j = [] ↔ cleanAt rss qs j = true := fun j => by
    unfold ruleVs cleanAt
    cases h : qs[j]? with
    | none => simp
    | some q =>
      dsimp only
      unfold compV
      rw [List.map_eq_nil_iff, List.map_eq_nil_iff, comps_reg (rmV_reg rss q), decide_eq_true_iff]
  exact ⟨fun h j hj => (key j).1 (h j hj), fun h j hj => (key j).2 (h j hj)⟩
/-- The report is empty just where the layout is clean. -/
theorem chk_clean {rss : List (List Rc)} {qs : List Ru} (h1 : layB rss = true) (h2 : deckB qs = true) (h3 : (checkV rss qs).length ≤ 256) : decide ((chkL rss qs).length = 0) = cleanB rss qs := by
  rw [(chk_yes h1 h2 h3).1]
  unfold cleanB
  rw [h1, h2, Bool.true_and, Bool.true_and, Bool.eq_iff_iff, decide_eq_true_iff, List.length_eq_zero_iff]
  exact check_nil rss qs

end Go.Proofs.YtjiljodchebniaaGreat
