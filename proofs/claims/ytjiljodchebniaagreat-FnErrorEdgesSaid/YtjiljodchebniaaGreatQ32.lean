/- What memory holds: lists of lists of rectangles, their values by name. Contracts: szRectSS, toRectSS, eqRectSS, markRectSS. Conditions: lists in memory; bounds on their sizes. Contract: IsConnected of the program. Condition: a list of rectangles in memory. What memory holds: lists of rules. Contracts: IsValidRule of both, and the laws' helpers on rules and decks. Conditions: lists in memory. Contracts: IsValidRule of the reference and of the program. No conditions. Rules and decks that came in, opened; lists of rules in memory; the laws' helpers on rules and decks. No conditions but bounds on sizes. -/
import Derived.Test.YtjiljodchebniaaGreatQ31
import Derived.Test.YtjiljodchebniaaGreatQ06
import Derived.StillTailTactics
import Derived.Test.YtjiljodchebniaaGreatQ26

namespace Go.Proofs.YtjiljodchebniaaGreat
open Go.RowKit

/-- The slice value v is the list rss of lists, whose values are us; all in blocks from B on. -/
structure LW (w : World) (B : Nat) (v : Value) (us : List Value) (rss : List (List Rc)) : Prop where
  len : us.length = rss.length
  own : w.ownsRow B 24 1 v rss.length us
  each : ∀ (k : Nat) (u : Value) (rs : List Rc), us[k]? = some u → rss[k]? = some rs → RL w B u rs
section
variable {w w' : World} {B B' lo hi : Nat} {v : Value} {us : List Value} {rss : List (List Rc)}
theorem LW.on (h : LW w B v us rss) (hb : Below w.heap.size w w') : LW w' B v us rss := ⟨h.len, own_on h.own hb, fun k u q hu hq => (h.each k u q hu hq).on hb⟩
theorem LW.less (h : LW w B v us rss) (hB : B' ≤ B) : LW w B' v us rss := ⟨h.len, own_less h.own hB, fun k u q hu hq => (h.each k u q hu hq).less hB⟩
theorem LW.alloc (h : LW w B v us rss) (o : Obj) : LW (w.alloc o) B v us rss := h.on ((Below.refl _ _).alloc (Nat.le_refl _) o)
theorem LW.drew (h : LW w B v us rss) : LW w.drew B v us rss := h.on (Below.refl _ _).drew
theorem LW.rll (h : LW w B v us rss) : RLL w B v rss := ⟨us, by unfold VL; rw [h.len]; exact h.own, h.len, h.each⟩
theorem LW.form (h : LW w B v us rss) : ∃ A cap, v = .slice A rss.length cap ∧ rss.length ≤ cap ∧ cap ≤ maxLen := by
  obtain ⟨A, cap, hv, a1, a2, _⟩ := own_form h.own
  exact ⟨A, cap, hv, a1, a2⟩
theorem LW.elem {A : Option Addr} {n c k : Nat} {rs : List Rc} (h : LW w B (.slice A n c) us rss) (hq : rss[k]? = some rs) : ∃ g u, A = some ⟨g, 0, none⟩ ∧ us[k]? = some u ∧ B ≤ g ∧ g < w.heap.size ∧ w.cell? ⟨g, k, none⟩ = some u ∧ RL w B u rs := by
  obtain ⟨A', cap, hv, a1, a2, hf⟩ := own_form h.own
  have hk : k < rss.length := (List.getElem?_eq_some_iff.1 hq).1
  obtain ⟨g, hA, hg, hgw, hc, _⟩ := hf (by omega)
  obtain ⟨u, hu⟩ : ∃ u, us[k]? = some u := ⟨_, List.getElem?_eq_getElem (by rw [h.len]; exact hk)⟩
  simp only [Value.slice.injEq] at hv
  exact ⟨g, u, hv.1.trans hA, hu, hg, hgw, hc _ _ hu, h.each k u rs hu hq⟩
theorem LW.frozen {g n c : Nat} (h : LW w B (.slice (some ⟨g, 0, none⟩) n c) us rss) (j : Nat) : w.frozen? ⟨g, j, none⟩ = false := by
  obtain ⟨A, c', e, _, _⟩ := h.form
  simp only [Value.slice.injEq] at e
  obtain ⟨_, rfl, _⟩ := e
  exact World.ownsRow.frozenAt h.own j
theorem LW.inside (h : LW w B v us rss) : XIn B w.heap.size v us := by
  refine ⟨own_lt h.own, fun k u hu g hg => ?_⟩
  have hk : k < rss.length := by rw [← h.len]; exact (List.getElem?_eq_some_iff.1 hu).1
  exact own_lt (h.each k u _ hu (List.getElem?_eq_getElem hk)) g hg
theorem LW.mid (h : LW w B v us rss) (hm : Mid lo hi w w') {a b : Nat} (hi' : XIn a b v us) (hab : b ≤ lo ∨ hi ≤ a) : LW w' B v us rss :=
  ⟨h.len, hm.own h.own (fun g hg => by have := hi'.1 g hg; omega), fun k u q hu hq => hm.own (h.each k u q hu hq) (fun g hg => by have := hi'.2 k u hu g hg; omega)⟩
theorem LW.set1 {g n c : Nat} (h : LW w B (.slice (some ⟨g, 0, none⟩) n c) us rss) {k : Nat} (hk : k < rss.length) (rs : List Rc) (u : Value) (hu : RL w B u rs) :
    LW (w.setCell ⟨g, k, none⟩ u) B (.slice (some ⟨g, 0, none⟩) n c) (us.set k u) (rss.set k rs) := by
  obtain ⟨A, c', e, _, _⟩ := h.form
  simp only [Value.slice.injEq] at e
  obtain ⟨_, rfl, _⟩ := e
  have key : ∀ (z : Value) (qs : List Rc), RL w B z qs → RL (w.setCell ⟨g, k, none⟩ u) B z qs := fun z qs hz => by
    have hne : z.ownBlock ≠ some g := by
      rcases own_apart hz h.own (by decide) with e | e
      · rw [e]; simp
      · exact e
    exact own_other (p := ⟨g, k, none⟩) hz hne _
  refine ⟨by simp [h.len], ?_, fun j z r hz hr => ?_⟩
  · rw [List.length_set]
    exact (World.ownsRow.stored h.own _ _).1
  · by_cases e : j = k
    · subst e
      rw [List.getElem?_set_self (by rw [h.len]; exact hk)] at hz
      rw [List.getElem?_set_self hk] at hr
      cases hz
      cases hr
      exact key _ _ hu
    · rw [List.getElem?_set_ne (fun e' => e e'.symm)] at hz hr
      exact key _ _ (h.each j z r hz hr)
theorem LW.mark {A : Option Addr} {n c : Nat} (h : LW w B (.slice A n c) us rss) (hap : Apart us) {j : Nat} {u : Value} (hu : us[j]? = some u) {w2 : World}
    (hg : w.grownBy w2 u.ownBlock) {ms : List Rc} (hr : RL w2 B u ms) : LW w2 B (.slice A n c) us (rss.set j ms) := by
  have hj : j < rss.length := by rw [← h.len]; exact (List.getElem?_eq_some_iff.1 hu).1
  refine ⟨by simp [h.len], ?_, fun i z r hz hr' => ?_⟩
  · rw [List.length_set]
    have hue := h.each j u _ hu (List.getElem?_eq_getElem hj)
    refine World.ownsRow.kept h.own hg ?_
    rcases own_apart hue h.own (by decide) with e | e
    · cases hb : (Value.slice A n c).ownBlock with
      | none => exact .inl rfl
      | some b => right; rw [e]; simp
    · exact .inr fun e' => e e'.symm
  · by_cases e : i = j
    · subst e
      rw [hu] at hz
      rw [List.getElem?_set_self hj] at hr'
      cases hz
      cases hr'
      exact hr
    · rw [List.getElem?_set_ne (fun e' => e e'.symm)] at hr'
      have hz' := h.each i z r hz hr'
      refine World.ownsRow.kept hz' hg ?_
      cases hzo : z.ownBlock with
      | none => exact .inl rfl
      | some b => exact .inr fun e' => hap i j z u b e hz hu hzo e'.symm
end

/-- The number of rectangles of the lists together. -/
def sizeL (rss : List (List Rc)) : Nat := (rss.map List.length).sum
theorem sizeL_take {rss : List (List Rc)} {j : Nat} {rs : List Rc} (h : rss[j]? = some rs) : sizeL (rss.take (j + 1)) = sizeL (rss.take j) + rs.length := by
  unfold sizeL
  rw [List.take_add_one, h]
  simp
theorem sizeL_le (rss : List (List Rc)) (j : Nat) : sizeL (rss.take j) ≤ sizeL rss := by
  have e : sizeL rss = sizeL (rss.take j) + sizeL (rss.drop j) := by
    unfold sizeL
    conv => lhs; rw [← List.take_append_drop j rss]
    rw [List.map_append, List.sum_append]
  omega
theorem info_rects : (Tryz.prog.info? 24).map (fun i => (i.zero, i.size, i.bytes)) = some (some (.slice none 0 0), 1, 24) := by kernel_rfl
theorem slices_zeros (n : Nat) : (madeCells #[.slice none 0 0] n).toList = List.replicate n (.slice none 0 0) := by
  apply List.ext_getElem?
  intro j
  simp only [madeCells, Array.toList_map, Array.toList_range, List.getElem?_map, List.getElem?_replicate]
  by_cases hj : j < n
  · rw [List.getElem?_range (by omega), if_pos hj]
    have e : j % 1 = 0 := by omega
    show some ((#[Value.slice none 0 0] : Array Value)[j % 1]!) = _
    rw [e]
    rfl
  · rw [if_neg hj, List.getElem?_eq_none (by simp; omega)]
    rfl
/-- The first k lists are laid. -/
def laidL (rss : List (List Rc)) (k : Nat) : List (List Rc) := rss.take k ++ List.replicate (rss.length - k) []
theorem laidL_length (rss : List (List Rc)) {k : Nat} (h : k ≤ rss.length) : (laidL rss k).length = rss.length := by simp [laidL]; omega
theorem laidL_step {rss : List (List Rc)} {k : Nat} {rs : List Rc} (h : rss[k]? = some rs) : (laidL rss k).set k rs = laidL rss (k + 1) := by
  have hk : k < rss.length := (List.getElem?_eq_some_iff.1 h).1
  have hl : (rss.take k).length = k := by rw [List.length_take]; omega
  have e : rss.length - k = (rss.length - (k + 1)) + 1 := by omega
  unfold laidL
  rw [List.set_append_right _ _ (by omega), hl, Nat.sub_self, e, List.replicate_succ, List.set_cons_zero, List.take_add_one, h, List.append_assoc]
  rfl

end Go.Proofs.YtjiljodchebniaaGreat

namespace Go.Proofs.YtjiljodchebniaaGreat
open Go.RowKit

/-- Is the list a region with one component? -/
noncomputable def connV (rs : List Rc) : Bool := isReg rs && ((comps (cellsG rs)).length == 1)

set_option maxHeartbeats 800000 in
theorem conn_impl (v : Value) (rs : List Rc) (w : World) (hv : RL w 0 v rs) : Calls Tryz.prog 64 #[v] w fun e w' => e = .returned (.bool (connV rs)) ∧ Below w.heap.size w w' := by
  by_cases h : isReg rs = true
  · have Hlen := comps_length (cellsG rs)
    by_cases h1 : (comps (cellsG rs)).length = 1
    · have hz : (((comps (cellsG rs)).length : Nat) : Int) = 1 := by omega
      have e0 : connV rs = true := by unfold connV; rw [h, h1]; rfl
      rw [e0]
      clear e0
      go_enter Tryz.func64, Tryz.ntmps64
      go_wp2_with fail
      refine (isRegion_any v rs _ hv).mono ?_
      rintro e w1 ⟨rfl, hb1⟩
      rw [h]
      go_wp2_with fail
      refine (components_any v rs _ (hv.on hb1)).mono ?_
      rintro e w2 ⟨u, rfl, hU, hb2⟩
      replace hb2 := hb1.trans (hb2.mono hb1.size)
      obtain ⟨A, c, hua, hc, hm⟩ := hU.form
      rw [List.length_map] at hua hc
      subst hua
      have hm' : (comps (cellsG rs)).length ≤ 9223372036854775807 := by omega
      clear hv hb1 h hU h1
      go_wp2
      go_ret
      exact ⟨ret_bool (by simp), hb2⟩
    · have hz : ¬ (((comps (cellsG rs)).length : Nat) : Int) = 1 := by omega
      have e0 : connV rs = false := by unfold connV; rw [h]; simpa using h1
      rw [e0]
      clear e0
      go_enter Tryz.func64, Tryz.ntmps64
      go_wp2_with fail
      refine (isRegion_any v rs _ hv).mono ?_
      rintro e w1 ⟨rfl, hb1⟩
      rw [h]
      go_wp2_with fail
      refine (components_any v rs _ (hv.on hb1)).mono ?_
      rintro e w2 ⟨u, rfl, hU, hb2⟩
      replace hb2 := hb1.trans (hb2.mono hb1.size)
      obtain ⟨A, c, hua, hc, hm⟩ := hU.form
      rw [List.length_map] at hua hc
      subst hua
      have hm' : (comps (cellsG rs)).length ≤ 9223372036854775807 := by omega
      clear hv hb1 h hU h1
      go_wp2
      go_ret
      exact ⟨ret_bool (by simp [hz]), hb2⟩
  · have h' : isReg rs = false := by simpa using h
    have e0 : connV rs = false := by unfold connV; rw [h']; rfl
    rw [e0]
    go_enter Tryz.func64, Tryz.ntmps64
    go_wp2_with fail
    refine (isRegion_any v rs _ hv).mono ?_
    rintro e w1 ⟨rfl, hb1⟩
    rw [h']
    go_wp2
    go_ret
    exact ⟨rfl, hb1⟩

end Go.Proofs.YtjiljodchebniaaGreat

namespace Go.Proofs.YtjiljodchebniaaGreat
open Go.RowKit

structure Ru where
  k : Int
  l : Int
  o : Int
  v : Int
  p : Int
deriving DecidableEq
def Ru.vals (r : Ru) : List Value := [.int .i64 r.k, .int .i64 r.l, .int .i64 r.o, .int .i64 r.v, .int .i64 r.p]
def Ru.val (r : Ru) : Value := .agg #[.int .i64 r.k, .int .i64 r.l, .int .i64 r.o, .int .i64 r.v, .int .i64 r.p]
def Ru.in64 (r : Ru) : Prop := I64 r.k ∧ I64 r.l ∧ I64 r.o ∧ I64 r.v ∧ I64 r.p

/-- Has a rule of the kind another layer? -/
def pairB (k : Int) : Bool := decide (k = 2 ∨ k = 3)
/-- Is the value of the rule in range? -/
def valueB (k v : Int) : Bool := if k = 4 then inB 1 v 6400 else if k = 5 then inB 4 v 40 else inB 1 v 8
def otherB (k l o : Int) : Bool := if pairB k = true then inB 0 o 7 && decide (o ≠ l) else decide (o = 0)
def ruleB (r : Ru) : Bool := inB 0 r.k 5 && inB 0 r.l 7 && valueB r.k r.v && otherB r.k r.l r.o && (if r.k = 5 then inB 1 r.p 100 else decide (r.p = 0))

theorem hasOther_any (k : Int) (w : World) : Calls Tryz.prog 28 #[.int .i64 k] w fun e w' => e = .returned (.bool (pairB k)) ∧ w = w' := by
  by_cases h1 : k = 2
  · subst h1
    go_enter Tryz.func28, Tryz.ntmps28
    go_wp2
    go_ret
    exact ⟨rfl, rfl⟩
  · have h1' : (k == 2) = false := by simpa using h1
    go_enter Tryz.func28, Tryz.ntmps28
    go_wp2
    go_ret
    exact ⟨ret_bool (by rw [Bool.eq_iff_iff]; simp [pairB, h1]), rfl⟩
theorem rule_no1 {r : Ru} (h : inB 0 r.k 5 = false) : ruleB r = false := by unfold ruleB; rw [h]; simp
theorem rule_no2 {r : Ru} (h : inB 0 r.l 7 = false) : ruleB r = false := by unfold ruleB; rw [h]; simp
theorem rule_no3 {r : Ru} (h : valueB r.k r.v = false) : ruleB r = false := by unfold ruleB; rw [h]; simp
theorem rule_no4 {r : Ru} (h : otherB r.k r.l r.o = false) : ruleB r = false := by unfold ruleB; rw [h]; simp
theorem rule_rest {r : Ru} (h1 : inB 0 r.k 5 = true) (h2 : inB 0 r.l 7 = true) (h3 : valueB r.k r.v = true) (h4 : otherB r.k r.l r.o = true) : ruleB r = if r.k = 5 then inB 1 r.p 100 else decide (r.p = 0) := by
  unfold ruleB
  rw [h1, h2, h3, h4]
  simp

end Go.Proofs.YtjiljodchebniaaGreat

namespace Go.Proofs.YtjiljodchebniaaGreat
open Go.RowKit

theorem box5 {w : World} {g : Nat} {t : TypeId} {a b c d e : Value} (h : Bk w g t #[a, b, c, d, e]) : w.cell? ⟨g, 0, none⟩ = some a ∧ w.cell? ⟨g, 1, none⟩ = some b ∧ w.cell? ⟨g, 2, none⟩ = some c ∧ w.cell? ⟨g, 3, none⟩ = some d ∧ w.cell? ⟨g, 4, none⟩ = some e := ⟨h.cell 0, h.cell 1, h.cell 2, h.cell 3, h.cell 4⟩
theorem valueB_4 (v : Int) : valueB 4 v = inB 1 v 6400 := rfl
theorem valueB_5 (v : Int) : valueB 5 v = inB 4 v 40 := rfl
theorem valueB_n {k : Int} (v : Int) (h : k ≠ 4) (h' : k ≠ 5) : valueB k v = inB 1 v 8 := by unfold valueB; rw [if_neg h, if_neg h']

set_option maxHeartbeats 3200000 in
set_option maxRecDepth 100000 in
theorem rule_impl (r : Ru) (w : World) : Calls Tryz.prog 44 #[r.val] w fun e w' => e = .returned (.bool (ruleB r)) ∧ Below w.heap.size w w' := by
  obtain ⟨k, l, o, v, p⟩ := r
  have hb := (Below.refl w.heap.size w).alloc (Nat.le_refl _) (.cells #[.int .i64 k, .int .i64 l, .int .i64 o, .int .i64 v, .int .i64 p] 31)
  have zb := Bk.new w 31 #[.int .i64 k, .int .i64 l, .int .i64 o, .int .i64 v, .int .i64 p]
  cases h1 : inB 0 k 5 with
  | false =>
    rw [rule_no1 h1]
    unfold Ru.val
    dsimp only
    go_enter Tryz.func44, Tryz.ntmps44
    go_wp2_with (first | (go_at_call 23; refine (within_any _ _ _ _).mono ?_; rintro e w2 ⟨rfl, rfl⟩) | (go_at_call 28; refine (hasOther_any _ _).mono ?_; rintro e w2 ⟨rfl, rfl⟩))
    go_ret
    exact ⟨rfl, hb⟩
  | true =>
    cases h2 : inB 0 l 7 with
    | false =>
      rw [rule_no2 h2]
      unfold Ru.val
      dsimp only
      go_enter Tryz.func44, Tryz.ntmps44
      go_wp2_with (first | (go_at_call 23; refine (within_any _ _ _ _).mono ?_; rintro e w2 ⟨rfl, rfl⟩) | (go_at_call 28; refine (hasOther_any _ _).mono ?_; rintro e w2 ⟨rfl, rfl⟩))
      go_ret
      exact ⟨rfl, hb⟩
    | true =>
      cases hp : pairB k with
      | true =>
        cases ho : inB 0 o 7 with
        | false =>
          rw [rule_no4 (show otherB k l o = false by unfold otherB; rw [if_pos hp, ho]; rfl)]
          unfold Ru.val
          dsimp only
          go_enter Tryz.func44, Tryz.ntmps44
          go_wp2_with (first | (go_at_call 23; refine (within_any _ _ _ _).mono ?_; rintro e w2 ⟨rfl, rfl⟩) | (go_at_call 28; refine (hasOther_any _ _).mono ?_; rintro e w2 ⟨rfl, rfl⟩))
          go_ret
          exact ⟨rfl, hb⟩
        | true =>
          by_cases hol : o = l
          · rw [rule_no4 (show otherB k l o = false by unfold otherB; rw [if_pos hp, ho, hol]; simp)]
            unfold Ru.val
            dsimp only
            have hol' : (o == l) = true := by simpa using hol
            clear hol
            go_enter Tryz.func44, Tryz.ntmps44
            go_wp2_with (first | (go_at_call 23; refine (within_any _ _ _ _).mono ?_; rintro e w2 ⟨rfl, rfl⟩) | (go_at_call 28; refine (hasOther_any _ _).mono ?_; rintro e w2 ⟨rfl, rfl⟩))
            go_ret
            exact ⟨rfl, hb⟩
          · have h4 : otherB k l o = true := by unfold otherB; rw [if_pos hp, ho]; simpa using hol
            have hol' : (o == l) = false := by simpa using hol
            clear hol
            by_cases h5 : k = 5
            · subst h5
              cases h3 : inB 4 v 40 with
              | false =>
                rw [rule_no3 (show valueB 5 v = false from h3)]
                unfold Ru.val
                dsimp only
                go_enter Tryz.func44, Tryz.ntmps44
                go_wp2_with (first | (go_at_call 23; refine (within_any _ _ _ _).mono ?_; rintro e w2 ⟨rfl, rfl⟩) | (go_at_call 28; refine (hasOther_any _ _).mono ?_; rintro e w2 ⟨rfl, rfl⟩))
                go_ret
                exact ⟨rfl, hb⟩
              | true =>
                rw [rule_rest h1 h2 (show valueB 5 v = true from h3) h4]
                clear h4
                unfold Ru.val
                dsimp only
                rw [if_pos rfl]
                go_enter Tryz.func44, Tryz.ntmps44
                go_wp2_with (first | (go_at_call 23; refine (within_any _ _ _ _).mono ?_; rintro e w2 ⟨rfl, rfl⟩) | (go_at_call 28; refine (hasOther_any _ _).mono ?_; rintro e w2 ⟨rfl, rfl⟩))
                go_ret
                exact ⟨rfl, hb⟩
            · have h5' : (k == 5) = false := by simpa using h5
              by_cases h44 : k = 4
              · subst h44
                cases h3 : inB 1 v 6400 with
                | false =>
                  rw [rule_no3 (show valueB 4 v = false from h3)]
                  unfold Ru.val
                  dsimp only
                  go_enter Tryz.func44, Tryz.ntmps44
                  go_wp2_with (first | (go_at_call 23; refine (within_any _ _ _ _).mono ?_; rintro e w2 ⟨rfl, rfl⟩) | (go_at_call 28; refine (hasOther_any _ _).mono ?_; rintro e w2 ⟨rfl, rfl⟩))
                  go_ret
                  exact ⟨rfl, hb⟩
                | true =>
                  rw [rule_rest h1 h2 (show valueB 4 v = true from h3) h4]
                  clear h4
                  unfold Ru.val
                  dsimp only
                  rw [if_neg (by decide)]
                  go_enter Tryz.func44, Tryz.ntmps44
                  go_wp2_with (first | (go_at_call 23; refine (within_any _ _ _ _).mono ?_; rintro e w2 ⟨rfl, rfl⟩) | (go_at_call 28; refine (hasOther_any _ _).mono ?_; rintro e w2 ⟨rfl, rfl⟩))
                  go_ret
                  exact ⟨ret_bool (by rw [Bool.eq_iff_iff]; simp), hb⟩
              · have h44' : (k == 4) = false := by simpa using h44
                have hvn := valueB_n v h44 h5
                cases h3 : inB 1 v 8 with
                | false =>
                  rw [rule_no3 (hvn.trans h3)]
                  unfold Ru.val
                  dsimp only
                  clear hvn h4 h5 h44
                  go_enter Tryz.func44, Tryz.ntmps44
                  go_wp2_with (first | (go_at_call 23; refine (within_any _ _ _ _).mono ?_; rintro e w2 ⟨rfl, rfl⟩) | (go_at_call 28; refine (hasOther_any _ _).mono ?_; rintro e w2 ⟨rfl, rfl⟩))
                  go_ret
                  exact ⟨rfl, hb⟩
                | true =>
                  rw [rule_rest h1 h2 (hvn.trans h3) h4, if_neg h5]
                  clear h4 hvn h5 h44
                  unfold Ru.val
                  dsimp only
                  go_enter Tryz.func44, Tryz.ntmps44
                  go_wp2_with (first | (go_at_call 23; refine (within_any _ _ _ _).mono ?_; rintro e w2 ⟨rfl, rfl⟩) | (go_at_call 28; refine (hasOther_any _ _).mono ?_; rintro e w2 ⟨rfl, rfl⟩))
                  go_ret
                  exact ⟨ret_bool (by rw [Bool.eq_iff_iff]; simp), hb⟩
      | false =>
        by_cases ho : o = 0
        · have h4 : otherB k l o = true := by unfold otherB; rw [if_neg (by rw [hp]; simp)]; simpa using ho
          have ho' : (o != 0) = false := by simpa using ho
          clear ho
          by_cases h5 : k = 5
          · subst h5
            cases h3 : inB 4 v 40 with
            | false =>
              rw [rule_no3 (show valueB 5 v = false from h3)]
              unfold Ru.val
              dsimp only
              go_enter Tryz.func44, Tryz.ntmps44
              go_wp2_with (first | (go_at_call 23; refine (within_any _ _ _ _).mono ?_; rintro e w2 ⟨rfl, rfl⟩) | (go_at_call 28; refine (hasOther_any _ _).mono ?_; rintro e w2 ⟨rfl, rfl⟩))
              go_ret
              exact ⟨rfl, hb⟩
            | true =>
              rw [rule_rest h1 h2 (show valueB 5 v = true from h3) h4]
              clear h4
              unfold Ru.val
              dsimp only
              rw [if_pos rfl]
              go_enter Tryz.func44, Tryz.ntmps44
              go_wp2_with (first | (go_at_call 23; refine (within_any _ _ _ _).mono ?_; rintro e w2 ⟨rfl, rfl⟩) | (go_at_call 28; refine (hasOther_any _ _).mono ?_; rintro e w2 ⟨rfl, rfl⟩))
              go_ret
              exact ⟨rfl, hb⟩
          · have h5' : (k == 5) = false := by simpa using h5
            by_cases h44 : k = 4
            · subst h44
              cases h3 : inB 1 v 6400 with
              | false =>
                rw [rule_no3 (show valueB 4 v = false from h3)]
                unfold Ru.val
                dsimp only
                go_enter Tryz.func44, Tryz.ntmps44
                go_wp2_with (first | (go_at_call 23; refine (within_any _ _ _ _).mono ?_; rintro e w2 ⟨rfl, rfl⟩) | (go_at_call 28; refine (hasOther_any _ _).mono ?_; rintro e w2 ⟨rfl, rfl⟩))
                go_ret
                exact ⟨rfl, hb⟩
              | true =>
                rw [rule_rest h1 h2 (show valueB 4 v = true from h3) h4]
                clear h4
                unfold Ru.val
                dsimp only
                rw [if_neg (by decide)]
                go_enter Tryz.func44, Tryz.ntmps44
                go_wp2_with (first | (go_at_call 23; refine (within_any _ _ _ _).mono ?_; rintro e w2 ⟨rfl, rfl⟩) | (go_at_call 28; refine (hasOther_any _ _).mono ?_; rintro e w2 ⟨rfl, rfl⟩))
                go_ret
                exact ⟨ret_bool (by rw [Bool.eq_iff_iff]; simp), hb⟩
            · have h44' : (k == 4) = false := by simpa using h44
              have hvn := valueB_n v h44 h5
              cases h3 : inB 1 v 8 with
              | false =>
                rw [rule_no3 (hvn.trans h3)]
                unfold Ru.val
                dsimp only
                clear hvn h4 h5 h44
                go_enter Tryz.func44, Tryz.ntmps44
                go_wp2_with (first | (go_at_call 23; refine (within_any _ _ _ _).mono ?_; rintro e w2 ⟨rfl, rfl⟩) | (go_at_call 28; refine (hasOther_any _ _).mono ?_; rintro e w2 ⟨rfl, rfl⟩))
                go_ret
                exact ⟨rfl, hb⟩
              | true =>
                rw [rule_rest h1 h2 (hvn.trans h3) h4, if_neg h5]
                clear h4 hvn h5 h44
                unfold Ru.val
                dsimp only
                go_enter Tryz.func44, Tryz.ntmps44
                go_wp2_with (first | (go_at_call 23; refine (within_any _ _ _ _).mono ?_; rintro e w2 ⟨rfl, rfl⟩) | (go_at_call 28; refine (hasOther_any _ _).mono ?_; rintro e w2 ⟨rfl, rfl⟩))
                go_ret
                exact ⟨ret_bool (by rw [Bool.eq_iff_iff]; simp), hb⟩
        · rw [rule_no4 (show otherB k l o = false by unfold otherB; rw [if_neg (by rw [hp]; simp)]; simpa using ho)]
          unfold Ru.val
          dsimp only
          have ho' : (o != 0) = true := by simpa using ho
          clear ho
          go_enter Tryz.func44, Tryz.ntmps44
          go_wp2_with (first | (go_at_call 23; refine (within_any _ _ _ _).mono ?_; rintro e w2 ⟨rfl, rfl⟩) | (go_at_call 28; refine (hasOther_any _ _).mono ?_; rintro e w2 ⟨rfl, rfl⟩))
          go_ret
          exact ⟨rfl, hb⟩

end Go.Proofs.YtjiljodchebniaaGreat

namespace Go.Proofs.YtjiljodchebniaaGreat
open Go.RowKit Go.ChangeShapes Go.WideShapes Go.Deep Go.Joins

section
variable {H : Type} {enc : TypeId × Value → H} {P : Program} {w : World} {base : Nat} {held : Bool}
/-- A struct of five integers, in cells. -/
theorem five_ints {spare : Nat → Bool} {e fuel : Nat} {f0 f1 f2 f3 f4 : Field} {cs : List Value} {x : DataW H × List MemPlace} (he : P.underlying e = some (.struct #[f0, f1, f2, f3, f4])) (hone : oneCellFields P #[f0, f1, f2, f3, f4] = true)
    (hC : P.cellsOf e = 5) (i0 : P.underlying f0.type = some (.int .i64)) (i1 : P.underlying f1.type = some (.int .i64)) (i2 : P.underlying f2.type = some (.int .i64)) (i3 : P.underlying f3.type = some (.int .i64)) (i4 : P.underlying f4.type = some (.int .i64))
    (h : DataW.trod enc P w base spare held fuel e cs = some x) : ∃ r : Ru, cs = r.vals ∧ r.in64 := by
  obtain ⟨xs, n, _, _, hlen, hxl, hf⟩ := DataW.trod_struct he h
  rw [hC] at hlen
  match cs, hlen with
  | [c0, c1, c2, c3, c4], _ =>
    obtain ⟨o0, k0⟩ := hone_of hone 0 f0 rfl
    obtain ⟨o1, k1⟩ := hone_of hone 1 f1 rfl
    obtain ⟨o2, k2⟩ := hone_of hone 2 f2 rfl
    obtain ⟨o3, k3⟩ := hone_of hone 3 f3 rfl
    obtain ⟨o4, k4⟩ := hone_of hone 4 f4 rfl
    match xs, hxl with
    | [y0, y1, y2, y3, y4], _ =>
      have g0 := hf 0 f0 rfl
      have g1 := hf 1 f1 rfl
      have g2 := hf 2 f2 rfl
      have g3 := hf 3 f3 rfl
      have g4 := hf 4 f4 rfl
      rw [o0, k0] at g0
      rw [o1, k1] at g1
      rw [o2, k2] at g2
      rw [o3, k3] at g3
      rw [o4, k4] at g4
      obtain ⟨a0, e0, _, b0⟩ := DataW.trod_int (x := y0) i0 (by simpa using g0)
      obtain ⟨a1, e1, _, b1⟩ := DataW.trod_int (x := y1) i1 (by simpa using g1)
      obtain ⟨a2, e2, _, b2⟩ := DataW.trod_int (x := y2) i2 (by simpa using g2)
      obtain ⟨a3, e3, _, b3⟩ := DataW.trod_int (x := y3) i3 (by simpa using g3)
      obtain ⟨a4, e4, _, b4⟩ := DataW.trod_int (x := y4) i4 (by simpa using g4)
      simp only [List.cons.injEq, and_true] at e0 e1 e2 e3 e4
      subst e0 e1 e2 e3 e4
      exact ⟨⟨a0, a1, a2, a3, a4⟩, rfl, bounds_i64 b0, bounds_i64 b1, bounds_i64 b2, bounds_i64 b3, bounds_i64 b4⟩
/-- A struct of five integers by value. -/
theorem open_five {spare : Nat → Bool} {r : Go.Reach} {b0 e : Nat} {f0 f1 f2 f3 f4 : Field} {v : Value} {d : DataW H} {p : List MemPlace} (he : P.underlying e = some (.struct #[f0, f1, f2, f3, f4])) (hone : oneCellFields P #[f0, f1, f2, f3, f4] = true)
    (hC : P.cellsOf e = 5) (i0 : P.underlying f0.type = some (.int .i64)) (i1 : P.underlying f1.type = some (.int .i64)) (i2 : P.underlying f2.type = some (.int .i64)) (i3 : P.underlying f3.type = some (.int .i64)) (i4 : P.underlying f4.type = some (.int .i64))
    (hv : Value.okWide P w r b0 e v) (h : DataW.Trod enc P w base spare held e v d p) : ∃ r : Ru, v = r.val ∧ r.in64 := by
  obtain ⟨cs, rfl, _⟩ := okWide_struct he hv
  obtain ⟨fuel, hf⟩ := h
  obtain ⟨q, hq, h64⟩ := five_ints he hone hC i0 i1 i2 i3 i4 hf
  refine ⟨q, ?_, h64⟩
  have : cs = q.vals.toArray := by
    apply Array.ext'
    simpa [Value.cells] using hq
  rw [this]
  rfl
end

end Go.Proofs.YtjiljodchebniaaGreat
