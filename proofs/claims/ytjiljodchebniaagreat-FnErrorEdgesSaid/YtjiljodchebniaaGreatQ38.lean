/- Contracts: IsLayout, l19Layout and RuleMarkers of the reference and of the program. Condition: a list of lists in memory. Contracts: IsClean of the reference and of the program. Conditions: a list of lists, a list of rules in memory. Contracts: the reference's l04Combine and l07Flood (over sides). Condition: a cell of the chip. Contract: the reference's l07Flood (over sides). Condition: a cell of the chip. Contract: IsValidViolation of the program. Condition: a list of rectangles in memory. Contracts: the reference's l07Parts, l07Components, ComponentCount, IsConnected, IsValidViolation. No conditions. Contracts: boxOf of the program, l02Box of the reference, ViolationBox of both. Condition: a list of rectangles in memory that is not empty. -/
import Derived.Test.YtjiljodchebniaaGreatQ32
import Derived.Test.YtjiljodchebniaaGreatQ05
import Derived.Test.YtjiljodchebniaaGreatQ36
import Derived.Test.YtjiljodchebniaaGreatQ37
import Derived.Test.YtjiljodchebniaaGreatQ12
import Derived.BigQuiet
import Derived.Test.YtjiljodchebniaaGreatQ33
import Derived.Test.YtjiljodchebniaaGreatQ11
import Derived.StillTailTactics

namespace Go.Proofs.YtjiljodchebniaaGreat
open Go.RowKit

def layB (rss : List (List Rc)) : Bool := decide (rss.length = 8) && rss.all isReg
theorem layB_iff (rss : List (List Rc)) : layB rss = true ↔ rss.length = 8 ∧ ∀ rs ∈ rss, isReg rs = true := by simp [layB]
theorem lay_bad {rss : List (List Rc)} {k : Nat} {rs : List Rc} (h : rss[k]? = some rs) (hr : isReg rs = false) : layB rss = false := by
  rw [Bool.eq_false_iff]
  intro hc
  have := ((layB_iff rss).1 hc).2 rs (List.mem_of_getElem? h)
  rw [hr] at this
  cases this
theorem lay_all {rss : List (List Rc)} (h : ∀ (j : Nat) (rs : List Rc), j < rss.length → rss[j]? = some rs → isReg rs = true) : layB rss = decide (rss.length = 8) := by
  have : rss.all isReg = true := by
    rw [List.all_eq_true]
    intro rs hrs
    obtain ⟨k, hk, e⟩ := List.getElem_of_mem hrs
    exact h k rs hk (by rw [List.getElem?_eq_getElem hk, e])
  unfold layB
  rw [this, Bool.and_true]
theorem lay_len {rss : List (List Rc)} (h : rss.length ≠ 8) : layB rss = false := by unfold layB; rw [decide_eq_false h, Bool.false_and]


theorem isLay_clo (v : Value) (rs : List Rc) (w : World) (hv : RL w 0 v rs) : Calls Tryz.prog 43 #[v] w fun e w' => e = .returned (.bool (!isReg rs)) ∧ Below w.heap.size w w' := by
  go_enter Tryz.func43, Tryz.ntmps43
  go_wp2_with fail
  refine (isRegion_any v rs _ hv).mono ?_
  rintro e w1 ⟨rfl, hb1⟩
  go_wp2
  go_ret
  exact ⟨rfl, hb1⟩
/-- The first list that is no region, or -1. -/
def BadAt (w : World) (rss : List (List Rc)) (e : Ending) (w' : World) : Prop := ∃ n : Int, e = .returned (.int .i64 n) ∧ -1 ≤ n ∧ n ≤ rss.length ∧ (n = -1 → ∀ (j : Nat) (rs : List Rc), j < rss.length → rss[j]? = some rs → isReg rs = true) ∧ (0 ≤ n → ∃ (j : Nat) (rs : List Rc), rss[j]? = some rs ∧ isReg rs = false) ∧ Below w.heap.size w w'
set_option maxHeartbeats 800000 in
set_option maxRecDepth 100000 in
theorem badAt_any (v : Value) (rss : List (List Rc)) (w : World) (hv : RLL w 0 v rss) : Calls Tryz.prog 80 #[v, .func (.func 43) #[] #[]] w (BadAt w rss) := by
  obtain ⟨A, c, rfl, hc, hm⟩ := hv.form
  have hb0 := Below.refl w.heap.size w
  unfold maxLen at hm
  have hln : rss.length ≤ 9223372036854775807 := by omega
  have Hi0 := Lib.hid (show ∀ (j : Nat) (rs : List Rc), j < 0 → rss[j]? = some rs → isReg rs = true from fun j rs hj => absurd hj (by omega))
  go_enter Tryz.func80, Tryz.ntmps80
  go_wp2
  go_loopw [8] (fun iv wr => ∃ k : Nat, k ≤ rss.length ∧ iv = .int .i64 k ∧ Hid (∀ (j : Nat) (rs : List Rc), j < k → rss[j]? = some rs → isReg rs = true) ∧ Below w.heap.size w wr) (fun iv _ => rss.length - (intOf iv).toNat)
  case atStart => exact ⟨0, Nat.zero_le _, rfl, Hi0, hb0⟩
  case round =>
    obtain ⟨k, hk, rfl, HI, hb⟩ := hrel
    clear hb0 Hi0
    by_cases hlt : k < rss.length
    · obtain ⟨g, u, rs, rfl, hr, hg, f0, hR⟩ := (hv.on hb).elem hlt
      have Hr := Lib.hid hr
      have hk9 : k < 9223372036854775807 := by omega
      clear hr hv
      cases hreg : isReg rs with
      | true =>
        have HI2 := Lib.hid (show ∀ (j : Nat) (qs : List Rc), j < k + 1 → rss[j]? = some qs → isReg qs = true from fun j qs hj hq => by
          by_cases e : j = k
          · subst e
            rw [Hr.out] at hq
            cases hq
            exact hreg
          · exact HI.out j qs (by omega) hq)
        go_wp2_with fail
        refine (isLay_clo u rs _ hR).mono ?_
        rintro e w2 ⟨rfl, hb2⟩
        rw [hreg]
        go_wp2
        exact ⟨⟨k + 1, by omega, by go_num, HI2, hb.trans (hb2.mono hb.size)⟩, by simp [intOf]; omega⟩
      | false =>
        go_wp2_with fail
        refine (isLay_clo u rs _ hR).mono ?_
        rintro e w2 ⟨rfl, hb2⟩
        rw [hreg]
        go_wp2
        go_ret
        exact ⟨(k : Int), rfl, by omega, by omega, fun h => by omega, fun _ => ⟨k, rs, Hr.out, hreg⟩, hb.trans (hb2.mono hb.size)⟩
    · have hke : k = rss.length := by omega
      subst hke
      go_wp2
      go_ret
      exact ⟨-1, rfl, by omega, by omega, fun _ => HI.out, fun h => by omega, hb⟩
def Found (w : World) (b : Bool) (e : Ending) (w' : World) : Prop := e = .returned (.bool b) ∧ Below w.heap.size w w'
theorem anyBad_any (v : Value) (rss : List (List Rc)) (w : World) (hv : RLL w 0 v rss) : Calls Tryz.prog 42 #[v, .func (.func 43) #[] #[]] w (Found w (!rss.all isReg)) := by
  have key : ∀ (n : Int), (n = -1 → ∀ (j : Nat) (rs : List Rc), j < rss.length → rss[j]? = some rs → isReg rs = true) → (0 ≤ n → ∃ (j : Nat) (rs : List Rc), rss[j]? = some rs ∧ isReg rs = false) → -1 ≤ n → decide (0 ≤ n) = !rss.all isReg := by
    intro n h1 h2 h3
    by_cases h : 0 ≤ n
    · obtain ⟨j, rs, hj, hr⟩ := h2 h
      have : rss.all isReg = false := by
        rw [Bool.eq_false_iff]
        intro hc
        rw [List.all_eq_true] at hc
        have := hc rs (List.mem_of_getElem? hj)
        rw [hr] at this
        cases this
      rw [this, decide_eq_true h]
      rfl
    · have hn : n = -1 := by omega
      have : rss.all isReg = true := by
        rw [List.all_eq_true]
        intro rs hrs
        obtain ⟨k, hk, e⟩ := List.getElem_of_mem hrs
        exact h1 hn k rs hk (by rw [List.getElem?_eq_getElem hk, e])
      rw [this, decide_eq_false h]
      rfl
  go_enter Tryz.func42, Tryz.ntmps42
  go_wp2_with fail
  refine (badAt_any v rss _ hv).mono ?_
  rintro e w1 ⟨n, rfl, h1, h2, h3, h4, hb1⟩
  have hk := Lib.hid (key n h3 h4 h1)
  clear h3 h4 key
  go_wp2
  go_ret
  exact ⟨ret_bool hk.out, hb1⟩
theorem isLay_impl (v : Value) (rss : List (List Rc)) (w : World) (hv : RLL w 0 v rss) : Calls Tryz.prog 19 #[v] w fun e w' => e = .returned (.bool (layB rss)) ∧ Below w.heap.size w w' := by
  obtain ⟨A, c, rfl, hc, hm⟩ := hv.form
  unfold maxLen at hm
  have hln : rss.length ≤ 9223372036854775807 := by omega
  by_cases h8 : rss.length = 8
  · have h8' : (((rss.length : Nat) : Int) == 8) = true := by simp; omega
    have e0 : layB rss = rss.all isReg := by unfold layB; rw [decide_eq_true h8, Bool.true_and]
    rw [e0]
    clear e0
    have H8 := Lib.hid h8
    clear h8
    go_enter Tryz.func19, Tryz.ntmps19
    go_wp2_with fail
    refine (anyBad_any _ rss _ hv).mono ?_
    rintro e w1 ⟨rfl, hb1⟩
    go_wp2
    go_ret
    exact ⟨ret_bool (by simp), hb1⟩
  · have h8' : (((rss.length : Nat) : Int) == 8) = false := by simp; omega
    rw [lay_len h8]
    clear hv
    go_enter Tryz.func19, Tryz.ntmps19
    go_wp2
    go_ret
    exact ⟨rfl, Below.refl _ _⟩


def layAt (rss : List (List Rc)) (i : Int) : List Rc := rss.getD i.toNat []
noncomputable def ruleM (rss : List (List Rc)) (r : Ru) : List Rc :=
  if r.k = 0 then markV (layAt rss r.l) r.v else if r.k = 1 then markgV (layAt rss r.l) r.v else if r.k = 2 then mkbV (layAt rss r.l) (layAt rss r.o) r.v else
  if r.k = 3 then encV (layAt rss r.l) (layAt rss r.o) r.v else if r.k = 4 then areaMV (layAt rss r.l) r.v else densV (layAt rss r.l) r.v r.p
noncomputable def rmV (rss : List (List Rc)) (r : Ru) : List Rc := if layB rss = true ∧ ruleB r = true then ruleM rss r else []
theorem rmV_yes {rss : List (List Rc)} {r : Ru} (h : layB rss = true) (h2 : ruleB r = true) : rmV rss r = ruleM rss r := if_pos ⟨h, h2⟩
theorem rmV_no1 {rss : List (List Rc)} {r : Ru} (h : layB rss = false) : rmV rss r = [] := if_neg (by rw [h]; simp)
theorem rmV_no2 {rss : List (List Rc)} {r : Ru} (h : ruleB r = false) : rmV rss r = [] := if_neg (by rw [h]; simp)
theorem ruleM_length (rss : List (List Rc)) (r : Ru) : (ruleM rss r).length ≤ 1000000 := by
  unfold ruleM
  repeat' split
  · exact markV_length _ _
  · exact markgV_length _ _
  · exact mkbV_length _ _ _
  · exact encV_length _ _ _
  · exact areaMV_length _ _
  · exact densV_length _ _ _
theorem rmV_length (rss : List (List Rc)) (r : Ru) : (rmV rss r).length ≤ 1000000 := by
  unfold rmV
  split
  · exact ruleM_length rss r
  · simp
theorem rule_facts {r : Ru} (h : ruleB r = true) : (0 ≤ r.k ∧ r.k ≤ 5) ∧ (0 ≤ r.l ∧ r.l ≤ 7) ∧ (0 ≤ r.o ∧ r.o ≤ 7) := by
  unfold ruleB otherB at h
  simp only [Bool.and_eq_true] at h
  obtain ⟨⟨⟨⟨h1, h2⟩, h3⟩, h4⟩, h5⟩ := h
  refine ⟨(inB_iff _ _ _).1 h1, (inB_iff _ _ _).1 h2, ?_⟩
  split at h4
  · rw [Bool.and_eq_true] at h4
    exact (inB_iff _ _ _).1 h4.1
  · have := of_decide_eq_true h4
    omega
/-- A layer of a layout, in memory. -/
theorem lay_elem {w : World} {B : Nat} {A : Option Addr} {n c : Nat} {rss : List (List Rc)} (h : RLL w B (.slice A n c) rss) {i : Nat} (hi : i < rss.length) : ∃ g u, A = some ⟨g, 0, none⟩ ∧ g < w.heap.size ∧ w.cell? ⟨g, i, none⟩ = some u ∧ RL w B u (layAt rss (i : Int)) := by
  obtain ⟨g, u, rs, hA, hr, hg, hc, hR⟩ := h.elem hi
  refine ⟨g, u, hA, hg, hc, ?_⟩
  have e : layAt rss (i : Int) = rs := by unfold layAt; rw [Int.toNat_natCast, List.getD_eq_getElem?_getD, hr]; rfl
  rw [e]
  exact hR

theorem ruleM_0 (rss : List (List Rc)) (l o v p : Int) : ruleM rss ⟨0, l, o, v, p⟩ = markV (layAt rss l) v := rfl
theorem ruleM_1 (rss : List (List Rc)) (l o v p : Int) : ruleM rss ⟨1, l, o, v, p⟩ = markgV (layAt rss l) v := rfl
theorem ruleM_2 (rss : List (List Rc)) (l o v p : Int) : ruleM rss ⟨2, l, o, v, p⟩ = mkbV (layAt rss l) (layAt rss o) v := rfl
theorem ruleM_3 (rss : List (List Rc)) (l o v p : Int) : ruleM rss ⟨3, l, o, v, p⟩ = encV (layAt rss l) (layAt rss o) v := rfl
theorem ruleM_4 (rss : List (List Rc)) (l o v p : Int) : ruleM rss ⟨4, l, o, v, p⟩ = areaMV (layAt rss l) v := rfl
theorem ruleM_5 (rss : List (List Rc)) (l o v p : Int) : ruleM rss ⟨5, l, o, v, p⟩ = densV (layAt rss l) v p := rfl

set_option maxHeartbeats 3200000 in
set_option maxRecDepth 100000 in
theorem rmv_impl (lv : Value) (rss : List (List Rc)) (r : Ru) (w : World) (hv : RLL w 0 lv rss) (hl : layB rss = true) (hr : ruleB r = true) : Calls Tryz.prog 47 #[lv, r.val] w fun e w' => ∃ u, e = .returned u ∧ RL w' w.heap.size u (ruleM rss r) ∧ Below w.heap.size w w' := by
  have hrf := rule_facts hr
  have h8 := ((layB_iff rss).1 hl).1
  obtain ⟨k, l, o, v, p⟩ := r
  dsimp only at hrf
  obtain ⟨i, rfl⟩ : ∃ i : Nat, l = (i : Int) := ⟨l.toNat, by omega⟩
  obtain ⟨j, rfl⟩ : ∃ j : Nat, o = (j : Int) := ⟨o.toNat, by omega⟩
  have hij : i < 8 ∧ j < 8 := by omega
  obtain ⟨A, c, rfl, -, -⟩ := hv.form
  have hb0 := (Below.refl w.heap.size w).alloc (Nat.le_refl _) (.cells #[.int .i64 k, .int .i64 (i : Int), .int .i64 (j : Int), .int .i64 v, .int .i64 p] 31)
  have zb := Bk.new w 31 #[.int .i64 k, .int .i64 (i : Int), .int .i64 (j : Int), .int .i64 v, .int .i64 p]
  have hv0 := hv.alloc (.cells #[.int .i64 k, .int .i64 (i : Int), .int .i64 (j : Int), .int .i64 v, .int .i64 p] 31)
  unfold Ru.val
  dsimp only
  clear hv
  have z2 := zb
  have v2 := hv0
  have b2 := hb0
  have H8 := Lib.hid h8
  clear zb hv0 hb0 hl hr h8
  go_enter Tryz.func47, Tryz.ntmps47
  go_upto_region 1 with fail
  obtain ⟨W, hW⟩ : ∃ W, W = w.alloc (.cells #[.int .i64 k, .int .i64 (i : Int), .int .i64 (j : Int), .int .i64 v, .int .i64 p] 31) := ⟨_, rfl⟩
  rw [← hW] at z2 v2 b2 ⊢
  clear hW
  have hlen8 : rss.length ≤ 8 ∧ 8 ≤ rss.length := by have := H8.out; omega
  obtain ⟨g, u1, rfl, hg, f1, r1⟩ := lay_elem v2 (i := i) (by omega)
  obtain ⟨g', u2, hg', -, f2, r2⟩ := lay_elem v2 (i := j) (by omega)
  cases hg'
  obtain ⟨c0, c1, c2, c3, c4⟩ := box5 z2
  obtain ⟨A1, n1, rfl, -, -, -⟩ := r1.form
  obtain ⟨A2, n2, rfl, -, -, -⟩ := r2.form
  have hi8 : (0 : Int) ≤ (i : Int) ∧ (i : Int) < (rss.length : Int) ∧ (0 : Int) ≤ (j : Int) ∧ (j : Int) < (rss.length : Int) := by omega
  have hi9 : i < rss.length ∧ j < rss.length := by omega
  clear v2
  have b3 := fun n => below_drewN b2 n
  have z3 := fun n => z2.drewN n
  go_quiet (fail)
  have B3 := b3 nq
  have Z3 := z3 nq
  have R1 : RL (W.drewN nq) 0 _ (layAt rss (i : Int)) := r1
  have R2 : RL (W.drewN nq) 0 _ (layAt rss (j : Int)) := r2
  clear b2 z2 r1 r2 b3 z3 c0 c1 c2 c3 c4 f1 f2 hg
  generalize W.drewN nq = w2 at *
  obtain ⟨c0, c1, c2, c3, c4⟩ := box5 Z3
  by_cases hk0 : k = 0
  · subst hk0
    go_wp2_with fail
    refine (markw_impl _ (layAt rss (i : Int)) v _ R1).mono ?_
    rintro e w4 ⟨z, rfl, hR, hb4⟩
    go_wp2
    go_ret
    exact ⟨_, rfl, by rw [ruleM_0]; exact hR.less B3.size, B3.trans (hb4.mono B3.size)⟩
  by_cases hk1 : k = 1
  · subst hk1
    go_wp2_with fail
    refine (markg_impl _ (layAt rss (i : Int)) v _ R1).mono ?_
    rintro e w4 ⟨z, rfl, hR, hb4⟩
    go_wp2
    go_ret
    exact ⟨_, rfl, by rw [ruleM_1]; exact hR.less B3.size, B3.trans (hb4.mono B3.size)⟩
  by_cases hk2 : k = 2
  · subst hk2
    go_wp2_with fail
    refine (mkb_impl _ (layAt rss (i : Int)) _ (layAt rss (j : Int)) v _ R1 R2).mono ?_
    rintro e w4 ⟨z, rfl, hR, hb4⟩
    go_wp2
    go_ret
    exact ⟨_, rfl, by rw [ruleM_2]; exact hR.less B3.size, B3.trans (hb4.mono B3.size)⟩
  by_cases hk3 : k = 3
  · subst hk3
    go_wp2_with fail
    refine (enc_impl _ (layAt rss (i : Int)) _ (layAt rss (j : Int)) v _ R1 R2).mono ?_
    rintro e w4 ⟨z, rfl, hR, hb4⟩
    go_wp2
    go_ret
    exact ⟨_, rfl, by rw [ruleM_3]; exact hR.less B3.size, B3.trans (hb4.mono B3.size)⟩
  by_cases hk4 : k = 4
  · subst hk4
    go_wp2_with fail
    refine (markArea_impl _ (layAt rss (i : Int)) v _ R1).mono ?_
    rintro e w4 ⟨z, rfl, hR, hb4⟩
    go_wp2
    go_ret
    exact ⟨_, rfl, by rw [ruleM_4]; exact hR.less B3.size, B3.trans (hb4.mono B3.size)⟩
  obtain rfl : k = 5 := by omega
  go_wp2_with fail
  refine (markd_impl _ (layAt rss (i : Int)) v p _ R1).mono ?_
  rintro e w4 ⟨z, rfl, hR, hb4⟩
  go_wp2
  go_ret
  exact ⟨_, rfl, by rw [ruleM_5]; exact hR.less B3.size, B3.trans (hb4.mono B3.size)⟩

end Go.Proofs.YtjiljodchebniaaGreat

namespace Go.Proofs.YtjiljodchebniaaGreat
open Go.RowKit

noncomputable def cleanAt (rss : List (List Rc)) (qs : List Ru) (j : Nat) : Bool := match qs[j]? with | some q => decide ((rmV rss q).length = 0) | none => true
noncomputable def allClean (rss : List (List Rc)) (qs : List Ru) : Bool := (List.range qs.length).all (cleanAt rss qs)
noncomputable def cleanB (rss : List (List Rc)) (qs : List Ru) : Bool := layB rss && deckB qs && allClean rss qs
theorem clean_at {rss : List (List Rc)} {qs : List Ru} {j : Nat} {q : Ru} (h : qs[j]? = some q) : cleanAt rss qs j = decide ((rmV rss q).length = 0) := by unfold cleanAt; rw [h]
theorem clean_bad {rss : List (List Rc)} {qs : List Ru} {k : Nat} (hk : k < qs.length) (h : cleanAt rss qs k = false) : allClean rss qs = false := by
  rw [Bool.eq_false_iff]
  intro hc
  unfold allClean at hc
  rw [List.all_eq_true] at hc
  have := hc k (List.mem_range.2 hk)
  rw [h] at this
  cases this
theorem clean_all {rss : List (List Rc)} {qs : List Ru} (h : ∀ j, j < qs.length → cleanAt rss qs j = true) : allClean rss qs = true := by
  unfold allClean
  rw [List.all_eq_true]
  exact fun j hj => h j (List.mem_range.1 hj)
theorem deck_rule {qs : List Ru} {k : Nat} {q : Ru} (h : deckB qs = true) (hq : qs[k]? = some q) : ruleB q = true := by
  unfold deckB at h
  rw [Bool.and_eq_true, List.all_eq_true] at h
  have := h.2 k (List.mem_range.2 (List.getElem?_eq_some_iff.1 hq).1)
  rw [good_at hq, Bool.and_eq_true] at this
  exact this.1

def dirtAt (rss : List (List Rc)) (qs : List Ru) (w : World) (e : Ending) (w' : World) : Prop := ∃ n : Int, e = .returned (.int .i64 n) ∧ -1 ≤ n ∧ n ≤ 1000000000 ∧ decide (0 ≤ n) = (!allClean rss qs) ∧ Below w.heap.size w w'
end Go.Proofs.YtjiljodchebniaaGreat

namespace Go.Proofs.YtjiljodchebniaaGreat
open Go.RowKit

/-- What a truth table tells of two sets. -/
def tabG (op : Int) (G H : Gr) : Gr := fun i => if op = 14 then G i || H i else G i && H i
theorem tab14 (G H : Gr) : tabG 14 G H = unionG G H := rfl
theorem tab8 (G H : Gr) : tabG 8 G H = interG G H := rfl

end Go.Proofs.YtjiljodchebniaaGreat

namespace Go.Proofs.YtjiljodchebniaaGreat
open Go.RowKit

/-- The step leads to both sides, off the set, or to a cell of the list. -/
theorem vis_has {L : Gr} {qs : List Nat} {j : Nat} {a b X Y : Int} (h : Vis L qs j ((a + 1) * 3 + (b + 1))) (ha : -1 ≤ a ∧ a ≤ 1) (hb : -1 ≤ b ∧ b ≤ 1) (hX : X = ((j % 80 : Nat) : Int) - 40 + b) (hY : Y = ((j / 80 : Nat) : Int) - 40 + a)
    (ho : (b ≠ 0 ∧ a ≠ 0) ∨ hasG L X Y = false ∨ (ix X Y).toNat ∈ qs) : Vis L qs j ((a + 1) * 3 + (b + 1 + 1)) := by
  rw [← Int.add_assoc]
  refine vis_next h fun m hm hn hL hp => ?_
  obtain ⟨h1, h2, h3⟩ := vis_pos hn ha hb hp
  obtain ⟨h4, h5⟩ := ix_of (m := m) (x := X) (y := Y) hm (by omega) (by omega)
  rcases ho with ho | ho | ho
  · omega
  · rw [hasG_on h4, h5, hL] at ho
    cases ho
  · rw [h5] at ho
    exact ho
theorem grid_nbr {qs : List Nat} {j : Nat} {a b X Y : Int} (hj : j ∈ qs) (ha : -1 ≤ a ∧ a ≤ 1) (hb : -1 ≤ b ∧ b ≤ 1) (hz : b = 0 ∨ a = 0) (hX : X = ((j % 80 : Nat) : Int) - 40 + b) (hY : Y = ((j / 80 : Nat) : Int) - 40 + a)
    (hon : onC X Y = true) (hnew : setL qs (ix X Y).toNat = false) : nbr j (ix X Y).toNat ∧ (ix X Y).toNat < 6400 := by
  rw [onC_iff] at hon
  have e : ((ix X Y).toNat : Int) = (Y + 40) * 80 + (X + 40) := by unfold ix; omega
  exact ⟨on_nbr hj ha hb (by omega) (by omega) (by omega) hnew, by omega⟩

end Go.Proofs.YtjiljodchebniaaGreat

namespace Go.Proofs.YtjiljodchebniaaGreat
open Go.RowKit

/-- Is the pair a valid violation? -/
noncomputable def vioV (k : Int) (rs : List Rc) : Bool := inB 0 k 11 && connV rs

set_option maxHeartbeats 800000 in
theorem vio_impl (k : Int) (v : Value) (rs : List Rc) (w : World) (hv : RL w 0 v rs) : Calls Tryz.prog 26 #[.agg #[.int .i64 k, v]] w fun e w' => e = .returned (.bool (vioV k rs)) ∧ Below w.heap.size w w' := by
  have hv1 := RL.alloc hv (.cells #[.int .i64 k, v] 45)
  have hb0 := (Below.refl w.heap.size w).alloc (Nat.le_refl _) (.cells #[.int .i64 k, v] 45)
  obtain ⟨A, c, rfl, hc, hm, -⟩ := hv.form
  clear hv
  unfold vioV
  cases h : inB 0 k 11 with
  | true =>
    rw [Bool.true_and]
    go_enter Tryz.func26, Tryz.ntmps26
    go_wp2_with (go_at_call 23; refine (within_any _ _ _ _).mono ?_; rintro e w1 ⟨rfl, rfl⟩; rw [h])
    refine (conn_impl _ rs _ hv1).mono ?_
    rintro e w2 ⟨rfl, hb2⟩
    go_wp2
    go_ret
    exact ⟨rfl, hb0.trans (hb2.mono hb0.size)⟩
  | false =>
    rw [Bool.false_and]
    go_enter Tryz.func26, Tryz.ntmps26
    go_wp2_with (go_at_call 23; refine (within_any _ _ _ _).mono ?_; rintro e w1 ⟨rfl, rfl⟩; rw [h])
    go_ret
    exact ⟨rfl, hb0⟩

end Go.Proofs.YtjiljodchebniaaGreat

namespace Go.Proofs.YtjiljodchebniaaGreat
open Go.RowKit

theorem parts_start (G : Gr) : comps G = [] ++ compsF (minusG G emptyG) (ix (-40) (-40)).toNat := by
  have e : (ix (-40) (-40)).toNat = 0 := by unfold ix; omega
  rw [e, minus_empty, List.nil_append, comps]

/-- A list of sets is kept by an append to a list of lists of rectangles. -/
theorem GSL.keptL {w w' : World} {B B2 : Nat} {v v2 : Value} {Gs : List Gr} {rss : List (List Rc)} (h : GSL w B v Gs) (ho : RLL w B2 v2 rss) (hg : w.grownBy w' v2.ownBlock) : GSL w' B v Gs := by
  obtain ⟨vs, h1, h2, h3⟩ := h
  obtain ⟨us, k1, _, _⟩ := ho
  exact ⟨vs, World.ownsRow.kept h1 hg (own_apart h1 k1 (by decide)), h2, fun k u G hu hG => (h3 k u G hu hG).kept k1 (by decide) hg⟩

end Go.Proofs.YtjiljodchebniaaGreat

namespace Go.Proofs.YtjiljodchebniaaGreat
open Go.RowKit

theorem comps_empty : ∀ n i : Nat, 6400 - i ≤ n → compsF emptyG i = []
  | 0, i, h => compsF_end (by omega)
  | n + 1, i, h => by
    by_cases hi : i < 6400
    · rw [compsF_no hi rfl, comps_empty n (i + 1) (by omega)]
    · exact compsF_end (by omega)
theorem conn_ne {rs : List Rc} (h : connV rs = true) : rs ≠ [] := by
  rintro rfl
  unfold connV at h
  rw [cellsG_nil, comps, comps_empty 6400 0 (by omega)] at h
  simp at h
theorem conn_reg {rs : List Rc} (h : connV rs = true) : isReg rs = true := by
  unfold connV at h
  rw [Bool.and_eq_true] at h
  exact h.1
theorem vio_conn {k : Int} {rs : List Rc} (h : vioV k rs = true) : connV rs = true := by
  unfold vioV at h
  rw [Bool.and_eq_true] at h
  exact h.2

def spanR (a r : Rc) : Rc := ⟨min a.x0 r.x0, min a.y0 r.y0, max a.x1 r.x1, max a.y1 r.y1⟩
def boxT (rs : List Rc) (k : Nat) : Rc := (rs.take k).foldl spanR (rs.headD ⟨0, 0, 0, 0⟩)
def boxR (rs : List Rc) : Rc := boxT rs rs.length
theorem boxT_step {rs : List Rc} {k : Nat} {r : Rc} (h : rs[k]? = some r) : boxT rs (k + 1) = spanR (boxT rs k) r := by
  unfold boxT
  rw [List.take_add_one, h, Option.toList, List.foldl_append]
  rfl
theorem boxT_zero (rs : List Rc) : boxT rs 0 = rs.headD ⟨0, 0, 0, 0⟩ := rfl
theorem boxT_one {rs : List Rc} {r : Rc} (h : rs[0]? = some r) : boxT rs 1 = r := by
  obtain ⟨x0, y0, x1, y1⟩ := r
  match rs, h with
  | a :: l, h =>
    simp at h
    subst h
    simp [boxT, spanR]
theorem headD_get {rs : List Rc} {r : Rc} (h : rs[0]? = some r) : rs.headD ⟨0, 0, 0, 0⟩ = r := by
  match rs, h with
  | a :: l, h => simpa using h

noncomputable def vbR (k : Int) (rs : List Rc) : Rc := if vioV k rs = true then boxR rs else ⟨0, 0, 0, 0⟩
theorem vbR_yes {k : Int} {rs : List Rc} (h : vioV k rs = true) : vbR k rs = boxR rs := if_pos h
theorem vbR_no {k : Int} {rs : List Rc} (h : vioV k rs = false) : vbR k rs = ⟨0, 0, 0, 0⟩ := if_neg (by rw [h]; simp)

end Go.Proofs.YtjiljodchebniaaGreat
