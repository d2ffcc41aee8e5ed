/- Contracts: IsLayout, l19Layout and RuleMarkers of the reference and of the program. Condition: a list of lists in memory. -/
import Derived.Test.YtemeegpmdhgocaaGreatRuleA
import Derived.Test.YtemeegpmdhgocaaGreatWidthA
import Derived.Test.YtemeegpmdhgocaaGreatSpacA
import Derived.Test.YtemeegpmdhgocaaGreatEncA
import Derived.Test.YtemeegpmdhgocaaGreatMarkK
import Derived.Test.YtemeegpmdhgocaaGreatDensA
import Derived.Test.YtemeegpmdhgocaaGreatCopy
import Derived.BigQuiet
namespace Go.Proofs.YtemeegpmdhgocaaGreat
open Go.RowKit

def layB (rss : List (List Rc)) : Bool := decide (rss.length = 8) && rss.all isReg
theorem layB_iff (rss : List (List Rc)) : layB rss = true ↔ rss.length = 8 ∧ ∀ rs ∈ rss, isReg rs = true := by simp [layB]
theorem lay_bad {rss : List (List Rc)} {k : Nat} {rs : List Rc} (h : rss[k]? = some rs) (hr : isReg rs = false) : layB rss = false := by
  rw [Bool.eq_false_iff]
  intro hc
  have := ((layB_iff rss).1 hc).2 rs (List.mem_of_getElem? h)
  rw [hr] at this
  cases this
theorem lay_all {rss : List (List Rc)} (h : ∀ (j : Nat) (rs : List Rc), j < rss.length → rss[j]? = some rs → isReg rs = true) : layB rss = decide (rss.length = 8) := by
  have : rss.all isReg = true := by
    rw [List.all_eq_true]
    intro rs hrs
    obtain ⟨k, hk, e⟩ := List.getElem_of_mem hrs
    exact h k rs hk (by rw [List.getElem?_eq_getElem hk, e])
  unfold layB
  rw [this, Bool.and_true]
theorem lay_len {rss : List (List Rc)} (h : rss.length ≠ 8) : layB rss = false := by unfold layB; rw [decide_eq_false h, Bool.false_and]


set_option maxHeartbeats 800000 in
set_option maxRecDepth 100000 in
theorem isLay_spec (v : Value) (rss : List (List Rc)) (w : World) (hv : RLL w 0 v rss) : Calls Tryz.prog 23 #[v] w fun e w' => e = .returned (.bool (layB rss)) ∧ Below w.heap.size w w' := by
  obtain ⟨A, c, rfl, hc, hm⟩ := hv.form
  have hb0 := Below.refl w.heap.size w
  unfold maxLen at hm
  have hln : rss.length ≤ 9223372036854775807 := by omega
  by_cases h8 : rss.length = 8
  case' neg =>
    rw [lay_len h8]
    have h8' : (((rss.length : Nat) : Int) != 8) = true := by simp; omega
    clear hv
    go_enter Tryz.func23, Tryz.ntmps23
    go_wp2
    go_ret
    exact ⟨rfl, Below.refl _ _⟩
  have h8' : (((rss.length : Nat) : Int) != 8) = false := by simp; omega
  have H8 := Lib.hid h8
  clear h8
  have Hi0 := Lib.hid (show ∀ (j : Nat) (rs : List Rc), j < 0 → rss[j]? = some rs → isReg rs = true from fun j rs hj => absurd hj (by omega))
  go_enter Tryz.func23, Tryz.ntmps23
  go_wp2
  go_loopw [3] (fun iv wr => ∃ k : Nat, k ≤ rss.length ∧ iv = .int .i64 k ∧ Hid (∀ (j : Nat) (rs : List Rc), j < k → rss[j]? = some rs → isReg rs = true) ∧ Below w.heap.size w wr) (fun iv _ => rss.length - (intOf iv).toNat)
  case atStart => exact ⟨0, Nat.zero_le _, rfl, Hi0, hb0⟩
  case round =>
    obtain ⟨k, hk, rfl, HI, hb⟩ := hrel
    clear hb0 Hi0
    by_cases hlt : k < rss.length
    · obtain ⟨g, u, rs, rfl, hr, hg, f0, hR⟩ := (hv.on hb).elem hlt
      have Hr := Lib.hid hr
      have hk9 : k < 9223372036854775807 := by omega
      clear hr hv
      cases hreg : isReg rs with
      | true =>
        have HI2 := Lib.hid (show ∀ (j : Nat) (qs : List Rc), j < k + 1 → rss[j]? = some qs → isReg qs = true from fun j qs hj hq => by
          by_cases e : j = k
          · subst e
            rw [Hr.out] at hq
            cases hq
            exact hreg
          · exact HI.out j qs (by omega) hq)
        go_wp2_with fail
        refine (l03Ok_any u rs _ hR).mono ?_
        rintro e w2 ⟨rfl, hb2⟩
        rw [hreg]
        go_wp2
        exact ⟨⟨k + 1, by omega, by go_num, HI2, hb.trans (hb2.mono hb.size)⟩, by simp [intOf]; omega⟩
      | false =>
        have Hbad := Lib.hid (lay_bad Hr.out hreg)
        go_wp2_with fail
        refine (l03Ok_any u rs _ hR).mono ?_
        rintro e w2 ⟨rfl, hb2⟩
        rw [hreg]
        go_wp2
        go_ret
        exact ⟨ret_bool Hbad.out.symm, hb.trans (hb2.mono hb.size)⟩
    · have hke : k = rss.length := by omega
      subst hke
      have Hall := Lib.hid (lay_all HI.out)
      go_wp2
      go_ret
      exact ⟨ret_bool (by rw [Hall.out]; exact (decide_eq_true H8.out).symm), hb⟩


theorem isLay_clo (v : Value) (rs : List Rc) (w : World) (hv : RL w 0 v rs) : Calls Tryz.prog 57 #[v] w fun e w' => e = .returned (.bool (!isReg rs)) ∧ Below w.heap.size w w' := by
  go_enter Tryz.func57, Tryz.ntmps57
  go_wp2_with fail
  refine (isRegion_any v rs _ hv).mono ?_
  rintro e w1 ⟨rfl, hb1⟩
  go_wp2
  go_ret
  exact ⟨rfl, hb1⟩
/-- The first list that is no region, or -1. -/
def BadAt (w : World) (rss : List (List Rc)) (e : Ending) (w' : World) : Prop := ∃ n : Int, e = .returned (.int .i64 n) ∧ -1 ≤ n ∧ n ≤ rss.length ∧ (n = -1 → ∀ (j : Nat) (rs : List Rc), j < rss.length → rss[j]? = some rs → isReg rs = true) ∧ (0 ≤ n → ∃ (j : Nat) (rs : List Rc), rss[j]? = some rs ∧ isReg rs = false) ∧ Below w.heap.size w w'
set_option maxHeartbeats 800000 in
set_option maxRecDepth 100000 in
theorem badAt_any (v : Value) (rss : List (List Rc)) (w : World) (hv : RLL w 0 v rss) : Calls Tryz.prog 92 #[v, .func (.func 57) #[] #[]] w (BadAt w rss) := by
  obtain ⟨A, c, rfl, hc, hm⟩ := hv.form
  have hb0 := Below.refl w.heap.size w
  unfold maxLen at hm
  have hln : rss.length ≤ 9223372036854775807 := by omega
  have Hi0 := Lib.hid (show ∀ (j : Nat) (rs : List Rc), j < 0 → rss[j]? = some rs → isReg rs = true from fun j rs hj => absurd hj (by omega))
  go_enter Tryz.func92, Tryz.ntmps92
  go_wp2
  go_loopw [8] (fun iv wr => ∃ k : Nat, k ≤ rss.length ∧ iv = .int .i64 k ∧ Hid (∀ (j : Nat) (rs : List Rc), j < k → rss[j]? = some rs → isReg rs = true) ∧ Below w.heap.size w wr) (fun iv _ => rss.length - (intOf iv).toNat)
  case atStart => exact ⟨0, Nat.zero_le _, rfl, Hi0, hb0⟩
  case round =>
    obtain ⟨k, hk, rfl, HI, hb⟩ := hrel
    clear hb0 Hi0
    by_cases hlt : k < rss.length
    · obtain ⟨g, u, rs, rfl, hr, hg, f0, hR⟩ := (hv.on hb).elem hlt
      have Hr := Lib.hid hr
      have hk9 : k < 9223372036854775807 := by omega
      clear hr hv
      cases hreg : isReg rs with
      | true =>
        have HI2 := Lib.hid (show ∀ (j : Nat) (qs : List Rc), j < k + 1 → rss[j]? = some qs → isReg qs = true from fun j qs hj hq => by
          by_cases e : j = k
          · subst e
            rw [Hr.out] at hq
            cases hq
            exact hreg
          · exact HI.out j qs (by omega) hq)
        go_wp2_with fail
        refine (isLay_clo u rs _ hR).mono ?_
        rintro e w2 ⟨rfl, hb2⟩
        rw [hreg]
        go_wp2
        exact ⟨⟨k + 1, by omega, by go_num, HI2, hb.trans (hb2.mono hb.size)⟩, by simp [intOf]; omega⟩
      | false =>
        go_wp2_with fail
        refine (isLay_clo u rs _ hR).mono ?_
        rintro e w2 ⟨rfl, hb2⟩
        rw [hreg]
        go_wp2
        go_ret
        exact ⟨(k : Int), rfl, by omega, by omega, fun h => by omega, fun _ => ⟨k, rs, Hr.out, hreg⟩, hb.trans (hb2.mono hb.size)⟩
    · have hke : k = rss.length := by omega
      subst hke
      go_wp2
      go_ret
      exact ⟨-1, rfl, by omega, by omega, fun _ => HI.out, fun h => by omega, hb⟩
def Found (w : World) (b : Bool) (e : Ending) (w' : World) : Prop := e = .returned (.bool b) ∧ Below w.heap.size w w'
theorem anyBad_any (v : Value) (rss : List (List Rc)) (w : World) (hv : RLL w 0 v rss) : Calls Tryz.prog 56 #[v, .func (.func 57) #[] #[]] w (Found w (!rss.all isReg)) := by
  have key : ∀ (n : Int), (n = -1 → ∀ (j : Nat) (rs : List Rc), j < rss.length → rss[j]? = some rs → isReg rs = true) → (0 ≤ n → ∃ (j : Nat) (rs : List Rc), rss[j]? = some rs ∧ isReg rs = false) → -1 ≤ n → decide (0 ≤ n) = !rss.all isReg := by
    intro n h1 h2 h3
    by_cases h : 0 ≤ n
    · obtain ⟨j, rs, hj, hr⟩ := h2 h
      have : rss.all isReg = false := by
        rw [Bool.eq_false_iff]
        intro hc
        rw [List.all_eq_true] at hc
        have := hc rs (List.mem_of_getElem? hj)
        rw [hr] at this
        cases this
      rw [this, decide_eq_true h]
      rfl
    · have hn : n = -1 := by omega
      have : rss.all isReg = true := by
        rw [List.all_eq_true]
        intro rs hrs
        obtain ⟨k, hk, e⟩ := List.getElem_of_mem hrs
        exact h1 hn k rs hk (by rw [List.getElem?_eq_getElem hk, e])
      rw [this, decide_eq_false h]
      rfl
  go_enter Tryz.func56, Tryz.ntmps56
  go_wp2_with fail
  refine (badAt_any v rss _ hv).mono ?_
  rintro e w1 ⟨n, rfl, h1, h2, h3, h4, hb1⟩
  have hk := Lib.hid (key n h3 h4 h1)
  clear h3 h4 key
  go_wp2
  go_ret
  exact ⟨ret_bool hk.out, hb1⟩
theorem isLay_impl (v : Value) (rss : List (List Rc)) (w : World) (hv : RLL w 0 v rss) : Calls Tryz.prog 30 #[v] w fun e w' => e = .returned (.bool (layB rss)) ∧ Below w.heap.size w w' := by
  obtain ⟨A, c, rfl, hc, hm⟩ := hv.form
  unfold maxLen at hm
  have hln : rss.length ≤ 9223372036854775807 := by omega
  by_cases h8 : rss.length = 8
  · have h8' : (((rss.length : Nat) : Int) == 8) = true := by simp; omega
    have e0 : layB rss = rss.all isReg := by unfold layB; rw [decide_eq_true h8, Bool.true_and]
    rw [e0]
    clear e0
    have H8 := Lib.hid h8
    clear h8
    go_enter Tryz.func30, Tryz.ntmps30
    go_wp2_with fail
    refine (anyBad_any _ rss _ hv).mono ?_
    rintro e w1 ⟨rfl, hb1⟩
    go_wp2
    go_ret
    exact ⟨ret_bool (by simp), hb1⟩
  · have h8' : (((rss.length : Nat) : Int) == 8) = false := by simp; omega
    rw [lay_len h8]
    clear hv
    go_enter Tryz.func30, Tryz.ntmps30
    go_wp2
    go_ret
    exact ⟨rfl, Below.refl _ _⟩


def layAt (rss : List (List Rc)) (i : Int) : List Rc := rss.getD i.toNat []
noncomputable def ruleM (rss : List (List Rc)) (r : Ru) : List Rc :=
  if r.k = 0 then markV (layAt rss r.l) r.v else if r.k = 1 then markgV (layAt rss r.l) r.v else if r.k = 2 then mkbV (layAt rss r.l) (layAt rss r.o) r.v else
  if r.k = 3 then encV (layAt rss r.l) (layAt rss r.o) r.v else if r.k = 4 then areaMV (layAt rss r.l) r.v else densV (layAt rss r.l) r.v r.p
noncomputable def rmV (rss : List (List Rc)) (r : Ru) : List Rc := if layB rss = true ∧ ruleB r = true then ruleM rss r else []
theorem rmV_yes {rss : List (List Rc)} {r : Ru} (h : layB rss = true) (h2 : ruleB r = true) : rmV rss r = ruleM rss r := if_pos ⟨h, h2⟩
theorem rmV_no1 {rss : List (List Rc)} {r : Ru} (h : layB rss = false) : rmV rss r = [] := if_neg (by rw [h]; simp)
theorem rmV_no2 {rss : List (List Rc)} {r : Ru} (h : ruleB r = false) : rmV rss r = [] := if_neg (by rw [h]; simp)
theorem ruleM_length (rss : List (List Rc)) (r : Ru) : (ruleM rss r).length ≤ 1000000 := by
  unfold ruleM
  repeat' split
  · exact markV_length _ _
  · exact markgV_length _ _
  · exact mkbV_length _ _ _
  · exact encV_length _ _ _
  · exact areaMV_length _ _
  · exact densV_length _ _ _
theorem rmV_length (rss : List (List Rc)) (r : Ru) : (rmV rss r).length ≤ 1000000 := by
  unfold rmV
  split
  · exact ruleM_length rss r
  · simp
theorem rule_facts {r : Ru} (h : ruleB r = true) : (0 ≤ r.k ∧ r.k ≤ 5) ∧ (0 ≤ r.l ∧ r.l ≤ 7) ∧ (0 ≤ r.o ∧ r.o ≤ 7) := by
  unfold ruleB otherB at h
  simp only [Bool.and_eq_true] at h
  obtain ⟨⟨⟨⟨h1, h2⟩, h3⟩, h4⟩, h5⟩ := h
  refine ⟨(inB_iff _ _ _).1 h1, (inB_iff _ _ _).1 h2, ?_⟩
  split at h4
  · rw [Bool.and_eq_true] at h4
    exact (inB_iff _ _ _).1 h4.1
  · have := of_decide_eq_true h4
    omega
/-- A layer of a layout, in memory. -/
theorem lay_elem {w : World} {B : Nat} {A : Option Addr} {n c : Nat} {rss : List (List Rc)} (h : RLL w B (.slice A n c) rss) {i : Nat} (hi : i < rss.length) : ∃ g u, A = some ⟨g, 0, none⟩ ∧ g < w.heap.size ∧ w.cell? ⟨g, i, none⟩ = some u ∧ RL w B u (layAt rss (i : Int)) := by
  obtain ⟨g, u, rs, hA, hr, hg, hc, hR⟩ := h.elem hi
  refine ⟨g, u, hA, hg, hc, ?_⟩
  have e : layAt rss (i : Int) = rs := by unfold layAt; rw [Int.toNat_natCast, List.getD_eq_getElem?_getD, hr]; rfl
  rw [e]
  exact hR

theorem ruleM_0 (rss : List (List Rc)) (l o v p : Int) : ruleM rss ⟨0, l, o, v, p⟩ = markV (layAt rss l) v := rfl
theorem ruleM_1 (rss : List (List Rc)) (l o v p : Int) : ruleM rss ⟨1, l, o, v, p⟩ = markgV (layAt rss l) v := rfl
theorem ruleM_2 (rss : List (List Rc)) (l o v p : Int) : ruleM rss ⟨2, l, o, v, p⟩ = mkbV (layAt rss l) (layAt rss o) v := rfl
theorem ruleM_3 (rss : List (List Rc)) (l o v p : Int) : ruleM rss ⟨3, l, o, v, p⟩ = encV (layAt rss l) (layAt rss o) v := rfl
theorem ruleM_4 (rss : List (List Rc)) (l o v p : Int) : ruleM rss ⟨4, l, o, v, p⟩ = areaMV (layAt rss l) v := rfl
theorem ruleM_5 (rss : List (List Rc)) (l o v p : Int) : ruleM rss ⟨5, l, o, v, p⟩ = densV (layAt rss l) v p := rfl

end Go.Proofs.YtemeegpmdhgocaaGreat
