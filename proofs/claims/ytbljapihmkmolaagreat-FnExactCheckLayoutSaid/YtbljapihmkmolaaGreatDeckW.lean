/- Contracts: IsValidDeck of the reference and of the program. Condition: a list of rules in memory. -/
import Derived.Test.YtbljapihmkmolaaGreatDeckV
import Derived.Test.YtbljapihmkmolaaGreatRuleV
import Derived.Deep.RegionHeld3
namespace Go.Proofs.YtbljapihmkmolaaGreat
open Go.RowKit

def goodAt (qs : List Ru) (j : Nat) : Bool := match qs[j]? with | some q => ruleB q && !hasQ (qs.take j) q | none => true
def deckB (qs : List Ru) : Bool := decide (qs.length ≤ 12) && (List.range qs.length).all (goodAt qs)
theorem good_at {qs : List Ru} {j : Nat} {q : Ru} (h : qs[j]? = some q) : goodAt qs j = (ruleB q && !hasQ (qs.take j) q) := by unfold goodAt; rw [h]
theorem deck_long {qs : List Ru} (h : ¬ qs.length ≤ 12) : deckB qs = false := by unfold deckB; rw [decide_eq_false h, Bool.false_and]
theorem deck_bad {qs : List Ru} {k : Nat} (hk : k < qs.length) (h : goodAt qs k = false) : deckB qs = false := by
  rw [Bool.eq_false_iff]
  intro hc
  unfold deckB at hc
  rw [Bool.and_eq_true, List.all_eq_true] at hc
  have := hc.2 k (List.mem_range.2 hk)
  rw [h] at this
  cases this
theorem deck_all {qs : List Ru} (h : ∀ j, j < qs.length → goodAt qs j = true) : deckB qs = decide (qs.length ≤ 12) := by
  have : (List.range qs.length).all (goodAt qs) = true := by
    rw [List.all_eq_true]
    exact fun j hj => h j (List.mem_range.1 hj)
  unfold deckB
  rw [this, Bool.and_true]
theorem box1 {w : World} {g : Nat} {t : TypeId} {a : Value} (h : Bk w g t #[a]) : w.cell? ⟨g, 0, none⟩ = some a := h.cell 0
theorem QL.five {w : World} {B g n c k : Nat} {qs : List Ru} {a0 a1 a2 a3 a4 : Int} (h : QL w B (.slice (some ⟨g, 0, none⟩) n c) qs) (hq : qs[k]? = some ⟨a0, a1, a2, a3, a4⟩) : w.cell? ⟨g, k * 5, none⟩ = some (.int .i64 a0) ∧ w.cell? ⟨g, k * 5 + 1, none⟩ = some (.int .i64 a1) ∧ w.cell? ⟨g, k * 5 + 2, none⟩ = some (.int .i64 a2) ∧ w.cell? ⟨g, k * 5 + 3, none⟩ = some (.int .i64 a3) ∧ w.cell? ⟨g, k * 5 + 4, none⟩ = some (.int .i64 a4) := by
  obtain ⟨g', hA, -, -, h0, h1, h2, h3, h4⟩ := h.elem hq
  cases hA
  exact ⟨h0, h1, h2, h3, h4⟩

set_option maxHeartbeats 3200000 in
set_option maxRecDepth 100000 in
theorem deck_spec (v : Value) (qs : List Ru) (w : World) (hv : QL w 0 v qs) : Calls Tryz.prog 64 #[.agg #[v]] w fun e w' => e = .returned (.bool (deckB qs)) ∧ Below w.heap.size w w' := by
  obtain ⟨A, c, rfl, hc, hm⟩ := hv.form
  unfold maxLen at hm
  have hb0 := (Below.refl w.heap.size w).alloc (Nat.le_refl _) (.cells #[.slice A qs.length c] 44)
  have zb := Bk.new w 44 #[.slice A qs.length c]
  have hX0 := hv.alloc (.cells #[.slice A qs.length c] 44)
  clear hv
  by_cases h12 : qs.length ≤ 12
  case' neg =>
    rw [deck_long h12]
    have h12' : (12 : Int) < (qs.length : Int) := by omega
    clear hX0 zb
    go_enter Tryz.func64, Tryz.ntmps64
    go_wp2
    go_ret
    exact ⟨rfl, hb0⟩
  have h12' : ¬ ((12 : Int) < (qs.length : Int)) := by omega
  have Hi0 := Lib.hid (show ∀ j, j < 0 → goodAt qs j = true from fun j hj => absurd hj (by omega))
  go_enter Tryz.func64, Tryz.ntmps64
  go_wp2
  go_loopw [3] (fun iv wr => ∃ k : Nat, k ≤ qs.length ∧ iv = .int .i64 k ∧ Hid (∀ j, j < k → goodAt qs j = true) ∧ QL wr 0 (.slice A qs.length c) qs ∧ Bk wr w.heap.size 44 #[.slice A qs.length c] ∧ Below w.heap.size w wr) (fun iv _ => qs.length - (intOf iv).toNat)
  case atStart => exact ⟨0, Nat.zero_le _, rfl, Hi0, hX0, zb, hb0⟩
  case round =>
    obtain ⟨k, hk, rfl, HI, hX, hz, hb⟩ := hrel
    clear hb0 Hi0 zb hX0
    have d0 := box1 hz
    by_cases hlt : k < qs.length
    · obtain ⟨q, hq⟩ : ∃ q, qs[k]? = some q := ⟨_, List.getElem?_eq_getElem hlt⟩
      obtain ⟨g, rfl, -, hg, f0, f1, f2, f3, f4⟩ := hX.elem hq
      obtain ⟨a0, a1, a2, a3, a4⟩ := q
      dsimp only at f0 f1 f2 f3 f4
      have Hq := Lib.hid hq
      have Hgood := Lib.hid (good_at hq)
      have hkc : k ≤ c := by omega
      have hk9 : k < 9223372036854775807 := by omega
      have hkz : ((0 : Int) ≤ (k : Int)) ∧ (k : Int) ≤ (c : Int) := by omega
      clear hq
      have hHs := Lib.hid (fun (w2 : World) (h2 : QL w2 0 (.slice (some ⟨g, 0, none⟩) qs.length c) qs) => l16Has_any (some ⟨g, 0, none⟩) k c (qs.take k) ⟨a0, a1, a2, a3, a4⟩ w2 (h2.arg.take (Nat.le_of_lt hlt)) (by omega))
      cases hr : ruleB ⟨a0, a1, a2, a3, a4⟩ with
      | true =>
        have Hr := Lib.hid hr
        have Hlt := Lib.hid hlt
        go_wp2
        have tc := hb.drew
        have zz := hz.drew
        have xx := hX.drew
        clear hb hz hX f0 f1 f2 f3 f4 d0 hr
        go_region_held3 (fun w' => w'.cell? ⟨w.heap.size, 0, none⟩ = some (.slice (some ⟨g, 0, none⟩) qs.length c) ∧ (w'.cell? ⟨g, k * 5, none⟩ = some (.int .i64 a0) ∧ w'.cell? ⟨g, k * 5 + 1, none⟩ = some (.int .i64 a1) ∧ w'.cell? ⟨g, k * 5 + 2, none⟩ = some (.int .i64 a2) ∧ w'.cell? ⟨g, k * 5 + 3, none⟩ = some (.int .i64 a3) ∧ w'.cell? ⟨g, k * 5 + 4, none⟩ = some (.int .i64 a4))) (exact ⟨box1 zz, xx.five Hq.out⟩)
          (first | (go_at_call 51; refine (rule_spec ⟨a0, a1, a2, a3, a4⟩ _).mono ?_; rintro e w6 ⟨rfl, hb6⟩; rw [Hr.out]; have tc := tc.trans (hb6.mono tc.size); have zz := zz.on hb6; have xx := xx.on hb6)
                 | (go_at_call 127; refine (hHs.out _ xx).mono ?_; rintro e w7 ⟨rfl, hb7⟩; have tc := tc.trans (hb7.mono tc.size); have zz := zz.on hb7; have xx := xx.on hb7))
        rw [Hr.out, Bool.true_and] at Hgood
        cases hh : hasQ (qs.take k) ⟨a0, a1, a2, a3, a4⟩ with
        | true =>
          rw [hh] at Hgood
          have Hbad := Lib.hid (deck_bad Hlt.out Hgood.out)
          go_wp2
          go_ret
          exact ⟨ret_bool Hbad.out.symm, tc⟩
        | false =>
          rw [hh] at Hgood
          have HI2 := Lib.hid (show ∀ j, j < k + 1 → goodAt qs j = true from fun j hj => by
            by_cases e : j = k
            · subst e
              exact Hgood.out
            · exact HI.out j (by omega))
          go_wp2
          exact ⟨⟨k + 1, by omega, by go_num, HI2, xx, zz, tc⟩, by simp [intOf]; omega⟩
      | false =>
        have Hr := Lib.hid hr
        have Hbad := Lib.hid (deck_bad hlt (by rw [Hgood.out, hr, Bool.false_and]))
        go_wp2
        have tc := hb.drew
        have zz := hz.drew
        have xx := hX.drew
        clear hb hz hX f0 f1 f2 f3 f4 d0 hr
        refine wp_region_held_drew (S := (fun w' => w'.cell? ⟨w.heap.size, 0, none⟩ = some (.slice (some ⟨g, 0, none⟩) qs.length c) ∧ (w'.cell? ⟨g, k * 5, none⟩ = some (.int .i64 a0) ∧ w'.cell? ⟨g, k * 5 + 1, none⟩ = some (.int .i64 a1) ∧ w'.cell? ⟨g, k * 5 + 2, none⟩ = some (.int .i64 a2) ∧ w'.cell? ⟨g, k * 5 + 3, none⟩ = some (.int .i64 a3) ∧ w'.cell? ⟨g, k * 5 + 4, none⟩ = some (.int .i64 a4)))) (by kernel_rfl) ⟨box1 zz, xx.five Hq.out⟩ (fun _ => ?_)
        refine wpAnyH_take (i := 0) (oi := ⟨_, _, _, _, _, _⟩) (v := .pointer (some ⟨w.heap.size, 0, none⟩)) rfl (by kernel_rfl) (by kernel_rfl) (by kernel_rfl) (fun _ _ _ h => h) (Or.inl ⟨by rfl, fun _ hS => by obtain ⟨s1, s2, s3, s4, s5, s6⟩ := hS; go_simp⟩) ⟨box1 zz, xx.five Hq.out⟩ ?_
        try simp only [Act.put, List.setIfInBounds_toArray, List.set_cons_succ, List.set_cons_zero]
        refine wpAnyH_take (i := 1) (oi := ⟨_, _, _, _, _, _⟩) (v := .slice (some ⟨g, 0, none⟩) qs.length c) rfl (by kernel_rfl) (by kernel_rfl) (by kernel_rfl) (fun _ _ _ h => h) (Or.inl ⟨by rfl, fun _ hS => by obtain ⟨s1, s2, s3, s4, s5, s6⟩ := hS; go_simp⟩) ⟨box1 zz, xx.five Hq.out⟩ ?_
        try simp only [Act.put, List.setIfInBounds_toArray, List.set_cons_succ, List.set_cons_zero]
        refine wpAnyH_take (i := 2) (oi := ⟨_, _, _, _, _, _⟩) (v := .int .i64 k) rfl (by kernel_rfl) (by kernel_rfl) (by kernel_rfl) (fun _ _ _ h => h) (Or.inl ⟨by rfl, fun _ hS => by obtain ⟨s1, s2, s3, s4, s5, s6⟩ := hS; go_simp⟩) ⟨box1 zz, xx.five Hq.out⟩ ?_
        try simp only [Act.put, List.setIfInBounds_toArray, List.set_cons_succ, List.set_cons_zero]
        refine wpAnyH_take (i := 3) (oi := ⟨_, _, _, _, _, _⟩) (v := .pointer (some ⟨g, k * 5, none⟩)) rfl (by kernel_rfl) (by kernel_rfl) (by kernel_rfl) (fun _ _ _ h => h) (Or.inl ⟨by rfl, fun _ hS => by obtain ⟨s1, s2, s3, s4, s5, s6⟩ := hS; go_simp⟩) ⟨box1 zz, xx.five Hq.out⟩ ?_
        try simp only [Act.put, List.setIfInBounds_toArray, List.set_cons_succ, List.set_cons_zero]
        refine wpAnyH_take (i := 4) (oi := ⟨_, _, _, _, _, _⟩) (v := .agg #[.int .i64 a0, .int .i64 a1, .int .i64 a2, .int .i64 a3, .int .i64 a4]) rfl (by kernel_rfl) (by kernel_rfl) (by kernel_rfl) (fun _ _ _ h => h) (Or.inl ⟨by rfl, fun _ hS => by obtain ⟨s1, s2, s3, s4, s5, s6⟩ := hS; go_simp⟩) ⟨box1 zz, xx.five Hq.out⟩ ?_
        try simp only [Act.put, List.setIfInBounds_toArray, List.set_cons_succ, List.set_cons_zero]
        refine wpAnyH_ready (rs := [5]) (by kernel_rfl) (by simp) (AllReadyH.cons (o := ⟨_, _, _, _, _, _⟩) rfl (fun K hK => ?_) AllReadyH.nil)
        go_simp
        refine (rule_spec ⟨a0, a1, a2, a3, a4⟩ _).mono ?_
        rintro e w6 ⟨rfl, hb6⟩
        rw [Hr.out]
        replace tc := tc.trans (hb6.mono tc.size)
        replace zz := zz.on hb6
        replace xx := xx.on hb6
        go_wp2_with fail
        refine hK.out _ _ ⟨box1 zz, xx.five Hq.out⟩ (fun _ => ?_)
        clear hK K
        try simp only [Act.put, List.setIfInBounds_toArray, List.set_cons_succ, List.set_cons_zero]
        refine wpAnyH_take (i := 6) (oi := ⟨_, _, _, _, _, _⟩) (v := .bool true) rfl (by kernel_rfl) (by kernel_rfl) (by kernel_rfl) (fun _ _ _ h => h) (Or.inl ⟨by rfl, fun _ _ => by go_simp⟩) ⟨box1 zz, xx.five Hq.out⟩ ?_
        try simp only [Act.put, List.setIfInBounds_toArray, List.set_cons_succ, List.set_cons_zero]
        refine wpAnyH_take (i := 7) (oi := ⟨_, _, _, _, _, _⟩) (v := .bool true) rfl (by kernel_rfl) (by kernel_rfl) (by kernel_rfl) (fun _ _ _ h => h) (Or.inl ⟨by rfl, fun _ _ => by go_simp⟩) ⟨box1 zz, xx.five Hq.out⟩ ?_
        try simp only [Act.put, List.setIfInBounds_toArray, List.set_cons_succ, List.set_cons_zero]
        refine wpAnyH_take (i := 8) (oi := ⟨_, _, _, _, _, _⟩) (v := undef) rfl (by kernel_rfl) (by kernel_rfl) (by kernel_rfl) (fun _ _ _ h => h) (Or.inr ⟨by rfl, rfl⟩) ⟨box1 zz, xx.five Hq.out⟩ ?_
        try simp only [Act.put, List.setIfInBounds_toArray, List.set_cons_succ, List.set_cons_zero]
        refine wpAnyH_take (i := 9) (oi := ⟨_, _, _, _, _, _⟩) (v := undef) rfl (by kernel_rfl) (by kernel_rfl) (by kernel_rfl) (fun _ _ _ h => h) (Or.inr ⟨by rfl, rfl⟩) ⟨box1 zz, xx.five Hq.out⟩ ?_
        try simp only [Act.put, List.setIfInBounds_toArray, List.set_cons_succ, List.set_cons_zero]
        refine wpAnyH_take (i := 10) (oi := ⟨_, _, _, _, _, _⟩) (v := undef) rfl (by kernel_rfl) (by kernel_rfl) (by kernel_rfl) (fun _ _ _ h => h) (Or.inr ⟨by rfl, rfl⟩) ⟨box1 zz, xx.five Hq.out⟩ ?_
        try simp only [Act.put, List.setIfInBounds_toArray, List.set_cons_succ, List.set_cons_zero]
        refine wpAnyH_take (i := 11) (oi := ⟨_, _, _, _, _, _⟩) (v := undef) rfl (by kernel_rfl) (by kernel_rfl) (by kernel_rfl) (fun _ _ _ h => h) (Or.inr ⟨by rfl, rfl⟩) ⟨box1 zz, xx.five Hq.out⟩ ?_
        try simp only [Act.put, List.setIfInBounds_toArray, List.set_cons_succ, List.set_cons_zero]
        refine wpAnyH_take (i := 12) (oi := ⟨_, _, _, _, _, _⟩) (v := undef) rfl (by kernel_rfl) (by kernel_rfl) (by kernel_rfl) (fun _ _ _ h => h) (Or.inr ⟨by rfl, rfl⟩) ⟨box1 zz, xx.five Hq.out⟩ ?_
        try simp only [Act.put, List.setIfInBounds_toArray, List.set_cons_succ, List.set_cons_zero]
        refine wpAnyH_take (i := 13) (oi := ⟨_, _, _, _, _, _⟩) (v := undef) rfl (by kernel_rfl) (by kernel_rfl) (by kernel_rfl) (fun _ _ _ h => h) (Or.inr ⟨by rfl, rfl⟩) ⟨box1 zz, xx.five Hq.out⟩ ?_
        try simp only [Act.put, List.setIfInBounds_toArray, List.set_cons_succ, List.set_cons_zero]
        refine wpAnyH_take (i := 14) (oi := ⟨_, _, _, _, _, _⟩) (v := undef) rfl (by kernel_rfl) (by kernel_rfl) (by kernel_rfl) (fun _ _ _ h => h) (Or.inr ⟨by rfl, rfl⟩) ⟨box1 zz, xx.five Hq.out⟩ ?_
        try simp only [Act.put, List.setIfInBounds_toArray, List.set_cons_succ, List.set_cons_zero]
        refine wpAnyH_take (i := 15) (oi := ⟨_, _, _, _, _, _⟩) (v := undef) rfl (by kernel_rfl) (by kernel_rfl) (by kernel_rfl) (fun _ _ _ h => h) (Or.inr ⟨by rfl, rfl⟩) ⟨box1 zz, xx.five Hq.out⟩ ?_
        try simp only [Act.put, List.setIfInBounds_toArray, List.set_cons_succ, List.set_cons_zero]
        refine wpAnyH_take (i := 16) (oi := ⟨_, _, _, _, _, _⟩) (v := undef) rfl (by kernel_rfl) (by kernel_rfl) (by kernel_rfl) (fun _ _ _ h => h) (Or.inr ⟨by rfl, rfl⟩) ⟨box1 zz, xx.five Hq.out⟩ ?_
        try simp only [Act.put, List.setIfInBounds_toArray, List.set_cons_succ, List.set_cons_zero]
        refine wpAnyH_take (i := 17) (oi := ⟨_, _, _, _, _, _⟩) (v := undef) rfl (by kernel_rfl) (by kernel_rfl) (by kernel_rfl) (fun _ _ _ h => h) (Or.inr ⟨by rfl, rfl⟩) ⟨box1 zz, xx.five Hq.out⟩ ?_
        try simp only [Act.put, List.setIfInBounds_toArray, List.set_cons_succ, List.set_cons_zero]
        refine wpAnyH_take (i := 18) (oi := ⟨_, _, _, _, _, _⟩) (v := .bool true) rfl (by kernel_rfl) (by kernel_rfl) (by kernel_rfl) (fun _ _ _ h => h) (Or.inl ⟨by rfl, fun _ _ => by go_simp⟩) ⟨box1 zz, xx.five Hq.out⟩ ?_
        try simp only [Act.put, List.setIfInBounds_toArray, List.set_cons_succ, List.set_cons_zero]
        refine wpAnyH_done (by kernel_rfl) ?_ _
        go_wp2
        go_ret
        exact ⟨ret_bool Hbad.out.symm, tc⟩
    · have hke : k = qs.length := by omega
      subst hke
      have Hall := Lib.hid (deck_all HI.out)
      go_wp2
      go_ret
      exact ⟨ret_bool (by rw [Hall.out]; exact (decide_eq_true h12).symm), hb⟩

set_option maxHeartbeats 3200000 in
set_option maxRecDepth 100000 in
theorem deck_impl (v : Value) (qs : List Ru) (w : World) (hv : QL w 0 v qs) (hn : qs.length ≤ 1000000000) : Calls Tryz.prog 66 #[.agg #[v]] w fun e w' => e = .returned (.bool (deckB qs)) ∧ Below w.heap.size w w' := by
  obtain ⟨A, c, rfl, hc, hm⟩ := hv.form
  unfold maxLen at hm
  have hb0 := (Below.refl w.heap.size w).alloc (Nat.le_refl _) (.cells #[.slice A qs.length c] 44)
  have zb := Bk.new w 44 #[.slice A qs.length c]
  have hX0 := hv.alloc (.cells #[.slice A qs.length c] 44)
  clear hv
  have Hi0 := Lib.hid (show ∀ j, j < 0 → goodAt qs j = true from fun j hj => absurd hj (by omega))
  go_enter Tryz.func66, Tryz.ntmps66
  go_wp2
  go_loopw [8] (fun iv wr => ∃ k : Nat, k ≤ qs.length ∧ iv = .int .i64 k ∧ Hid (∀ j, j < k → goodAt qs j = true) ∧ QL wr 0 (.slice A qs.length c) qs ∧ Bk wr w.heap.size 44 #[.slice A qs.length c] ∧ Below w.heap.size w wr) (fun iv _ => qs.length - (intOf iv).toNat)
  case atStart => exact ⟨0, Nat.zero_le _, rfl, Hi0, hX0, zb, hb0⟩
  case round =>
    obtain ⟨k, hk, rfl, HI, hX, hz, hb⟩ := hrel
    clear hb0 Hi0 zb hX0
    have d0 := box1 hz
    by_cases hlt : k < qs.length
    · obtain ⟨q, hq⟩ : ∃ q, qs[k]? = some q := ⟨_, List.getElem?_eq_getElem hlt⟩
      obtain ⟨g, rfl, -, hg, f0, f1, f2, f3, f4⟩ := hX.elem hq
      obtain ⟨a0, a1, a2, a3, a4⟩ := q
      dsimp only at f0 f1 f2 f3 f4
      have Hgood := Lib.hid (good_at hq)
      have hkc : k ≤ c := by omega
      have hk9 : k < 9223372036854775807 := by omega
      have hkz : ((0 : Int) ≤ (k : Int)) ∧ (k : Int) ≤ (c : Int) := by omega
      clear hq
      have hHs := Lib.hid (fun (w2 : World) (h2 : QL w2 0 (.slice (some ⟨g, 0, none⟩) qs.length c) qs) => ruHas_any (some ⟨g, 0, none⟩) k c (qs.take k) ⟨a0, a1, a2, a3, a4⟩ w2 (h2.arg.take (Nat.le_of_lt hlt)) (by omega))
      have tc := (hb.alloc hb.size (.cells #[.int .i64 a0, .int .i64 a1, .int .i64 a2, .int .i64 a3, .int .i64 a4] 30)).drew
      have zz := (hz.alloc (.cells #[.int .i64 a0, .int .i64 a1, .int .i64 a2, .int .i64 a3, .int .i64 a4] 30)).drew
      have xx := (hX.alloc (.cells #[.int .i64 a0, .int .i64 a1, .int .i64 a2, .int .i64 a3, .int .i64 a4] 30)).drew
      have yy := (Bk.new wr 30 #[.int .i64 a0, .int .i64 a1, .int .i64 a2, .int .i64 a3, .int .i64 a4]).drew
      cases hr : ruleB ⟨a0, a1, a2, a3, a4⟩ with
      | true =>
        have Hr := Lib.hid hr
        have Hlt := Lib.hid hlt
        go_wp2
        clear hb hz hX f0 f1 f2 f3 f4 d0 hr
        go_region_held3 (fun w' => w'.cell? ⟨w.heap.size, 0, none⟩ = some (.slice (some ⟨g, 0, none⟩) qs.length c) ∧ (w'.cell? ⟨wr.heap.size, 0, none⟩ = some (.int .i64 a0) ∧ w'.cell? ⟨wr.heap.size, 1, none⟩ = some (.int .i64 a1) ∧ w'.cell? ⟨wr.heap.size, 2, none⟩ = some (.int .i64 a2) ∧ w'.cell? ⟨wr.heap.size, 3, none⟩ = some (.int .i64 a3) ∧ w'.cell? ⟨wr.heap.size, 4, none⟩ = some (.int .i64 a4))) (exact ⟨box1 zz, box5 yy⟩)
          (first | (go_at_call 60; refine (rule_impl ⟨a0, a1, a2, a3, a4⟩ _).mono ?_; rintro e w6 ⟨rfl, hb6⟩; rw [Hr.out]; have tc := tc.trans (hb6.mono tc.size); have zz := zz.on hb6; have xx := xx.on hb6; have yy := yy.on hb6)
                 | (go_at_call 128; refine (hHs.out _ xx).mono ?_; rintro e w7 ⟨rfl, hb7⟩; have tc := tc.trans (hb7.mono tc.size); have zz := zz.on hb7; have xx := xx.on hb7; have yy := yy.on hb7))
        rw [Hr.out, Bool.true_and] at Hgood
        cases hh : hasQ (qs.take k) ⟨a0, a1, a2, a3, a4⟩ with
        | true =>
          rw [hh] at Hgood
          have Hbad := Lib.hid (deck_bad Hlt.out Hgood.out)
          go_wp2
          go_ret
          exact ⟨ret_bool Hbad.out.symm, tc⟩
        | false =>
          rw [hh] at Hgood
          have HI2 := Lib.hid (show ∀ j, j < k + 1 → goodAt qs j = true from fun j hj => by
            by_cases e : j = k
            · subst e
              exact Hgood.out
            · exact HI.out j (by omega))
          go_wp2
          exact ⟨⟨k + 1, by omega, by go_num, HI2, xx, zz, tc⟩, by simp [intOf]; omega⟩
      | false =>
        have Hr := Lib.hid hr
        have Hbad := Lib.hid (deck_bad hlt (by rw [Hgood.out, hr, Bool.false_and]))
        go_wp2
        clear hb hz hX f0 f1 f2 f3 f4 d0 hr
        refine wp_region_held_drew (S := (fun w' => w'.cell? ⟨w.heap.size, 0, none⟩ = some (.slice (some ⟨g, 0, none⟩) qs.length c) ∧ (w'.cell? ⟨wr.heap.size, 0, none⟩ = some (.int .i64 a0) ∧ w'.cell? ⟨wr.heap.size, 1, none⟩ = some (.int .i64 a1) ∧ w'.cell? ⟨wr.heap.size, 2, none⟩ = some (.int .i64 a2) ∧ w'.cell? ⟨wr.heap.size, 3, none⟩ = some (.int .i64 a3) ∧ w'.cell? ⟨wr.heap.size, 4, none⟩ = some (.int .i64 a4)))) (by kernel_rfl) ⟨box1 zz, box5 yy⟩ (fun _ => ?_)
        refine wpAnyH_take (i := 0) (oi := ⟨_, _, _, _, _, _⟩) (v := .agg #[.int .i64 a0, .int .i64 a1, .int .i64 a2, .int .i64 a3, .int .i64 a4]) rfl (by kernel_rfl) (by kernel_rfl) (by kernel_rfl) (fun _ _ _ h => h) (Or.inl ⟨by rfl, fun _ hS => by obtain ⟨s1, s2, s3, s4, s5, s6⟩ := hS; go_simp⟩) ⟨box1 zz, box5 yy⟩ ?_
        try simp only [Act.put, List.setIfInBounds_toArray, List.set_cons_succ, List.set_cons_zero]
        refine wpAnyH_ready (rs := [1]) (by kernel_rfl) (by simp) (AllReadyH.cons (o := ⟨_, _, _, _, _, _⟩) rfl (fun K hK => ?_) AllReadyH.nil)
        go_simp
        refine (rule_impl ⟨a0, a1, a2, a3, a4⟩ _).mono ?_
        rintro e w6 ⟨rfl, hb6⟩
        rw [Hr.out]
        replace tc := tc.trans (hb6.mono tc.size)
        replace zz := zz.on hb6
        replace xx := xx.on hb6
        replace yy := yy.on hb6
        go_wp2_with fail
        refine hK.out _ _ ⟨box1 zz, box5 yy⟩ (fun _ => ?_)
        clear hK K
        try simp only [Act.put, List.setIfInBounds_toArray, List.set_cons_succ, List.set_cons_zero]
        refine wpAnyH_take (i := 2) (oi := ⟨_, _, _, _, _, _⟩) (v := .bool true) rfl (by kernel_rfl) (by kernel_rfl) (by kernel_rfl) (fun _ _ _ h => h) (Or.inl ⟨by rfl, fun _ _ => by go_simp⟩) ⟨box1 zz, box5 yy⟩ ?_
        try simp only [Act.put, List.setIfInBounds_toArray, List.set_cons_succ, List.set_cons_zero]
        refine wpAnyH_take (i := 3) (oi := ⟨_, _, _, _, _, _⟩) (v := .bool true) rfl (by kernel_rfl) (by kernel_rfl) (by kernel_rfl) (fun _ _ _ h => h) (Or.inl ⟨by rfl, fun _ _ => by go_simp⟩) ⟨box1 zz, box5 yy⟩ ?_
        try simp only [Act.put, List.setIfInBounds_toArray, List.set_cons_succ, List.set_cons_zero]
        refine wpAnyH_take (i := 4) (oi := ⟨_, _, _, _, _, _⟩) (v := undef) rfl (by kernel_rfl) (by kernel_rfl) (by kernel_rfl) (fun _ _ _ h => h) (Or.inr ⟨by rfl, rfl⟩) ⟨box1 zz, box5 yy⟩ ?_
        try simp only [Act.put, List.setIfInBounds_toArray, List.set_cons_succ, List.set_cons_zero]
        refine wpAnyH_take (i := 5) (oi := ⟨_, _, _, _, _, _⟩) (v := undef) rfl (by kernel_rfl) (by kernel_rfl) (by kernel_rfl) (fun _ _ _ h => h) (Or.inr ⟨by rfl, rfl⟩) ⟨box1 zz, box5 yy⟩ ?_
        try simp only [Act.put, List.setIfInBounds_toArray, List.set_cons_succ, List.set_cons_zero]
        refine wpAnyH_take (i := 6) (oi := ⟨_, _, _, _, _, _⟩) (v := undef) rfl (by kernel_rfl) (by kernel_rfl) (by kernel_rfl) (fun _ _ _ h => h) (Or.inr ⟨by rfl, rfl⟩) ⟨box1 zz, box5 yy⟩ ?_
        try simp only [Act.put, List.setIfInBounds_toArray, List.set_cons_succ, List.set_cons_zero]
        refine wpAnyH_take (i := 7) (oi := ⟨_, _, _, _, _, _⟩) (v := undef) rfl (by kernel_rfl) (by kernel_rfl) (by kernel_rfl) (fun _ _ _ h => h) (Or.inr ⟨by rfl, rfl⟩) ⟨box1 zz, box5 yy⟩ ?_
        try simp only [Act.put, List.setIfInBounds_toArray, List.set_cons_succ, List.set_cons_zero]
        refine wpAnyH_take (i := 8) (oi := ⟨_, _, _, _, _, _⟩) (v := undef) rfl (by kernel_rfl) (by kernel_rfl) (by kernel_rfl) (fun _ _ _ h => h) (Or.inr ⟨by rfl, rfl⟩) ⟨box1 zz, box5 yy⟩ ?_
        try simp only [Act.put, List.setIfInBounds_toArray, List.set_cons_succ, List.set_cons_zero]
        refine wpAnyH_take (i := 9) (oi := ⟨_, _, _, _, _, _⟩) (v := undef) rfl (by kernel_rfl) (by kernel_rfl) (by kernel_rfl) (fun _ _ _ h => h) (Or.inr ⟨by rfl, rfl⟩) ⟨box1 zz, box5 yy⟩ ?_
        try simp only [Act.put, List.setIfInBounds_toArray, List.set_cons_succ, List.set_cons_zero]
        refine wpAnyH_take (i := 10) (oi := ⟨_, _, _, _, _, _⟩) (v := .bool true) rfl (by kernel_rfl) (by kernel_rfl) (by kernel_rfl) (fun _ _ _ h => h) (Or.inl ⟨by rfl, fun _ _ => by go_simp⟩) ⟨box1 zz, box5 yy⟩ ?_
        try simp only [Act.put, List.setIfInBounds_toArray, List.set_cons_succ, List.set_cons_zero]
        refine wpAnyH_done (by kernel_rfl) ?_ _
        go_wp2
        go_ret
        exact ⟨ret_bool Hbad.out.symm, tc⟩
    · have hke : k = qs.length := by omega
      subst hke
      have Hall := Lib.hid (deck_all HI.out)
      have Hle := Lib.hid (show decide ((qs.length : Int) ≤ 12) = decide (qs.length ≤ 12) by rw [Bool.eq_iff_iff]; simp; omega)
      go_wp2
      go_ret
      exact ⟨ret_bool (by rw [Hall.out, Hle.out]), hb⟩

end Go.Proofs.YtbljapihmkmolaaGreat
