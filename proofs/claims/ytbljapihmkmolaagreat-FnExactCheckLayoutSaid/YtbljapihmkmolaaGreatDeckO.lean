/- Contracts: the laws' helpers on lists of rules and on decks (sz, to, eq, mark). Conditions: lists in memory; bounds on their sizes. -/
import Derived.Test.YtbljapihmkmolaaGreatDeck
namespace Go.Proofs.YtbljapihmkmolaaGreat
open Go.RowKit

/-- Two rules are equal. -/
def eqRu (p q : Ru) : Bool := decide (p = q)
theorem run_equal_Q (a b c d e a' b' c' d' e' : Int) (w : World) :
    (Op.equalIn 10000 30 (.agg #[.int .i64 a, .int .i64 b, .int .i64 c, .int .i64 d, .int .i64 e]) (.agg #[.int .i64 a', .int .i64 b', .int .i64 c', .int .i64 d', .int .i64 e'])).run Tryz.prog w = .ok (eqRu ⟨a, b, c, d, e⟩ ⟨a', b', c', d', e'⟩) w := by
  by_cases h0 : a = a'
  · by_cases h1 : b = b'
    · by_cases h2 : c = c'
      · by_cases h3 : d = d'
        · by_cases h4 : e = e'
          · simp [go_sem, eqRu, h0, h1, h2, h3, h4]
          · simp [go_sem, eqRu, h0, h1, h2, h3, h4]
        · simp [go_sem, eqRu, h0, h1, h2, h3]
      · simp [go_sem, eqRu, h0, h1, h2]
    · simp [go_sem, eqRu, h0, h1]
  · simp [go_sem, eqRu, h0]
@[go_sem high] theorem run_eql_Q (a b c d e a' b' c' d' e' : Int) (w : World) :
    (binOp .eql 30 (.agg #[.int .i64 a, .int .i64 b, .int .i64 c, .int .i64 d, .int .i64 e]) (.agg #[.int .i64 a', .int .i64 b', .int .i64 c', .int .i64 d', .int .i64 e'])).run Tryz.prog w = .ok (.bool (eqRu ⟨a, b, c, d, e⟩ ⟨a', b', c', d', e'⟩)) w := by
  rw [run_eql_struct, run_equal_Q]
  rfl

theorem szRuleS_yes (A : Option Addr) (n c : Nat) (left : Int) (w : World) (h0 : (n : Int) ≤ left) (h1 : left ≤ 1048576) :
    Calls Tryz.prog 63 #[.slice A n c, .int .i64 left] w fun e w' => e = .returned (.int .i64 (left - n)) ∧ w = w' := by
  have h2 : ¬ (left - n < 0) := by omega
  go_enter Tryz.func63, Tryz.ntmps63
  go_wp2
  go_ret
  exact ⟨rfl, rfl⟩
theorem szRuleS_no (A : Option Addr) (n c : Nat) (left : Int) (w : World) (h0 : left < (n : Int)) (h1 : 0 ≤ left) (hn : n ≤ maxLen) :
    Calls Tryz.prog 63 #[.slice A n c, .int .i64 left] w fun e w' => e = .returned (.int .i64 (-1)) ∧ w = w' := by
  have h2 : left - n < 0 := by omega
  unfold maxLen at hn
  go_enter Tryz.func63, Tryz.ntmps63
  go_wp2
  go_ret
  exact ⟨rfl, rfl⟩
theorem szDeck_yes (A : Option Addr) (n c : Nat) (left : Int) (w : World) (h0 : (n : Int) ≤ left) (h1 : left ≤ 1048576) :
    Calls Tryz.prog 19 #[.agg #[.slice A n c], .int .i64 left] w fun e w' => e = .returned (.int .i64 (left - n)) ∧ Below w.heap.size w w' := by
  have h2 : ¬ (left - n < 0) := by omega
  go_enter Tryz.func19, Tryz.ntmps19
  go_wp2_with fail
  refine (szRuleS_yes A n c left _ h0 h1).mono ?_
  rintro e w1 ⟨rfl, rfl⟩
  go_wp2
  go_ret
  exact ⟨rfl, (Below.refl _ _).alloc (Nat.le_refl _) _⟩
theorem szDeck_no (A : Option Addr) (n c : Nat) (left : Int) (w : World) (h0 : left < (n : Int)) (h1 : 0 ≤ left) (hn : n ≤ maxLen) :
    Calls Tryz.prog 19 #[.agg #[.slice A n c], .int .i64 left] w fun e w' => e = .returned (.int .i64 (-1)) ∧ Below w.heap.size w w' := by
  go_enter Tryz.func19, Tryz.ntmps19
  go_wp2_with fail
  refine (szRuleS_no A n c left _ h0 h1 hn).mono ?_
  rintro e w1 ⟨rfl, rfl⟩
  go_wp2
  go_ret
  exact ⟨rfl, (Below.refl _ _).alloc (Nat.le_refl _) _⟩

set_option maxHeartbeats 1600000 in
set_option maxRecDepth 100000 in
theorem toRuleS_any (A : Option Addr) (n c : Nat) (qs : List Ru) (w : World) (hA : ArgQ w A n qs) (hn : n ≤ 1048576) :
    Calls Tryz.prog 65 #[.slice A n c] w fun e w' => ∃ u, e = .returned u ∧ QL w' w.heap.size u qs ∧ Below w.heap.size w w' := by
  obtain rfl := hA.len
  obtain ⟨i0, hi0, hz0, hsz0, hby0⟩ := info_parts infoRule
  go_enter Tryz.func65, Tryz.ntmps65
  go_wp2_with (at_make; refine wpList_make_full _ rfl _ _ 42 rfl w.heap.size 30 i0 _ 5 Tryz.underlying42 hi0 hz0 hsz0 _ _ _ _ qs.length rfl rfl rfl rfl (by rw [hby0]; omega) (by simp only [maxLen]; omega) (Nat.le_refl _) ?_)
  intro w1 ho1 hg1
  have hb1 : Below w.heap.size w w1 := (Below.refl _ _).grown hg1 (Nat.le_refl _) (fun k hk => by cases hk)
  have hR1 : QL w1 w.heap.size (.slice (some ⟨w.heap.size, 0, none⟩) qs.length qs.length) (laidQ qs 0) := by
    unfold QL
    have e : laidQ qs 0 = List.replicate qs.length ⟨0, 0, 0, 0, 0⟩ := by simp [laidQ]
    rw [e, List.length_replicate, ← flatQ_zeros]
    exact ho1
  clear ho1 hg1 hi0 hz0 hsz0 hby0
  go_wp2
  go_loopw [4] (fun iv wr => ∃ k : Nat, k ≤ qs.length ∧ iv = .int .i64 k ∧ QL wr w.heap.size (.slice (some ⟨w.heap.size, 0, none⟩) qs.length qs.length) (laidQ qs k) ∧ Below w.heap.size w wr) (fun iv _ => qs.length - (intOf iv).toNat)
  case atStart => exact ⟨0, Nat.zero_le _, rfl, hR1, hb1⟩
  case round =>
    obtain ⟨k, hk, rfl, hR, hb⟩ := hrel
    clear hR1 hb1
    by_cases hlt : k < qs.length
    · obtain ⟨q, hq⟩ : ∃ q, qs[k]? = some q := ⟨_, List.getElem?_eq_getElem hlt⟩
      obtain ⟨b, off, rfl, hbl, f0, f1, f2, f3, f4⟩ := (hA.on hb).elem k q hq
      have Hst := Lib.hid (laidQ_step hq)
      have hkl : k < (laidQ qs k).length := by rw [laidQ_length qs hk]; exact hlt
      have Hkl := Lib.hid hkl
      obtain ⟨a0, a1, a2, a3, a4⟩ := q
      dsimp only at f0 f1 f2 f3 f4
      have hk9 : k < 9223372036854775807 := by omega
      clear hq hkl
      go_wp2_with fail
      refine (toRule_any _ _ _ _ _ _).mono ?_
      rintro e w2 ⟨rfl, hb2⟩
      have hR2 := hR.on hb2
      obtain ⟨g0, hA0, -, -, d0, d1, d2, d3, d4⟩ := hR2.elem (List.getElem?_eq_getElem Hkl.out)
      cases hA0
      have t0 := hR2.frozen (k * 5)
      have t1 := hR2.frozen (k * 5 + 1)
      have t2 := hR2.frozen (k * 5 + 2)
      have t3 := hR2.frozen (k * 5 + 3)
      have t4 := hR2.frozen (k * 5 + 4)
      have HX := Lib.hid (hR2.set5 Hkl.out a0 a1 a2 a3 a4)
      rw [Hst.out] at HX
      have s1 := hb.size
      have HB := Lib.hid (((((hb.trans (hb2.mono s1)).setCell (p := ⟨w.heap.size, k * 5, none⟩) (Nat.le_refl _) (.int .i64 a0)).setCell (p := ⟨w.heap.size, k * 5 + 1, none⟩) (Nat.le_refl _) (.int .i64 a1)).setCell (p := ⟨w.heap.size, k * 5 + 2, none⟩) (Nat.le_refl _) (.int .i64 a2)).setCell (p := ⟨w.heap.size, k * 5 + 3, none⟩) (Nat.le_refl _) (.int .i64 a3) |>.setCell (p := ⟨w.heap.size, k * 5 + 4, none⟩) (Nat.le_refl _) (.int .i64 a4))
      clear hR hR2 hb hb2 hA f0 f1 f2 f3 f4 Hst s1
      go_wp2
      exact ⟨⟨k + 1, by omega, by go_num, HX.out, HB.out⟩, by simp [intOf]; omega⟩
    · have hke : k = qs.length := by omega
      have e1 : laidQ qs k = qs := by rw [hke]; simp [laidQ]
      rw [e1] at hR
      clear e1
      go_wp2
      go_ret
      exact ⟨_, rfl, hR, hb⟩

theorem eqRule_same (r : Ru) (w : World) : Calls Tryz.prog 130 #[r.val, r.val] w fun e w' => e = .returned (.bool true) ∧ Below w.heap.size w w' := by
  obtain ⟨k, l, o, v, p⟩ := r
  unfold Ru.val
  go_enter Tryz.func130, Tryz.ntmps130
  go_wp2
  go_ret
  exact ⟨rfl, ((Below.refl w.heap.size w).alloc (Nat.le_refl _) _).alloc (by simp) _⟩

set_option maxHeartbeats 800000 in
set_option maxRecDepth 100000 in
theorem eqRuleS_same (v u : Value) (qs : List Ru) (w : World) (hv : QL w 0 v qs) (hu : QL w 0 u qs) :
    Calls Tryz.prog 69 #[v, u] w fun e w' => e = .returned (.bool true) ∧ Below w.heap.size w w' := by
  obtain ⟨A, c1, rfl, hc1, hm1⟩ := hv.form
  obtain ⟨A2, c2, rfl, hc2, hm2⟩ := hu.form
  have hlen : qs.length ≤ 9223372036854775807 := by unfold maxLen at hm1; omega
  go_enter Tryz.func69, Tryz.ntmps69
  go_wp2
  go_loopw [5] (fun i wr => ∃ k : Nat, k ≤ qs.length ∧ i = .int .i64 k ∧ Below w.heap.size w wr) (fun i _ => qs.length - (intOf i).toNat)
  case atStart => exact ⟨0, Nat.zero_le _, rfl, Below.refl _ _⟩
  case round =>
    obtain ⟨k, hk, rfl, hb⟩ := hrel
    by_cases hlt : k < qs.length
    · obtain ⟨q, hq⟩ : ∃ q, qs[k]? = some q := ⟨_, List.getElem?_eq_getElem hlt⟩
      obtain ⟨g, rfl, -, hg, f0, f1, f2, f3, f4⟩ := (hv.on hb).elem hq
      obtain ⟨g', rfl, -, hg', f0', f1', f2', f3', f4'⟩ := (hu.on hb).elem hq
      obtain ⟨a0, a1, a2, a3, a4⟩ := q
      dsimp only at f0 f1 f2 f3 f4 f0' f1' f2' f3' f4'
      have hk9 : k < 9223372036854775807 := by omega
      clear hv hu hq
      go_wp2
      go_still_tail 8, (by kernel_rfl)
      change wpList _ _ _ _ _ wr.drew
      have hb2 : Below w.heap.size w wr.drew := hb.drew
      clear f0 f1 f2 f3 f4 f0' f1' f2' f3' f4' hb hg hg'
      generalize wr.drew = w2 at *
      go_wp2_with (go_at_call 130; refine (eqRule_same ⟨a0, a1, a2, a3, a4⟩ _).mono ?_; rintro e w1 ⟨rfl, hb1⟩)
      exact ⟨⟨k + 1, by omega, by go_num, hb2.trans (hb1.mono hb2.size)⟩, by simp [intOf]; omega⟩
    · go_wp2
      go_ret
      exact ⟨rfl, hb⟩

theorem eqDeck_same (v u : Value) (qs : List Ru) (w : World) (hv : QL w 0 v qs) (hu : QL w 0 u qs) :
    Calls Tryz.prog 23 #[.agg #[v], .agg #[u]] w fun e w' => e = .returned (.bool true) ∧ Below w.heap.size w w' := by
  go_enter Tryz.func23, Tryz.ntmps23
  go_wp2_with fail
  refine (eqRuleS_same v u qs _ (QL.alloc (QL.alloc hv _) _) (QL.alloc (QL.alloc hu _) _)).mono ?_
  rintro e w1 ⟨rfl, hb⟩
  go_wp2
  go_ret
  have hb0 := ((Below.refl w.heap.size w).alloc (Nat.le_refl _) (.cells #[v] 44)).alloc (by simp) (.cells #[u] 44)
  exact ⟨rfl, hb0.trans (hb.mono hb0.size)⟩

set_option maxHeartbeats 800000 in
theorem toDeck_any (A : Option Addr) (n c : Nat) (qs : List Ru) (w : World) (hA : ArgQ w A n qs) (hn : n ≤ 1048576) :
    Calls Tryz.prog 21 #[.agg #[.slice A n c]] w fun e w' => ∃ u, e = .returned (.agg #[u]) ∧ QL w' w.heap.size u qs ∧ Below w.heap.size w w' := by
  go_enter Tryz.func21, Tryz.ntmps21
  go_wp2_with fail
  have z1 := Bk.new w 39 #[.slice A n c]
  have z2 := z1.alloc (.cells #[.slice none 0 0] 44)
  have z3 := z2.alloc (.cells #[.slice none 0 0] 44)
  have y1 := Bk.new (w.alloc (.cells #[.slice A n c] 39)) 44 #[.slice none 0 0]
  have y2 := y1.alloc (.cells #[.slice none 0 0] 44)
  have x2 := Bk.new ((w.alloc (.cells #[.slice A n c] 39)).alloc (.cells #[.slice none 0 0] 44)) 44 #[.slice none 0 0]
  have hb := (((Below.refl w.heap.size w).alloc (Nat.le_refl _) (.cells #[.slice A n c] 39)).alloc (by simp) (.cells #[.slice none 0 0] 44)).alloc (by simp; omega) (.cells #[.slice none 0 0] 44)
  have e1 : (w.alloc (.cells #[.slice A n c] 39)).heap.size = w.heap.size + 1 := by simp
  have e2 : ((w.alloc (.cells #[.slice A n c] 39)).alloc (.cells #[.slice none 0 0] 44)).heap.size = w.heap.size + 1 + 1 := by simp
  rw [e1] at y2
  rw [e2] at x2
  refine (toRuleS_any A n c qs _ (hA.on hb) hn).mono ?_
  clear z1 z2 z3 y1 e1 e2
  revert y2 x2 hb
  generalize ((w.alloc (.cells #[.slice A n c] 39)).alloc (.cells #[.slice none 0 0] 44)).alloc (.cells #[.slice none 0 0] 44) = w1
  intro y2 x2 hb
  rintro e w2 ⟨u, rfl, hU, hb2⟩
  have y3 := y2.on hb2
  have x3 := x2.on hb2
  have hwl := x2.lt
  have hb3 := hb.trans (hb2.mono hb.size)
  obtain ⟨A', c', rfl, hc', hm'⟩ := hU.form
  have f2 := x3.frozen 0
  have d0 := x3.cell 0
  have x4 : Bk (w2.setCell ⟨w.heap.size + 1 + 1, 0, none⟩ (.slice A' qs.length c')) (w.heap.size + 1 + 1) 44 #[.slice A' qs.length c'] := x3.store 0 _
  have y4 := y3.other (p := ⟨w.heap.size + 1 + 1, 0, none⟩) (show w.heap.size + 1 ≠ w.heap.size + 1 + 1 by omega) (.slice A' qs.length c')
  have c0 := y4.cell 0
  have p0 := x4.cell 0
  have f0 := y4.frozen 0
  have hR : QL ((w2.setCell ⟨w.heap.size + 1 + 1, 0, none⟩ (.slice A' qs.length c')).setCell ⟨w.heap.size + 1, 0, none⟩ (.slice A' qs.length c')) w.heap.size (.slice A' qs.length c') qs := by
    have hne : ∀ b j x wz, b < w1.heap.size → QL wz w1.heap.size (.slice A' qs.length c') qs → QL (wz.setCell ⟨b, j, none⟩ x) w1.heap.size (.slice A' qs.length c') qs := fun b j x wz hb h => own_other (p := ⟨b, j, none⟩) h (fun e => by have hq : w1.heap.size ≤ b := (own_lt h b e).1; omega) x
    exact (hne _ _ _ _ (by omega) (hne _ _ _ _ (by omega) hU)).less (by omega)
  have hB := (hb3.setCell (p := ⟨w.heap.size + 1 + 1, 0, none⟩) (by show w.heap.size ≤ w.heap.size + 1 + 1; omega) (.slice A' qs.length c')).setCell (p := ⟨w.heap.size + 1, 0, none⟩) (by show w.heap.size ≤ w.heap.size + 1; omega) (.slice A' qs.length c')
  simp at d0 c0 p0
  clear y2 x2 hb hb2 y3 x3 x4 y4 hb3
  go_wp2
  refine bodyPost_ret (v := .agg #[.slice A' qs.length c']) (by simp [results, Tryz.results21, go_sem, *]) rfl ?_
  exact ⟨_, rfl, hR, hB⟩

end Go.Proofs.YtbljapihmkmolaaGreat
