/- Contracts: IsClean of the reference and of the program. Conditions: a list of lists, a list of rules in memory. -/
import Derived.Test.YtbljapihmkmolaaGreatDeckA
import Derived.Test.YtbljapihmkmolaaGreatRm
namespace Go.Proofs.YtbljapihmkmolaaGreat
open Go.RowKit

noncomputable def cleanAt (rss : List (List Rc)) (qs : List Ru) (j : Nat) : Bool := match qs[j]? with | some q => decide ((rmV rss q).length = 0) | none => true
noncomputable def allClean (rss : List (List Rc)) (qs : List Ru) : Bool := (List.range qs.length).all (cleanAt rss qs)
noncomputable def cleanB (rss : List (List Rc)) (qs : List Ru) : Bool := layB rss && deckB qs && allClean rss qs
theorem clean_at {rss : List (List Rc)} {qs : List Ru} {j : Nat} {q : Ru} (h : qs[j]? = some q) : cleanAt rss qs j = decide ((rmV rss q).length = 0) := by unfold cleanAt; rw [h]
theorem clean_bad {rss : List (List Rc)} {qs : List Ru} {k : Nat} (hk : k < qs.length) (h : cleanAt rss qs k = false) : allClean rss qs = false := by
  rw [Bool.eq_false_iff]
  intro hc
  unfold allClean at hc
  rw [List.all_eq_true] at hc
  have := hc k (List.mem_range.2 hk)
  rw [h] at this
  cases this
theorem clean_all {rss : List (List Rc)} {qs : List Ru} (h : ∀ j, j < qs.length → cleanAt rss qs j = true) : allClean rss qs = true := by
  unfold allClean
  rw [List.all_eq_true]
  exact fun j hj => h j (List.mem_range.1 hj)
theorem deck_rule {qs : List Ru} {k : Nat} {q : Ru} (h : deckB qs = true) (hq : qs[k]? = some q) : ruleB q = true := by
  unfold deckB at h
  rw [Bool.and_eq_true, List.all_eq_true] at h
  have := h.2 k (List.mem_range.2 (List.getElem?_eq_some_iff.1 hq).1)
  rw [good_at hq, Bool.and_eq_true] at this
  exact this.1

set_option maxHeartbeats 1600000 in
set_option maxRecDepth 100000 in
theorem clean_spec (lv v : Value) (rss : List (List Rc)) (qs : List Ru) (w : World) (hl : RLL w 0 lv rss) (hv : QL w 0 v qs) : Calls Tryz.prog 20 #[lv, .agg #[v]] w fun e w' => e = .returned (.bool (cleanB rss qs)) ∧ Below w.heap.size w w' := by
  obtain ⟨A, c, rfl, hc, hm⟩ := hv.form
  unfold maxLen at hm
  have hb0 := (Below.refl w.heap.size w).alloc (Nat.le_refl _) (.cells #[.slice A qs.length c] 44)
  have zb := Bk.new w 44 #[.slice A qs.length c]
  have hX0 := hv.alloc (.cells #[.slice A qs.length c] 44)
  have hL0 := hl.alloc (.cells #[.slice A qs.length c] 44)
  clear hv hl
  cases h1 : layB rss with
  | false =>
    have e0 : cleanB rss qs = false := by unfold cleanB; rw [h1, Bool.false_and, Bool.false_and]
    rw [e0]
    clear e0
    go_enter Tryz.func20, Tryz.ntmps20
    go_wp2_with fail
    refine (isLay_spec _ rss _ hL0).mono ?_
    rintro e w1 ⟨rfl, hb1⟩
    rw [h1]
    go_wp2
    go_ret
    exact ⟨rfl, hb0.trans (hb1.mono hb0.size)⟩
  | true =>
  cases h2 : deckB qs with
  | false =>
    have e0 : cleanB rss qs = false := by unfold cleanB; rw [h1, h2]; rfl
    rw [e0]
    clear e0
    go_enter Tryz.func20, Tryz.ntmps20
    go_wp2_with fail
    refine (isLay_spec _ rss _ hL0).mono ?_
    rintro e w1 ⟨rfl, hb1⟩
    rw [h1]
    have z1 := zb.on hb1
    have x1 := hX0.on hb1
    have b1 := hb0.trans (hb1.mono hb0.size)
    have d0 := box1 z1
    clear zb hX0 hb0 hb1 hL0
    go_wp2_with fail
    refine (deck_spec _ qs _ x1).mono ?_
    rintro e w2 ⟨rfl, hb2⟩
    rw [h2]
    clear d0
    go_wp2
    go_ret
    exact ⟨rfl, b1.trans (hb2.mono b1.size)⟩
  | true =>
  have e0 : cleanB rss qs = allClean rss qs := by unfold cleanB; rw [h1, h2]; rfl
  rw [e0]
  clear e0
  have H1 := Lib.hid h1
  have H2 := Lib.hid h2
  have Hi0 := Lib.hid (show ∀ j, j < 0 → cleanAt rss qs j = true from fun j hj => absurd hj (by omega))
  clear h1 h2
  go_enter Tryz.func20, Tryz.ntmps20
  go_wp2_with fail
  refine (isLay_spec _ rss _ hL0).mono ?_
  rintro e w1 ⟨rfl, hb1⟩
  rw [H1.out]
  have z1 := zb.on hb1
  have x1 := hX0.on hb1
  have l1 := hL0.on hb1
  have b1 := hb0.trans (hb1.mono hb0.size)
  have d0 := box1 z1
  clear zb hX0 hb0 hb1 hL0
  go_wp2_with fail
  refine (deck_spec _ qs _ x1).mono ?_
  rintro e w2 ⟨rfl, hb2⟩
  rw [H2.out]
  have z2 := z1.on hb2
  have x2 := x1.on hb2
  have l2 := l1.on hb2
  have b2 := b1.trans (hb2.mono b1.size)
  clear d0 z1 x1 l1 b1 hb2
  go_wp2
  go_loopw [5] (fun iv wr => ∃ k : Nat, k ≤ qs.length ∧ iv = .int .i64 k ∧ Hid (∀ j, j < k → cleanAt rss qs j = true) ∧ QL wr 0 (.slice A qs.length c) qs ∧ RLL wr 0 lv rss ∧ Bk wr w.heap.size 44 #[.slice A qs.length c] ∧ Below w.heap.size w wr) (fun iv _ => qs.length - (intOf iv).toNat)
  case atStart => exact ⟨0, Nat.zero_le _, rfl, Hi0, x2, l2, z2, b2⟩
  case round =>
    obtain ⟨k, hk, rfl, HI, hX, hL, hz, hb⟩ := hrel
    clear Hi0 x2 l2 z2 b2
    have d0 := box1 hz
    by_cases hlt : k < qs.length
    · obtain ⟨q, hq⟩ : ∃ q, qs[k]? = some q := ⟨_, List.getElem?_eq_getElem hlt⟩
      obtain ⟨g, rfl, -, hg, f0, f1, f2, f3, f4⟩ := hX.elem hq
      have Hat := Lib.hid (clean_at (rss := rss) hq)
      have hlen := rmV_length rss q
      have hk9 : k < 9223372036854775807 := by omega
      clear hq
      go_wp2_with fail
      refine (rm_spec lv rss q _ hL).mono ?_
      rintro e w3 ⟨u, rfl, hR, hb3⟩
      obtain ⟨A3, c3, rfl, -, -, -⟩ := hR.form
      have hX3 := hX.on hb3
      have hL3 := hL.on hb3
      have hz3 := hz.on hb3
      have b3 := hb.trans (hb3.mono hb.size)
      clear hR hb3 hX hL hz hb d0 f0 f1 f2 f3 f4
      by_cases hn : (rmV rss q).length = 0
      · rw [decide_eq_true hn] at Hat
        have hn2 : ¬ ((0 : Int) < ((rmV rss q).length : Int)) := by omega
        have HI2 := Lib.hid (show ∀ j, j < k + 1 → cleanAt rss qs j = true from fun j hj => by
          by_cases e : j = k
          · subst e
            exact Hat.out
          · exact HI.out j (by omega))
        clear hn
        go_wp2
        exact ⟨⟨k + 1, by omega, by go_num, HI2, hX3, hL3, hz3, b3⟩, by simp [intOf]; omega⟩
      · rw [decide_eq_false hn] at Hat
        have Hbad := Lib.hid (clean_bad hlt Hat.out)
        have hn2 : (0 : Int) < ((rmV rss q).length : Int) := by omega
        clear hn
        go_wp2
        go_ret
        exact ⟨ret_bool Hbad.out.symm, b3⟩
    · have hke : k = qs.length := by omega
      subst hke
      have Hall := Lib.hid (clean_all HI.out)
      go_wp2
      go_ret
      exact ⟨ret_bool Hall.out.symm, hb⟩

theorem clean_clo (q : Ru) (lv : Value) (lb : Nat) (rss : List (List Rc)) (w : World) (h1 : layB rss = true) (h2 : ruleB q = true) (hl : RLL w 0 lv rss) (hc : w.cell? ⟨lb, 0, none⟩ = some lv) (hlb : lb < w.heap.size) : Calls Tryz.prog 68 #[q.val, .pointer (some ⟨lb, 0, none⟩)] w fun e w' => e = .returned (.bool (!decide ((rmV rss q).length = 0))) ∧ Below w.heap.size w w' := by
  have hb0 := (Below.refl w.heap.size w).alloc (Nat.le_refl _) (.cells #[.int .i64 q.k, .int .i64 q.l, .int .i64 q.o, .int .i64 q.v, .int .i64 q.p] 30)
  have zb := Bk.new w 30 #[.int .i64 q.k, .int .i64 q.l, .int .i64 q.o, .int .i64 q.v, .int .i64 q.p]
  have hL0 := hl.alloc (.cells #[.int .i64 q.k, .int .i64 q.l, .int .i64 q.o, .int .i64 q.v, .int .i64 q.p] 30)
  have hc0 := (hb0.cell (p := ⟨lb, 0, none⟩) hlb).trans hc
  have hlen := rmV_length rss q
  have hpos : decide (0 < (rmV rss q).length) = !decide ((rmV rss q).length = 0) := by
    by_cases h : (rmV rss q).length = 0
    · rw [decide_eq_true h, decide_eq_false (by omega)]; rfl
    · rw [decide_eq_false h, decide_eq_true (by omega)]; rfl
  have Hpos := Lib.hid hpos
  obtain ⟨A, c, rfl, -, -⟩ := hl.form
  have H1 := Lib.hid h1
  have H2 := Lib.hid h2
  rw [rmV_yes h1 h2] at Hpos ⊢ hlen
  clear hl hc hpos h1 h2
  unfold Ru.val
  go_enter Tryz.func68, Tryz.ntmps68
  go_wp2_with fail
  refine (rmv_impl _ rss q _ hL0 H1.out H2.out).mono ?_
  rintro e w3 ⟨u, rfl, hR, hb3⟩
  obtain ⟨A3, c3, rfl, -, -, -⟩ := hR.form
  clear hR
  go_wp2
  go_ret
  exact ⟨ret_bool Hpos.out, hb0.trans (hb3.mono hb0.size)⟩

def dirtAt (rss : List (List Rc)) (qs : List Ru) (w : World) (e : Ending) (w' : World) : Prop := ∃ n : Int, e = .returned (.int .i64 n) ∧ -1 ≤ n ∧ n ≤ 1000000000 ∧ decide (0 ≤ n) = (!allClean rss qs) ∧ Below w.heap.size w w'
set_option maxHeartbeats 1600000 in
set_option maxRecDepth 100000 in
theorem dirtIndex_any (v lv : Value) (lb : Nat) (rss : List (List Rc)) (qs : List Ru) (w : World) (h1 : layB rss = true) (h2 : deckB qs = true) (hv : QL w 0 v qs) (hl : RLL w 0 lv rss) (hc : w.cell? ⟨lb, 0, none⟩ = some lv) (hlb : lb < w.heap.size) (hn : qs.length ≤ 1000000000) :
    Calls Tryz.prog 129 #[v, .func (.func 68) #[] #[.pointer (some ⟨lb, 0, none⟩)]] w (dirtAt rss qs w) := by
  obtain ⟨A, c, rfl, hcc, hm⟩ := hv.form
  unfold maxLen at hm
  have hb0 := Below.refl w.heap.size w
  have Hi0 := Lib.hid (show ∀ j, j < 0 → cleanAt rss qs j = true from fun j hj => absurd hj (by omega))
  have Hc := Lib.hid hc
  have H1 := Lib.hid h1
  have H2 := Lib.hid h2
  clear hc h1 h2
  go_enter Tryz.func129, Tryz.ntmps129
  go_wp2
  go_loopw [8] (fun iv wr => ∃ k : Nat, k ≤ qs.length ∧ iv = .int .i64 k ∧ Hid (∀ j, j < k → cleanAt rss qs j = true) ∧ Below w.heap.size w wr) (fun iv _ => qs.length - (intOf iv).toNat)
  case atStart => exact ⟨0, Nat.zero_le _, rfl, Hi0, hb0⟩
  case round =>
    obtain ⟨k, hk, rfl, HI, hb⟩ := hrel
    clear Hi0 hb0
    by_cases hlt : k < qs.length
    · obtain ⟨q, hq⟩ : ∃ q, qs[k]? = some q := ⟨_, List.getElem?_eq_getElem hlt⟩
      obtain ⟨g, rfl, -, hg, f0, f1, f2, f3, f4⟩ := (hv.on hb).elem hq
      have Hat := Lib.hid (clean_at (rss := rss) hq)
      have hk9 : k < 9223372036854775807 := by omega
      have Hru := Lib.hid (deck_rule H2.out hq)
      have hL := Lib.hid (hl.on hb)
      have hC := Lib.hid ((hb.cell (p := ⟨lb, 0, none⟩) hlb).trans Hc.out)
      have hB := Nat.lt_of_lt_of_le hlb hb.size
      clear hq
      go_wp2_with fail
      refine (clean_clo q lv lb rss _ H1.out Hru.out hL.out hC.out hB).mono ?_
      rintro e w3 ⟨rfl, hb3⟩
      have b3 := hb.trans (hb3.mono hb.size)
      clear hb3 hb f0 f1 f2 f3 f4 hL hC hB
      by_cases hn0 : (rmV rss q).length = 0
      · rw [decide_eq_true hn0] at Hat ⊢
        have HI2 := Lib.hid (show ∀ j, j < k + 1 → cleanAt rss qs j = true from fun j hj => by
          by_cases e : j = k
          · subst e
            exact Hat.out
          · exact HI.out j (by omega))
        clear hn0
        go_wp2
        exact ⟨⟨k + 1, by omega, by go_num, HI2, b3⟩, by simp [intOf]; omega⟩
      · rw [decide_eq_false hn0] at Hat ⊢
        have Hbad := Lib.hid (clean_bad hlt Hat.out)
        clear hn0
        go_wp2
        go_ret
        exact ⟨_, rfl, by omega, by omega, by rw [Hbad.out]; exact decide_eq_true (by omega), b3⟩
    · have hke : k = qs.length := by omega
      subst hke
      have Hall := Lib.hid (clean_all HI.out)
      go_wp2
      go_ret
      exact ⟨_, rfl, by omega, by omega, by rw [Hall.out]; rfl, hb⟩
theorem dirtHas_any (v lv : Value) (lb : Nat) (rss : List (List Rc)) (qs : List Ru) (w : World) (h1 : layB rss = true) (h2 : deckB qs = true) (hv : QL w 0 v qs) (hl : RLL w 0 lv rss) (hc : w.cell? ⟨lb, 0, none⟩ = some lv) (hlb : lb < w.heap.size) (hn : qs.length ≤ 1000000000) :
    Calls Tryz.prog 67 #[v, .func (.func 68) #[] #[.pointer (some ⟨lb, 0, none⟩)]] w fun e w' => e = .returned (.bool (!allClean rss qs)) ∧ Below w.heap.size w w' := by
  go_enter Tryz.func67, Tryz.ntmps67
  go_wp2_with fail
  refine (dirtIndex_any v lv lb rss qs _ h1 h2 hv hl hc hlb hn).mono ?_
  clear h1 h2
  rintro e w1 ⟨i, rfl, h1, h2, h3, hb1⟩
  have H3 := Lib.hid h3
  clear h3
  go_wp2
  go_ret
  exact ⟨ret_bool H3.out, hb1⟩

set_option maxHeartbeats 1600000 in
set_option maxRecDepth 100000 in
theorem clean_impl (lv v : Value) (rss : List (List Rc)) (qs : List Ru) (w : World) (hl : RLL w 0 lv rss) (hv : QL w 0 v qs) (hn : qs.length ≤ 1000000000) : Calls Tryz.prog 22 #[lv, .agg #[v]] w fun e w' => e = .returned (.bool (cleanB rss qs)) ∧ Below w.heap.size w w' := by
  obtain ⟨A, c, rfl, hc, hm⟩ := hv.form
  obtain ⟨A2, c2, rfl, hc2, hm2⟩ := hl.form
  unfold maxLen at hm hm2
  have e1 : (w.alloc (.cells #[.slice A2 rss.length c2] 28)).heap.size = w.heap.size + 1 := by simp
  have hb0 := ((Below.refl w.heap.size w).alloc (Nat.le_refl _) (.cells #[.slice A2 rss.length c2] 28)).alloc (by simp) (.cells #[.slice A qs.length c] 44)
  have yb := (Bk.new w 28 #[.slice A2 rss.length c2]).alloc (.cells #[.slice A qs.length c] 44)
  have zb := Bk.new (w.alloc (.cells #[.slice A2 rss.length c2] 28)) 44 #[.slice A qs.length c]
  rw [e1] at zb
  have hX0 := (hv.alloc (.cells #[.slice A2 rss.length c2] 28)).alloc (.cells #[.slice A qs.length c] 44)
  have hL0 := (hl.alloc (.cells #[.slice A2 rss.length c2] 28)).alloc (.cells #[.slice A qs.length c] 44)
  clear hv hl e1
  cases h1 : layB rss with
  | false =>
    have e0 : cleanB rss qs = false := by unfold cleanB; rw [h1, Bool.false_and, Bool.false_and]
    rw [e0]
    clear e0
    go_enter Tryz.func22, Tryz.ntmps22
    go_wp2_with fail
    refine (isLay_impl _ rss _ hL0).mono ?_
    rintro e w1 ⟨rfl, hb1⟩
    rw [h1]
    go_wp2
    go_ret
    exact ⟨rfl, hb0.trans (hb1.mono hb0.size)⟩
  | true =>
  have H1 := Lib.hid h1
  clear h1
  cases h2 : deckB qs with
  | false =>
    have e0 : cleanB rss qs = false := by unfold cleanB; rw [H1.out, h2]; rfl
    rw [e0]
    clear e0
    go_enter Tryz.func22, Tryz.ntmps22
    go_wp2_with fail
    refine (isLay_impl _ rss _ hL0).mono ?_
    rintro e w1 ⟨rfl, hb1⟩
    rw [H1.out]
    have z1 := zb.on hb1
    have x1 := hX0.on hb1
    have b1 := hb0.trans (hb1.mono hb0.size)
    have d0 := box1 z1
    clear zb hX0 hb0 hb1 hL0 yb
    go_wp2_with fail
    refine (deck_impl _ qs _ x1 hn).mono ?_
    rintro e w2 ⟨rfl, hb2⟩
    rw [h2]
    clear d0
    go_wp2
    go_ret
    exact ⟨rfl, b1.trans (hb2.mono b1.size)⟩
  | true =>
  have e0 : cleanB rss qs = allClean rss qs := by unfold cleanB; rw [H1.out, h2]; rfl
  rw [e0]
  clear e0
  have H2 := Lib.hid h2
  clear h2
  go_enter Tryz.func22, Tryz.ntmps22
  go_wp2_with fail
  refine (isLay_impl _ rss _ hL0).mono ?_
  rintro e w1 ⟨rfl, hb1⟩
  rw [H1.out]
  have z1 := zb.on hb1
  have y1 := yb.on hb1
  have x1 := hX0.on hb1
  have l1 := hL0.on hb1
  have b1 := hb0.trans (hb1.mono hb0.size)
  have d0 := box1 z1
  clear zb hX0 hb0 hb1 hL0 yb
  go_wp2_with fail
  refine (deck_impl _ qs _ x1 hn).mono ?_
  rintro e w2 ⟨rfl, hb2⟩
  rw [H2.out]
  have z2 := z1.on hb2
  have y2 := y1.on hb2
  have x2 := x1.on hb2
  have l2 := l1.on hb2
  have b2 := b1.trans (hb2.mono b1.size)
  clear d0 z1 x1 l1 b1 hb2 y1
  have d0 := box1 z2
  go_wp2_with fail
  refine (dirtHas_any _ _ w.heap.size rss qs _ H1.out H2.out x2 l2 (box1 y2) y2.lt hn).mono ?_
  rintro e w3 ⟨rfl, hb3⟩
  go_wp2
  go_ret
  exact ⟨ret_bool (by simp), b2.trans (hb3.mono b2.size)⟩

end Go.Proofs.YtbljapihmkmolaaGreat
