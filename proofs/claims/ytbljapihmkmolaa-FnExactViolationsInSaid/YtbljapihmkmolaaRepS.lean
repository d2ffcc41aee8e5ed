/- Contracts: the reference's RectLess, l04Op, l20Before, IsReport. Conditions: lists in memory. -/
import Derived.Test.YtbljapihmkmolaaPartsP
import Derived.Test.YtbljapihmkmolaaVList
import Derived.Test.YtbljapihmkmolaaBox
import Derived.Test.YtbljapihmkmolaaLawB
import Derived.Deep.RegionHeld3
namespace Go.Proofs.Ytbljapihmkmolaa
open Go.RowKit

theorem less_any (a b : Rc) (w : World) : Calls Try.prog 60 #[a.val, b.val] w fun e w' => e = .returned (.bool (lessR a b)) ∧ Below w.heap.size w w' := by
  obtain ⟨a0, a1, a2, a3⟩ := a
  obtain ⟨b0, b1, b2, b3⟩ := b
  unfold Rc.val
  have hb := fun o o' => ((Below.refl w.heap.size w).alloc (Nat.le_refl _) o).alloc (by simp) o'
  by_cases h1 : a1 = b1
  · subst h1
    by_cases h2 : a0 = b0
    · subst h2
      by_cases h3 : a3 = b3
      · subst h3
        go_enter Try.func60, Try.ntmps60
        go_wp2
        go_ret
        exact ⟨ret_bool (by rw [Bool.eq_iff_iff, lessR_iff]; simp), hb _ _⟩
      · have hn : (a3 != b3) = true := by simpa using h3
        have he : decide (a3 < b3) = lessR ⟨a0, a1, a2, a3⟩ ⟨a0, a1, b2, b3⟩ := by rw [Bool.eq_iff_iff, lessR_iff]; simp; omega
        rw [← he]
        clear he
        go_enter Try.func60, Try.ntmps60
        go_wp2
        go_ret
        exact ⟨rfl, hb _ _⟩
    · have hn : (a0 != b0) = true := by simpa using h2
      have he : decide (a0 < b0) = lessR ⟨a0, a1, a2, a3⟩ ⟨b0, a1, b2, b3⟩ := by rw [Bool.eq_iff_iff, lessR_iff]; simp; omega
      rw [← he]
      clear he
      go_enter Try.func60, Try.ntmps60
      go_wp2
      go_ret
      exact ⟨rfl, hb _ _⟩
  · have hn : (a1 != b1) = true := by simpa using h1
    have he : decide (a1 < b1) = lessR ⟨a0, a1, a2, a3⟩ ⟨b0, b1, b2, b3⟩ := by rw [Bool.eq_iff_iff, lessR_iff]; simp; omega
    rw [← he]
    clear he
    go_enter Try.func60, Try.ntmps60
    go_wp2
    go_ret
    exact ⟨rfl, hb _ _⟩
theorem RL.head4 {w : World} {B g n c : Nat} {rs : List Rc} (h : RL w B (.slice (some ⟨g, 0, none⟩) n c) rs) {x0 y0 x1 y1 : Int} (hr : rs[0]? = some ⟨x0, y0, x1, y1⟩) :
    w.cell? ⟨g, 0, none⟩ = some (.int .i64 x0) ∧ w.cell? ⟨g, 1, none⟩ = some (.int .i64 y0) ∧ w.cell? ⟨g, 2, none⟩ = some (.int .i64 x1) ∧ w.cell? ⟨g, 3, none⟩ = some (.int .i64 y1) := by simpa using h.four hr

set_option maxHeartbeats 800000 in
theorem op_any (v u : Value) (a b : List Rc) (op : Int) (hop : op = 14 ∨ op = 8) (w : World) (hv : RL w 0 v a) (hu : RL w 0 u b) (ha : okAll a = true) (hb : okAll b = true) : Calls Try.prog 53 #[v, u, .int .i64 op] w fun e w' => ∃ z, e = .returned z ∧ RL w' w.heap.size z (canon (tabG op (cellsG a) (cellsG b))) ∧ Below w.heap.size w w' := by
  go_enter Try.func53, Try.ntmps53
  go_wp2_with fail
  refine (l03Bits_any v a _ hv ha).mono ?_
  rintro e w1 ⟨z1, rfl, hG1, hb1⟩
  replace hu := RL.on hu hb1
  go_wp2_with fail
  refine (l03Bits_any u b _ hu hb).mono ?_
  rintro e w2 ⟨z2, rfl, hG2, hb2⟩
  have hG1' := (hG1.on hb2).less (Nat.zero_le _)
  have hG2' := hG2.less (Nat.zero_le _)
  replace hb1 := hb1.trans (hb2.mono hb1.size)
  go_wp2_with fail
  refine (combine_any z1 z2 op hop _ _ _ hG1' hG2').mono ?_
  rintro e w3 ⟨z3, rfl, hG3, hb3⟩
  replace hb1 := hb1.trans (hb3.mono hb1.size)
  go_wp2_with fail
  refine (l03Canon_any z3 _ _ (hG3.less (Nat.zero_le _))).mono ?_
  rintro e w4 ⟨z4, rfl, hR, hb4⟩
  go_wp2
  go_ret
  exact ⟨_, rfl, hR.less hb1.size, hb1.trans (hb4.mono hb1.size)⟩

/-- Two regions do not touch. -/
theorem touch_no {a b : List Rc} : (canon (tabG 8 (cellsG a) (cellsG b))).length = 0 ↔ touchB a b = false := by
  rw [List.length_eq_zero_iff, canon_nil_iff]
  constructor
  · intro h
    exact meet_no h
  · intro h i hi
    apply Classical.byContradiction
    intro hc
    have hc' : tabG 8 (cellsG a) (cellsG b) i = true := by simpa using hc
    rw [tab8] at hc'
    unfold interG at hc'
    rw [Bool.and_eq_true] at hc'
    have := meet_yes hi hc'.1 hc'.2
    unfold touchB at h
    rw [h] at this
    cases this

set_option maxHeartbeats 1600000 in
set_option maxRecDepth 100000 in
theorem before_any (k l : Int) (v u : Value) (a b : List Rc) (w : World) (hv : RL w 0 v a) (hu : RL w 0 u b) (ha : okAll a = true) (hb : okAll b = true) (hna : a ≠ []) (hnb : b ≠ []) :
    Calls Try.prog 45 #[.agg #[.int .i64 k, v], .agg #[.int .i64 l, u]] w fun e w' => e = .returned (.bool (befV (k, a) (l, b))) ∧ Below w.heap.size w w' := by
  obtain ⟨A, c, rfl, hc, hm, -⟩ := hv.form
  obtain ⟨A2, c2, rfl, hc2, hm2, -⟩ := hu.form
  unfold maxLen at hm hm2
  have ha0 : 0 < a.length := List.length_pos_iff.2 hna
  have hb0 : 0 < b.length := List.length_pos_iff.2 hnb
  have e1 : (w.alloc (.cells #[.int .i64 k, .slice A a.length c] 29)).heap.size = w.heap.size + 1 := by simp
  have x0 := (Bk.new w 29 #[.int .i64 k, .slice A a.length c]).alloc (.cells #[.int .i64 l, .slice A2 b.length c2] 29)
  have y0 := Bk.new (w.alloc (.cells #[.int .i64 k, .slice A a.length c] 29)) 29 #[.int .i64 l, .slice A2 b.length c2]
  rw [e1] at y0
  have hV := RL.alloc (RL.alloc hv (.cells #[.int .i64 k, .slice A a.length c] 29)) (.cells #[.int .i64 l, .slice A2 b.length c2] 29)
  have hU := RL.alloc (RL.alloc hu (.cells #[.int .i64 k, .slice A a.length c] 29)) (.cells #[.int .i64 l, .slice A2 b.length c2] 29)
  have hB := ((Below.refl w.heap.size w).alloc (Nat.le_refl _) (.cells #[.int .i64 k, .slice A a.length c] 29)).alloc (by simp) (.cells #[.int .i64 l, .slice A2 b.length c2] 29)
  obtain ⟨g, ax0, ay0, ax1, ay1, rfl, hra, hg, f0, f1, f2, f3⟩ := hV.elem ha0
  obtain ⟨h, bx0, by0, bx1, by1, rfl, hrb, hh, d0, d1, d2, d3⟩ := hU.elem hb0
  have Ha := Lib.hid (headD_get hra)
  have Hb := Lib.hid (headD_get hrb)
  have Hoa := Lib.hid ha
  have Hob := Lib.hid hb
  clear hv hu e1 ha hb hna hnb
  by_cases hkl : k = l
  · subst hkl
    have hkk : (k != k) = false := by simp
    have Hbef := Lib.hid (befV_eq (a := (k, a)) (b := (k, b)) rfl)
    have HRa := Lib.hid hra
    have HRb := Lib.hid hrb
    have tc := hB.drew
    have xx := x0.drew
    have yy := y0.drew
    have vv := RL.on hV (Below.refl _ _).drew
    have uu := RL.on hU (Below.refl _ _).drew
    obtain ⟨m0, m1⟩ := box2 x0
    obtain ⟨n0, n1⟩ := box2 y0
    clear x0 y0 hV hU hB hra hrb
    cases hL : lessR ⟨ax0, ay0, ax1, ay1⟩ ⟨bx0, by0, bx1, by1⟩ with
    | true =>
      have e0 : befV (k, a) (k, b) = !touchB a b := by rw [Hbef.out]; dsimp only; rw [Ha.out, Hb.out, hL, Bool.true_and]
      rw [e0]
      clear e0 Hbef
      have HL := Lib.hid hL
      clear hL
      go_enter Try.func45, Try.ntmps45
      go_wp2
      clear m0 m1 n0 n1 f0 f1 f2 f3 d0 d1 d2 d3
      go_region_held3 (fun w' => w'.cell? ⟨w.heap.size, 1, none⟩ = some (.slice (some ⟨g, 0, none⟩) a.length c) ∧ w'.cell? ⟨w.heap.size + 1, 1, none⟩ = some (.slice (some ⟨h, 0, none⟩) b.length c2) ∧ (w'.cell? ⟨g, 0, none⟩ = some (.int .i64 ax0) ∧ w'.cell? ⟨g, 1, none⟩ = some (.int .i64 ay0) ∧ w'.cell? ⟨g, 2, none⟩ = some (.int .i64 ax1) ∧ w'.cell? ⟨g, 3, none⟩ = some (.int .i64 ay1)) ∧ (w'.cell? ⟨h, 0, none⟩ = some (.int .i64 bx0) ∧ w'.cell? ⟨h, 1, none⟩ = some (.int .i64 by0) ∧ w'.cell? ⟨h, 2, none⟩ = some (.int .i64 bx1) ∧ w'.cell? ⟨h, 3, none⟩ = some (.int .i64 by1))) (exact ⟨(box2 xx).2, (box2 yy).2, vv.head4 HRa.out, uu.head4 HRb.out⟩)
        (first | (go_at_call 60; refine (less_any ⟨ax0, ay0, ax1, ay1⟩ ⟨bx0, by0, bx1, by1⟩ _).mono ?_; rintro e w6 ⟨rfl, hb6⟩; rw [HL.out]; have tc := tc.trans (hb6.mono tc.size); have xx := xx.on hb6; have yy := yy.on hb6; have vv := RL.on vv hb6; have uu := RL.on uu hb6)
               | (go_at_call 53; refine (op_any _ _ a b 8 (.inr rfl) _ vv uu Hoa.out Hob.out).mono ?_; rintro e w7 ⟨z, rfl, hR, hb7⟩; obtain ⟨A9, c9, rfl, -, -, -⟩ := hR.form; have tc := tc.trans (hb7.mono tc.size); have xx := xx.on hb7; have yy := yy.on hb7; have vv := RL.on vv hb7; have uu := RL.on uu hb7))
      go_wp2
      go_ret
      refine ⟨ret_bool ?_, tc⟩
      have ht := touch_no (a := a) (b := b)
      cases h9 : touchB a b with
      | false => rw [ht.2 h9]; rfl
      | true =>
        rw [h9] at ht
        simp only [Bool.not_true, beq_eq_false_iff_ne, ne_eq]
        intro hc
        have := ht.1 (by omega)
        cases this
    | false => 
      have e0 : befV (k, a) (k, b) = false := by rw [Hbef.out]; dsimp only; rw [Ha.out, Hb.out, hL, Bool.false_and]
      rw [e0]
      clear e0 Hbef
      have HL := Lib.hid hL
      clear hL
      go_enter Try.func45, Try.ntmps45
      go_wp2
      clear m0 m1 n0 n1 f0 f1 f2 f3 d0 d1 d2 d3
      refine wp_region_held_drew (S := (fun w' => w'.cell? ⟨w.heap.size, 1, none⟩ = some (.slice (some ⟨g, 0, none⟩) a.length c) ∧ w'.cell? ⟨w.heap.size + 1, 1, none⟩ = some (.slice (some ⟨h, 0, none⟩) b.length c2) ∧ (w'.cell? ⟨g, 0, none⟩ = some (.int .i64 ax0) ∧ w'.cell? ⟨g, 1, none⟩ = some (.int .i64 ay0) ∧ w'.cell? ⟨g, 2, none⟩ = some (.int .i64 ax1) ∧ w'.cell? ⟨g, 3, none⟩ = some (.int .i64 ay1)) ∧ (w'.cell? ⟨h, 0, none⟩ = some (.int .i64 bx0) ∧ w'.cell? ⟨h, 1, none⟩ = some (.int .i64 by0) ∧ w'.cell? ⟨h, 2, none⟩ = some (.int .i64 bx1) ∧ w'.cell? ⟨h, 3, none⟩ = some (.int .i64 by1)))) (by kernel_rfl) ⟨(box2 xx).2, (box2 yy).2, vv.head4 HRa.out, uu.head4 HRb.out⟩ (fun _ => ?_)
      refine wpAnyH_take (i := 0) (oi := ⟨_, _, _, _, _, _⟩) (v := .pointer (some ⟨w.heap.size, 1, none⟩)) rfl (by kernel_rfl) (by kernel_rfl) (by kernel_rfl) (fun _ _ _ h => h) (Or.inl ⟨by rfl, fun _ hS => by obtain ⟨s1, s2, ⟨s3, s4, s5, s6⟩, s7, s8, s9, s10⟩ := hS; go_simp⟩) ⟨(box2 xx).2, (box2 yy).2, vv.head4 HRa.out, uu.head4 HRb.out⟩ ?_
      try simp only [Act.put, List.setIfInBounds_toArray, List.set_cons_succ, List.set_cons_zero]
      refine wpAnyH_take (i := 1) (oi := ⟨_, _, _, _, _, _⟩) (v := .slice (some ⟨g, 0, none⟩) a.length c) rfl (by kernel_rfl) (by kernel_rfl) (by kernel_rfl) (fun _ _ _ h => h) (Or.inl ⟨by rfl, fun _ hS => by obtain ⟨s1, s2, ⟨s3, s4, s5, s6⟩, s7, s8, s9, s10⟩ := hS; go_simp⟩) ⟨(box2 xx).2, (box2 yy).2, vv.head4 HRa.out, uu.head4 HRb.out⟩ ?_
      try simp only [Act.put, List.setIfInBounds_toArray, List.set_cons_succ, List.set_cons_zero]
      refine wpAnyH_take (i := 2) (oi := ⟨_, _, _, _, _, _⟩) (v := .pointer (some ⟨g, 0, none⟩)) rfl (by kernel_rfl) (by kernel_rfl) (by kernel_rfl) (fun _ _ _ h => h) (Or.inl ⟨by rfl, fun _ hS => by obtain ⟨s1, s2, ⟨s3, s4, s5, s6⟩, s7, s8, s9, s10⟩ := hS; go_simp⟩) ⟨(box2 xx).2, (box2 yy).2, vv.head4 HRa.out, uu.head4 HRb.out⟩ ?_
      try simp only [Act.put, List.setIfInBounds_toArray, List.set_cons_succ, List.set_cons_zero]
      refine wpAnyH_take (i := 3) (oi := ⟨_, _, _, _, _, _⟩) (v := .agg #[.int .i64 ax0, .int .i64 ay0, .int .i64 ax1, .int .i64 ay1]) rfl (by kernel_rfl) (by kernel_rfl) (by kernel_rfl) (fun _ _ _ h => h) (Or.inl ⟨by rfl, fun _ hS => by obtain ⟨s1, s2, ⟨s3, s4, s5, s6⟩, s7, s8, s9, s10⟩ := hS; go_simp⟩) ⟨(box2 xx).2, (box2 yy).2, vv.head4 HRa.out, uu.head4 HRb.out⟩ ?_
      try simp only [Act.put, List.setIfInBounds_toArray, List.set_cons_succ, List.set_cons_zero]
      refine wpAnyH_take (i := 4) (oi := ⟨_, _, _, _, _, _⟩) (v := .pointer (some ⟨w.heap.size + 1, 1, none⟩)) rfl (by kernel_rfl) (by kernel_rfl) (by kernel_rfl) (fun _ _ _ h => h) (Or.inl ⟨by rfl, fun _ hS => by obtain ⟨s1, s2, ⟨s3, s4, s5, s6⟩, s7, s8, s9, s10⟩ := hS; go_simp⟩) ⟨(box2 xx).2, (box2 yy).2, vv.head4 HRa.out, uu.head4 HRb.out⟩ ?_
      try simp only [Act.put, List.setIfInBounds_toArray, List.set_cons_succ, List.set_cons_zero]
      refine wpAnyH_take (i := 5) (oi := ⟨_, _, _, _, _, _⟩) (v := .slice (some ⟨h, 0, none⟩) b.length c2) rfl (by kernel_rfl) (by kernel_rfl) (by kernel_rfl) (fun _ _ _ h => h) (Or.inl ⟨by rfl, fun _ hS => by obtain ⟨s1, s2, ⟨s3, s4, s5, s6⟩, s7, s8, s9, s10⟩ := hS; go_simp⟩) ⟨(box2 xx).2, (box2 yy).2, vv.head4 HRa.out, uu.head4 HRb.out⟩ ?_
      try simp only [Act.put, List.setIfInBounds_toArray, List.set_cons_succ, List.set_cons_zero]
      refine wpAnyH_take (i := 6) (oi := ⟨_, _, _, _, _, _⟩) (v := .pointer (some ⟨h, 0, none⟩)) rfl (by kernel_rfl) (by kernel_rfl) (by kernel_rfl) (fun _ _ _ h => h) (Or.inl ⟨by rfl, fun _ hS => by obtain ⟨s1, s2, ⟨s3, s4, s5, s6⟩, s7, s8, s9, s10⟩ := hS; go_simp⟩) ⟨(box2 xx).2, (box2 yy).2, vv.head4 HRa.out, uu.head4 HRb.out⟩ ?_
      try simp only [Act.put, List.setIfInBounds_toArray, List.set_cons_succ, List.set_cons_zero]
      refine wpAnyH_take (i := 7) (oi := ⟨_, _, _, _, _, _⟩) (v := .agg #[.int .i64 bx0, .int .i64 by0, .int .i64 bx1, .int .i64 by1]) rfl (by kernel_rfl) (by kernel_rfl) (by kernel_rfl) (fun _ _ _ h => h) (Or.inl ⟨by rfl, fun _ hS => by obtain ⟨s1, s2, ⟨s3, s4, s5, s6⟩, s7, s8, s9, s10⟩ := hS; go_simp⟩) ⟨(box2 xx).2, (box2 yy).2, vv.head4 HRa.out, uu.head4 HRb.out⟩ ?_
      try simp only [Act.put, List.setIfInBounds_toArray, List.set_cons_succ, List.set_cons_zero]
      refine wpAnyH_ready (rs := [8]) (by kernel_rfl) (by simp) (AllReadyH.cons (o := ⟨_, _, _, _, _, _⟩) rfl (fun K hK => ?_) AllReadyH.nil)
      go_simp
      refine (less_any ⟨ax0, ay0, ax1, ay1⟩ ⟨bx0, by0, bx1, by1⟩ _).mono ?_
      rintro e w6 ⟨rfl, hb6⟩
      rw [HL.out]
      replace tc := tc.trans (hb6.mono tc.size)
      replace xx := xx.on hb6
      replace yy := yy.on hb6
      replace vv := RL.on vv hb6
      replace uu := RL.on uu hb6
      go_wp2_with fail
      refine hK.out _ _ ⟨(box2 xx).2, (box2 yy).2, vv.head4 HRa.out, uu.head4 HRb.out⟩ (fun _ => ?_)
      clear hK K
      try simp only [Act.put, List.setIfInBounds_toArray, List.set_cons_succ, List.set_cons_zero]
      refine wpAnyH_take (i := 9) (oi := ⟨_, _, _, _, _, _⟩) (v := .bool false) rfl (by kernel_rfl) (by kernel_rfl) (by kernel_rfl) (fun _ _ _ h => h) (Or.inl ⟨by rfl, fun _ _ => by go_simp⟩) ⟨(box2 xx).2, (box2 yy).2, vv.head4 HRa.out, uu.head4 HRb.out⟩ ?_
      try simp only [Act.put, List.setIfInBounds_toArray, List.set_cons_succ, List.set_cons_zero]
      refine wpAnyH_take (i := 10) (oi := ⟨_, _, _, _, _, _⟩) (v := undef) rfl (by kernel_rfl) (by kernel_rfl) (by kernel_rfl) (fun _ _ _ h => h) (Or.inr ⟨by rfl, rfl⟩) ⟨(box2 xx).2, (box2 yy).2, vv.head4 HRa.out, uu.head4 HRb.out⟩ ?_
      try simp only [Act.put, List.setIfInBounds_toArray, List.set_cons_succ, List.set_cons_zero]
      refine wpAnyH_take (i := 11) (oi := ⟨_, _, _, _, _, _⟩) (v := undef) rfl (by kernel_rfl) (by kernel_rfl) (by kernel_rfl) (fun _ _ _ h => h) (Or.inr ⟨by rfl, rfl⟩) ⟨(box2 xx).2, (box2 yy).2, vv.head4 HRa.out, uu.head4 HRb.out⟩ ?_
      try simp only [Act.put, List.setIfInBounds_toArray, List.set_cons_succ, List.set_cons_zero]
      refine wpAnyH_take (i := 12) (oi := ⟨_, _, _, _, _, _⟩) (v := undef) rfl (by kernel_rfl) (by kernel_rfl) (by kernel_rfl) (fun _ _ _ h => h) (Or.inr ⟨by rfl, rfl⟩) ⟨(box2 xx).2, (box2 yy).2, vv.head4 HRa.out, uu.head4 HRb.out⟩ ?_
      try simp only [Act.put, List.setIfInBounds_toArray, List.set_cons_succ, List.set_cons_zero]
      refine wpAnyH_take (i := 13) (oi := ⟨_, _, _, _, _, _⟩) (v := undef) rfl (by kernel_rfl) (by kernel_rfl) (by kernel_rfl) (fun _ _ _ h => h) (Or.inr ⟨by rfl, rfl⟩) ⟨(box2 xx).2, (box2 yy).2, vv.head4 HRa.out, uu.head4 HRb.out⟩ ?_
      try simp only [Act.put, List.setIfInBounds_toArray, List.set_cons_succ, List.set_cons_zero]
      refine wpAnyH_take (i := 14) (oi := ⟨_, _, _, _, _, _⟩) (v := undef) rfl (by kernel_rfl) (by kernel_rfl) (by kernel_rfl) (fun _ _ _ h => h) (Or.inr ⟨by rfl, rfl⟩) ⟨(box2 xx).2, (box2 yy).2, vv.head4 HRa.out, uu.head4 HRb.out⟩ ?_
      try simp only [Act.put, List.setIfInBounds_toArray, List.set_cons_succ, List.set_cons_zero]
      refine wpAnyH_take (i := 15) (oi := ⟨_, _, _, _, _, _⟩) (v := undef) rfl (by kernel_rfl) (by kernel_rfl) (by kernel_rfl) (fun _ _ _ h => h) (Or.inr ⟨by rfl, rfl⟩) ⟨(box2 xx).2, (box2 yy).2, vv.head4 HRa.out, uu.head4 HRb.out⟩ ?_
      try simp only [Act.put, List.setIfInBounds_toArray, List.set_cons_succ, List.set_cons_zero]
      refine wpAnyH_take (i := 16) (oi := ⟨_, _, _, _, _, _⟩) (v := undef) rfl (by kernel_rfl) (by kernel_rfl) (by kernel_rfl) (fun _ _ _ h => h) (Or.inr ⟨by rfl, rfl⟩) ⟨(box2 xx).2, (box2 yy).2, vv.head4 HRa.out, uu.head4 HRb.out⟩ ?_
      try simp only [Act.put, List.setIfInBounds_toArray, List.set_cons_succ, List.set_cons_zero]
      refine wpAnyH_take (i := 17) (oi := ⟨_, _, _, _, _, _⟩) (v := .bool false) rfl (by kernel_rfl) (by kernel_rfl) (by kernel_rfl) (fun _ _ _ h => h) (Or.inl ⟨by rfl, fun _ _ => by go_simp⟩) ⟨(box2 xx).2, (box2 yy).2, vv.head4 HRa.out, uu.head4 HRb.out⟩ ?_
      try simp only [Act.put, List.setIfInBounds_toArray, List.set_cons_succ, List.set_cons_zero]
      refine wpAnyH_take (i := 18) (oi := ⟨_, _, _, _, _, _⟩) (v := .bool false) rfl (by kernel_rfl) (by kernel_rfl) (by kernel_rfl) (fun _ _ _ h => h) (Or.inl ⟨by rfl, fun _ _ => by go_simp⟩) ⟨(box2 xx).2, (box2 yy).2, vv.head4 HRa.out, uu.head4 HRb.out⟩ ?_
      try simp only [Act.put, List.setIfInBounds_toArray, List.set_cons_succ, List.set_cons_zero]
      refine wpAnyH_done (by kernel_rfl) ?_ _
      go_wp2
      go_ret
      exact ⟨rfl, tc⟩
  · have e0 : befV (k, a) (l, b) = decide (k < l) := befV_ne hkl
    rw [e0]
    clear e0
    obtain ⟨m0, m1⟩ := box2 x0
    obtain ⟨n0, n1⟩ := box2 y0
    have hkn : (k != l) = true := by simpa using hkl
    clear f0 f1 f2 f3 d0 d1 d2 d3 x0 y0 hV hU hra hrb
    go_enter Try.func45, Try.ntmps45
    go_wp2
    go_ret
    exact ⟨rfl, hB⟩

end Go.Proofs.Ytbljapihmkmolaa
