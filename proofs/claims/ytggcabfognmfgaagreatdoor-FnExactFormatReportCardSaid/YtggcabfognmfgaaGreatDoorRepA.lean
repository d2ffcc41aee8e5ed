/- Contracts: the reference's RectLess, l04Op, l20Before, IsReport. Conditions: lists in memory. Contract: the reference's IsReport. Condition: a list of violations in memory. Contract: the program's IsReport. Condition: a list of violations in memory. -/
import Derived.Test.YtggcabfognmfgaaGreatDoorPartsA
import Derived.Test.YtggcabfognmfgaaGreatDoorVioA
import Derived.Test.YtggcabfognmfgaaGreatDoorLawB
import Derived.Deep.RegionHeld3
import Derived.StillTailTactics
import Derived.Test.YtggcabfognmfgaaGreatDoorUnion
import Derived.Deep.QuietTactic
import Derived.BigQuiet
namespace Go.Proofs.YtggcabfognmfgaaGreatDoor
open Go.RowKit

theorem less_any (a b : Rc) (w : World) : Calls Tryz.prog 35 #[a.val, b.val] w fun e w' => e = .returned (.bool (lessR a b)) ∧ Below w.heap.size w w' := by
  obtain ⟨a0, a1, a2, a3⟩ := a
  obtain ⟨b0, b1, b2, b3⟩ := b
  unfold Rc.val
  have hb := fun o o' => ((Below.refl w.heap.size w).alloc (Nat.le_refl _) o).alloc (by simp) o'
  by_cases h1 : a1 = b1
  · subst h1
    by_cases h2 : a0 = b0
    · subst h2
      by_cases h3 : a3 = b3
      · subst h3
        go_enter Tryz.func35, Tryz.ntmps35
        go_wp2
        go_ret
        exact ⟨ret_bool (by rw [Bool.eq_iff_iff, lessR_iff]; simp), hb _ _⟩
      · have hn : (a3 != b3) = true := by simpa using h3
        have he : decide (a3 < b3) = lessR ⟨a0, a1, a2, a3⟩ ⟨a0, a1, b2, b3⟩ := by rw [Bool.eq_iff_iff, lessR_iff]; simp; omega
        rw [← he]
        clear he
        go_enter Tryz.func35, Tryz.ntmps35
        go_wp2
        go_ret
        exact ⟨rfl, hb _ _⟩
    · have hn : (a0 != b0) = true := by simpa using h2
      have he : decide (a0 < b0) = lessR ⟨a0, a1, a2, a3⟩ ⟨b0, a1, b2, b3⟩ := by rw [Bool.eq_iff_iff, lessR_iff]; simp; omega
      rw [← he]
      clear he
      go_enter Tryz.func35, Tryz.ntmps35
      go_wp2
      go_ret
      exact ⟨rfl, hb _ _⟩
  · have hn : (a1 != b1) = true := by simpa using h1
    have he : decide (a1 < b1) = lessR ⟨a0, a1, a2, a3⟩ ⟨b0, b1, b2, b3⟩ := by rw [Bool.eq_iff_iff, lessR_iff]; simp; omega
    rw [← he]
    clear he
    go_enter Tryz.func35, Tryz.ntmps35
    go_wp2
    go_ret
    exact ⟨rfl, hb _ _⟩
theorem RL.head4 {w : World} {B g n c : Nat} {rs : List Rc} (h : RL w B (.slice (some ⟨g, 0, none⟩) n c) rs) {x0 y0 x1 y1 : Int} (hr : rs[0]? = some ⟨x0, y0, x1, y1⟩) :
    w.cell? ⟨g, 0, none⟩ = some (.int .i64 x0) ∧ w.cell? ⟨g, 1, none⟩ = some (.int .i64 y0) ∧ w.cell? ⟨g, 2, none⟩ = some (.int .i64 x1) ∧ w.cell? ⟨g, 3, none⟩ = some (.int .i64 y1) := by simpa using h.four hr

set_option maxHeartbeats 800000 in
theorem op_any (v u : Value) (a b : List Rc) (op : Int) (hop : op = 14 ∨ op = 8) (w : World) (hv : RL w 0 v a) (hu : RL w 0 u b) (ha : okAll a = true) (hb : okAll b = true) : Calls Tryz.prog 36 #[v, u, .int .i64 op] w fun e w' => ∃ z, e = .returned z ∧ RL w' w.heap.size z (canon (tabG op (cellsG a) (cellsG b))) ∧ Below w.heap.size w w' := by
  go_enter Tryz.func36, Tryz.ntmps36
  go_wp2_with fail
  refine (l03Bits_any v a _ hv ha).mono ?_
  rintro e w1 ⟨z1, rfl, hG1, hb1⟩
  replace hu := RL.on hu hb1
  go_wp2_with fail
  refine (l03Bits_any u b _ hu hb).mono ?_
  rintro e w2 ⟨z2, rfl, hG2, hb2⟩
  have hG1' := (hG1.on hb2).less (Nat.zero_le _)
  have hG2' := hG2.less (Nat.zero_le _)
  replace hb1 := hb1.trans (hb2.mono hb1.size)
  go_wp2_with fail
  refine (combine_any z1 z2 op hop _ _ _ hG1' hG2').mono ?_
  rintro e w3 ⟨z3, rfl, hG3, hb3⟩
  replace hb1 := hb1.trans (hb3.mono hb1.size)
  go_wp2_with fail
  refine (l03Canon_any z3 _ _ (hG3.less (Nat.zero_le _))).mono ?_
  rintro e w4 ⟨z4, rfl, hR, hb4⟩
  go_wp2
  go_ret
  exact ⟨_, rfl, hR.less hb1.size, hb1.trans (hb4.mono hb1.size)⟩

/-- Two regions do not touch. -/
theorem touch_no {a b : List Rc} : (canon (tabG 8 (cellsG a) (cellsG b))).length = 0 ↔ touchB a b = false := by
  rw [List.length_eq_zero_iff, canon_nil_iff]
  constructor
  · intro h
    exact meet_no h
  · intro h i hi
    apply Classical.byContradiction
    intro hc
    have hc' : tabG 8 (cellsG a) (cellsG b) i = true := by simpa using hc
    rw [tab8] at hc'
    unfold interG at hc'
    rw [Bool.and_eq_true] at hc'
    have := meet_yes hi hc'.1 hc'.2
    unfold touchB at h
    rw [h] at this
    cases this

set_option maxHeartbeats 1600000 in
set_option maxRecDepth 100000 in
theorem before_any (k l : Int) (v u : Value) (a b : List Rc) (w : World) (hv : RL w 0 v a) (hu : RL w 0 u b) (ha : okAll a = true) (hb : okAll b = true) (hna : a ≠ []) (hnb : b ≠ []) :
    Calls Tryz.prog 23 #[.agg #[.int .i64 k, v], .agg #[.int .i64 l, u]] w fun e w' => e = .returned (.bool (befV (k, a) (l, b))) ∧ Below w.heap.size w w' := by
  obtain ⟨A, c, rfl, hc, hm, -⟩ := hv.form
  obtain ⟨A2, c2, rfl, hc2, hm2, -⟩ := hu.form
  unfold maxLen at hm hm2
  have ha0 : 0 < a.length := List.length_pos_iff.2 hna
  have hb0 : 0 < b.length := List.length_pos_iff.2 hnb
  have e1 : (w.alloc (.cells #[.int .i64 k, .slice A a.length c] 39)).heap.size = w.heap.size + 1 := by simp
  have x0 := (Bk.new w 39 #[.int .i64 k, .slice A a.length c]).alloc (.cells #[.int .i64 l, .slice A2 b.length c2] 39)
  have y0 := Bk.new (w.alloc (.cells #[.int .i64 k, .slice A a.length c] 39)) 39 #[.int .i64 l, .slice A2 b.length c2]
  rw [e1] at y0
  have hV := RL.alloc (RL.alloc hv (.cells #[.int .i64 k, .slice A a.length c] 39)) (.cells #[.int .i64 l, .slice A2 b.length c2] 39)
  have hU := RL.alloc (RL.alloc hu (.cells #[.int .i64 k, .slice A a.length c] 39)) (.cells #[.int .i64 l, .slice A2 b.length c2] 39)
  have hB := ((Below.refl w.heap.size w).alloc (Nat.le_refl _) (.cells #[.int .i64 k, .slice A a.length c] 39)).alloc (by simp) (.cells #[.int .i64 l, .slice A2 b.length c2] 39)
  obtain ⟨g, ax0, ay0, ax1, ay1, rfl, hra, hg, f0, f1, f2, f3⟩ := hV.elem ha0
  obtain ⟨h, bx0, by0, bx1, by1, rfl, hrb, hh, d0, d1, d2, d3⟩ := hU.elem hb0
  have Ha := Lib.hid (headD_get hra)
  have Hb := Lib.hid (headD_get hrb)
  have Hoa := Lib.hid ha
  have Hob := Lib.hid hb
  clear hv hu e1 ha hb hna hnb
  by_cases hkl : k = l
  · subst hkl
    have hkk : (k != k) = false := by simp
    have Hbef := Lib.hid (befV_eq (a := (k, a)) (b := (k, b)) rfl)
    have HRa := Lib.hid hra
    have HRb := Lib.hid hrb
    have tc := hB.drew
    have xx := x0.drew
    have yy := y0.drew
    have vv := RL.on hV (Below.refl _ _).drew
    have uu := RL.on hU (Below.refl _ _).drew
    obtain ⟨m0, m1⟩ := box2 x0
    obtain ⟨n0, n1⟩ := box2 y0
    clear x0 y0 hV hU hB hra hrb
    cases hL : lessR ⟨ax0, ay0, ax1, ay1⟩ ⟨bx0, by0, bx1, by1⟩ with
    | true =>
      have e0 : befV (k, a) (k, b) = !touchB a b := by rw [Hbef.out]; dsimp only; rw [Ha.out, Hb.out, hL, Bool.true_and]
      rw [e0]
      clear e0 Hbef
      have HL := Lib.hid hL
      clear hL
      go_enter Tryz.func23, Tryz.ntmps23
      go_wp2
      clear m0 m1 n0 n1 f0 f1 f2 f3 d0 d1 d2 d3
      go_region_held3 (fun w' => w'.cell? ⟨w.heap.size, 1, none⟩ = some (.slice (some ⟨g, 0, none⟩) a.length c) ∧ w'.cell? ⟨w.heap.size + 1, 1, none⟩ = some (.slice (some ⟨h, 0, none⟩) b.length c2) ∧ (w'.cell? ⟨g, 0, none⟩ = some (.int .i64 ax0) ∧ w'.cell? ⟨g, 1, none⟩ = some (.int .i64 ay0) ∧ w'.cell? ⟨g, 2, none⟩ = some (.int .i64 ax1) ∧ w'.cell? ⟨g, 3, none⟩ = some (.int .i64 ay1)) ∧ (w'.cell? ⟨h, 0, none⟩ = some (.int .i64 bx0) ∧ w'.cell? ⟨h, 1, none⟩ = some (.int .i64 by0) ∧ w'.cell? ⟨h, 2, none⟩ = some (.int .i64 bx1) ∧ w'.cell? ⟨h, 3, none⟩ = some (.int .i64 by1))) (exact ⟨(box2 xx).2, (box2 yy).2, vv.head4 HRa.out, uu.head4 HRb.out⟩)
        (first | (go_at_call 35; refine (less_any ⟨ax0, ay0, ax1, ay1⟩ ⟨bx0, by0, bx1, by1⟩ _).mono ?_; rintro e w6 ⟨rfl, hb6⟩; rw [HL.out]; have tc := tc.trans (hb6.mono tc.size); have xx := xx.on hb6; have yy := yy.on hb6; have vv := RL.on vv hb6; have uu := RL.on uu hb6)
               | (go_at_call 36; refine (op_any _ _ a b 8 (.inr rfl) _ vv uu Hoa.out Hob.out).mono ?_; rintro e w7 ⟨z, rfl, hR, hb7⟩; obtain ⟨A9, c9, rfl, -, -, -⟩ := hR.form; have tc := tc.trans (hb7.mono tc.size); have xx := xx.on hb7; have yy := yy.on hb7; have vv := RL.on vv hb7; have uu := RL.on uu hb7))
      go_wp2
      go_ret
      refine ⟨ret_bool ?_, tc⟩
      have ht := touch_no (a := a) (b := b)
      cases h9 : touchB a b with
      | false => rw [ht.2 h9]; rfl
      | true =>
        rw [h9] at ht
        simp only [Bool.not_true, beq_eq_false_iff_ne, ne_eq]
        intro hc
        have := ht.1 (by omega)
        cases this
    | false => 
      have e0 : befV (k, a) (k, b) = false := by rw [Hbef.out]; dsimp only; rw [Ha.out, Hb.out, hL, Bool.false_and]
      rw [e0]
      clear e0 Hbef
      have HL := Lib.hid hL
      clear hL
      go_enter Tryz.func23, Tryz.ntmps23
      go_wp2
      clear m0 m1 n0 n1 f0 f1 f2 f3 d0 d1 d2 d3
      refine wp_region_held_drew (S := (fun w' => w'.cell? ⟨w.heap.size, 1, none⟩ = some (.slice (some ⟨g, 0, none⟩) a.length c) ∧ w'.cell? ⟨w.heap.size + 1, 1, none⟩ = some (.slice (some ⟨h, 0, none⟩) b.length c2) ∧ (w'.cell? ⟨g, 0, none⟩ = some (.int .i64 ax0) ∧ w'.cell? ⟨g, 1, none⟩ = some (.int .i64 ay0) ∧ w'.cell? ⟨g, 2, none⟩ = some (.int .i64 ax1) ∧ w'.cell? ⟨g, 3, none⟩ = some (.int .i64 ay1)) ∧ (w'.cell? ⟨h, 0, none⟩ = some (.int .i64 bx0) ∧ w'.cell? ⟨h, 1, none⟩ = some (.int .i64 by0) ∧ w'.cell? ⟨h, 2, none⟩ = some (.int .i64 bx1) ∧ w'.cell? ⟨h, 3, none⟩ = some (.int .i64 by1)))) (by kernel_rfl) ⟨(box2 xx).2, (box2 yy).2, vv.head4 HRa.out, uu.head4 HRb.out⟩ (fun _ => ?_)
      refine wpAnyH_take (i := 0) (oi := ⟨_, _, _, _, _, _⟩) (v := .pointer (some ⟨w.heap.size, 1, none⟩)) rfl (by kernel_rfl) (by kernel_rfl) (by kernel_rfl) (fun _ _ _ h => h) (Or.inl ⟨by rfl, fun _ hS => by obtain ⟨s1, s2, ⟨s3, s4, s5, s6⟩, s7, s8, s9, s10⟩ := hS; go_simp⟩) ⟨(box2 xx).2, (box2 yy).2, vv.head4 HRa.out, uu.head4 HRb.out⟩ ?_
      try simp only [Act.put, List.setIfInBounds_toArray, List.set_cons_succ, List.set_cons_zero]
      refine wpAnyH_take (i := 1) (oi := ⟨_, _, _, _, _, _⟩) (v := .slice (some ⟨g, 0, none⟩) a.length c) rfl (by kernel_rfl) (by kernel_rfl) (by kernel_rfl) (fun _ _ _ h => h) (Or.inl ⟨by rfl, fun _ hS => by obtain ⟨s1, s2, ⟨s3, s4, s5, s6⟩, s7, s8, s9, s10⟩ := hS; go_simp⟩) ⟨(box2 xx).2, (box2 yy).2, vv.head4 HRa.out, uu.head4 HRb.out⟩ ?_
      try simp only [Act.put, List.setIfInBounds_toArray, List.set_cons_succ, List.set_cons_zero]
      refine wpAnyH_take (i := 2) (oi := ⟨_, _, _, _, _, _⟩) (v := .pointer (some ⟨g, 0, none⟩)) rfl (by kernel_rfl) (by kernel_rfl) (by kernel_rfl) (fun _ _ _ h => h) (Or.inl ⟨by rfl, fun _ hS => by obtain ⟨s1, s2, ⟨s3, s4, s5, s6⟩, s7, s8, s9, s10⟩ := hS; go_simp⟩) ⟨(box2 xx).2, (box2 yy).2, vv.head4 HRa.out, uu.head4 HRb.out⟩ ?_
      try simp only [Act.put, List.setIfInBounds_toArray, List.set_cons_succ, List.set_cons_zero]
      refine wpAnyH_take (i := 3) (oi := ⟨_, _, _, _, _, _⟩) (v := .agg #[.int .i64 ax0, .int .i64 ay0, .int .i64 ax1, .int .i64 ay1]) rfl (by kernel_rfl) (by kernel_rfl) (by kernel_rfl) (fun _ _ _ h => h) (Or.inl ⟨by rfl, fun _ hS => by obtain ⟨s1, s2, ⟨s3, s4, s5, s6⟩, s7, s8, s9, s10⟩ := hS; go_simp⟩) ⟨(box2 xx).2, (box2 yy).2, vv.head4 HRa.out, uu.head4 HRb.out⟩ ?_
      try simp only [Act.put, List.setIfInBounds_toArray, List.set_cons_succ, List.set_cons_zero]
      refine wpAnyH_take (i := 4) (oi := ⟨_, _, _, _, _, _⟩) (v := .pointer (some ⟨w.heap.size + 1, 1, none⟩)) rfl (by kernel_rfl) (by kernel_rfl) (by kernel_rfl) (fun _ _ _ h => h) (Or.inl ⟨by rfl, fun _ hS => by obtain ⟨s1, s2, ⟨s3, s4, s5, s6⟩, s7, s8, s9, s10⟩ := hS; go_simp⟩) ⟨(box2 xx).2, (box2 yy).2, vv.head4 HRa.out, uu.head4 HRb.out⟩ ?_
      try simp only [Act.put, List.setIfInBounds_toArray, List.set_cons_succ, List.set_cons_zero]
      refine wpAnyH_take (i := 5) (oi := ⟨_, _, _, _, _, _⟩) (v := .slice (some ⟨h, 0, none⟩) b.length c2) rfl (by kernel_rfl) (by kernel_rfl) (by kernel_rfl) (fun _ _ _ h => h) (Or.inl ⟨by rfl, fun _ hS => by obtain ⟨s1, s2, ⟨s3, s4, s5, s6⟩, s7, s8, s9, s10⟩ := hS; go_simp⟩) ⟨(box2 xx).2, (box2 yy).2, vv.head4 HRa.out, uu.head4 HRb.out⟩ ?_
      try simp only [Act.put, List.setIfInBounds_toArray, List.set_cons_succ, List.set_cons_zero]
      refine wpAnyH_take (i := 6) (oi := ⟨_, _, _, _, _, _⟩) (v := .pointer (some ⟨h, 0, none⟩)) rfl (by kernel_rfl) (by kernel_rfl) (by kernel_rfl) (fun _ _ _ h => h) (Or.inl ⟨by rfl, fun _ hS => by obtain ⟨s1, s2, ⟨s3, s4, s5, s6⟩, s7, s8, s9, s10⟩ := hS; go_simp⟩) ⟨(box2 xx).2, (box2 yy).2, vv.head4 HRa.out, uu.head4 HRb.out⟩ ?_
      try simp only [Act.put, List.setIfInBounds_toArray, List.set_cons_succ, List.set_cons_zero]
      refine wpAnyH_take (i := 7) (oi := ⟨_, _, _, _, _, _⟩) (v := .agg #[.int .i64 bx0, .int .i64 by0, .int .i64 bx1, .int .i64 by1]) rfl (by kernel_rfl) (by kernel_rfl) (by kernel_rfl) (fun _ _ _ h => h) (Or.inl ⟨by rfl, fun _ hS => by obtain ⟨s1, s2, ⟨s3, s4, s5, s6⟩, s7, s8, s9, s10⟩ := hS; go_simp⟩) ⟨(box2 xx).2, (box2 yy).2, vv.head4 HRa.out, uu.head4 HRb.out⟩ ?_
      try simp only [Act.put, List.setIfInBounds_toArray, List.set_cons_succ, List.set_cons_zero]
      refine wpAnyH_ready (rs := [8]) (by kernel_rfl) (by simp) (AllReadyH.cons (o := ⟨_, _, _, _, _, _⟩) rfl (fun K hK => ?_) AllReadyH.nil)
      go_simp
      refine (less_any ⟨ax0, ay0, ax1, ay1⟩ ⟨bx0, by0, bx1, by1⟩ _).mono ?_
      rintro e w6 ⟨rfl, hb6⟩
      rw [HL.out]
      replace tc := tc.trans (hb6.mono tc.size)
      replace xx := xx.on hb6
      replace yy := yy.on hb6
      replace vv := RL.on vv hb6
      replace uu := RL.on uu hb6
      go_wp2_with fail
      refine hK.out _ _ ⟨(box2 xx).2, (box2 yy).2, vv.head4 HRa.out, uu.head4 HRb.out⟩ (fun _ => ?_)
      clear hK K
      try simp only [Act.put, List.setIfInBounds_toArray, List.set_cons_succ, List.set_cons_zero]
      refine wpAnyH_take (i := 9) (oi := ⟨_, _, _, _, _, _⟩) (v := .bool false) rfl (by kernel_rfl) (by kernel_rfl) (by kernel_rfl) (fun _ _ _ h => h) (Or.inl ⟨by rfl, fun _ _ => by go_simp⟩) ⟨(box2 xx).2, (box2 yy).2, vv.head4 HRa.out, uu.head4 HRb.out⟩ ?_
      try simp only [Act.put, List.setIfInBounds_toArray, List.set_cons_succ, List.set_cons_zero]
      refine wpAnyH_take (i := 10) (oi := ⟨_, _, _, _, _, _⟩) (v := undef) rfl (by kernel_rfl) (by kernel_rfl) (by kernel_rfl) (fun _ _ _ h => h) (Or.inr ⟨by rfl, rfl⟩) ⟨(box2 xx).2, (box2 yy).2, vv.head4 HRa.out, uu.head4 HRb.out⟩ ?_
      try simp only [Act.put, List.setIfInBounds_toArray, List.set_cons_succ, List.set_cons_zero]
      refine wpAnyH_take (i := 11) (oi := ⟨_, _, _, _, _, _⟩) (v := undef) rfl (by kernel_rfl) (by kernel_rfl) (by kernel_rfl) (fun _ _ _ h => h) (Or.inr ⟨by rfl, rfl⟩) ⟨(box2 xx).2, (box2 yy).2, vv.head4 HRa.out, uu.head4 HRb.out⟩ ?_
      try simp only [Act.put, List.setIfInBounds_toArray, List.set_cons_succ, List.set_cons_zero]
      refine wpAnyH_take (i := 12) (oi := ⟨_, _, _, _, _, _⟩) (v := undef) rfl (by kernel_rfl) (by kernel_rfl) (by kernel_rfl) (fun _ _ _ h => h) (Or.inr ⟨by rfl, rfl⟩) ⟨(box2 xx).2, (box2 yy).2, vv.head4 HRa.out, uu.head4 HRb.out⟩ ?_
      try simp only [Act.put, List.setIfInBounds_toArray, List.set_cons_succ, List.set_cons_zero]
      refine wpAnyH_take (i := 13) (oi := ⟨_, _, _, _, _, _⟩) (v := undef) rfl (by kernel_rfl) (by kernel_rfl) (by kernel_rfl) (fun _ _ _ h => h) (Or.inr ⟨by rfl, rfl⟩) ⟨(box2 xx).2, (box2 yy).2, vv.head4 HRa.out, uu.head4 HRb.out⟩ ?_
      try simp only [Act.put, List.setIfInBounds_toArray, List.set_cons_succ, List.set_cons_zero]
      refine wpAnyH_take (i := 14) (oi := ⟨_, _, _, _, _, _⟩) (v := undef) rfl (by kernel_rfl) (by kernel_rfl) (by kernel_rfl) (fun _ _ _ h => h) (Or.inr ⟨by rfl, rfl⟩) ⟨(box2 xx).2, (box2 yy).2, vv.head4 HRa.out, uu.head4 HRb.out⟩ ?_
      try simp only [Act.put, List.setIfInBounds_toArray, List.set_cons_succ, List.set_cons_zero]
      refine wpAnyH_take (i := 15) (oi := ⟨_, _, _, _, _, _⟩) (v := undef) rfl (by kernel_rfl) (by kernel_rfl) (by kernel_rfl) (fun _ _ _ h => h) (Or.inr ⟨by rfl, rfl⟩) ⟨(box2 xx).2, (box2 yy).2, vv.head4 HRa.out, uu.head4 HRb.out⟩ ?_
      try simp only [Act.put, List.setIfInBounds_toArray, List.set_cons_succ, List.set_cons_zero]
      refine wpAnyH_take (i := 16) (oi := ⟨_, _, _, _, _, _⟩) (v := undef) rfl (by kernel_rfl) (by kernel_rfl) (by kernel_rfl) (fun _ _ _ h => h) (Or.inr ⟨by rfl, rfl⟩) ⟨(box2 xx).2, (box2 yy).2, vv.head4 HRa.out, uu.head4 HRb.out⟩ ?_
      try simp only [Act.put, List.setIfInBounds_toArray, List.set_cons_succ, List.set_cons_zero]
      refine wpAnyH_take (i := 17) (oi := ⟨_, _, _, _, _, _⟩) (v := .bool false) rfl (by kernel_rfl) (by kernel_rfl) (by kernel_rfl) (fun _ _ _ h => h) (Or.inl ⟨by rfl, fun _ _ => by go_simp⟩) ⟨(box2 xx).2, (box2 yy).2, vv.head4 HRa.out, uu.head4 HRb.out⟩ ?_
      try simp only [Act.put, List.setIfInBounds_toArray, List.set_cons_succ, List.set_cons_zero]
      refine wpAnyH_take (i := 18) (oi := ⟨_, _, _, _, _, _⟩) (v := .bool false) rfl (by kernel_rfl) (by kernel_rfl) (by kernel_rfl) (fun _ _ _ h => h) (Or.inl ⟨by rfl, fun _ _ => by go_simp⟩) ⟨(box2 xx).2, (box2 yy).2, vv.head4 HRa.out, uu.head4 HRb.out⟩ ?_
      try simp only [Act.put, List.setIfInBounds_toArray, List.set_cons_succ, List.set_cons_zero]
      refine wpAnyH_done (by kernel_rfl) ?_ _
      go_wp2
      go_ret
      exact ⟨rfl, tc⟩
  · have e0 : befV (k, a) (l, b) = decide (k < l) := befV_ne hkl
    rw [e0]
    clear e0
    obtain ⟨m0, m1⟩ := box2 x0
    obtain ⟨n0, n1⟩ := box2 y0
    have hkn : (k != l) = true := by simpa using hkl
    clear f0 f1 f2 f3 d0 d1 d2 d3 x0 y0 hV hU hra hrb
    go_enter Tryz.func23, Tryz.ntmps23
    go_wp2
    go_ret
    exact ⟨rfl, hB⟩

end Go.Proofs.YtggcabfognmfgaaGreatDoor

namespace Go.Proofs.YtggcabfognmfgaaGreatDoor
open Go.RowKit

noncomputable def okV (q : Int × List Rc) : Bool := vioV q.1 q.2
theorem okV_ne {q : Int × List Rc} (h : okV q = true) : q.2 ≠ [] := conn_ne (vio_conn h)
theorem okV_ok {q : Int × List Rc} (h : okV q = true) : okAll q.2 = true := okAll_reg (conn_reg (vio_conn h))

set_option maxHeartbeats 1600000 in
set_option maxRecDepth 100000 in
theorem report_spec (v : Value) (us : List Value) (vs : List (Int × List Rc)) (w : World) (hv : XW w 0 v us vs) :
    Calls Tryz.prog 10 #[v] w fun e w' => e = .returned (.bool (repB okV vs)) ∧ Below w.heap.size w w' := by
  obtain ⟨A, c, rfl, hc, hm⟩ := hv.form
  unfold maxLen at hm
  by_cases hlen : 256 < vs.length
  · rw [repB_long hlen]
    have hd : (256 : Int) < (vs.length : Int) := by omega
    have hd2 : vs.length ≤ 9223372036854775807 := by omega
    clear hv
    go_enter Tryz.func10, Tryz.ntmps10
    go_wp2
    go_ret
    exact ⟨rfl, Below.refl _ _⟩
  · have hd : ¬ (256 : Int) < (vs.length : Int) := by omega
    have hd2 : vs.length ≤ 256 := by omega
    have Hg0 := Lib.hid (good_zero okV vs)
    have hb0 := Below.refl w.heap.size w
    go_enter Tryz.func10, Tryz.ntmps10
    go_wp2
    go_loopw [3] (fun iv wr => ∃ i : Nat, i ≤ vs.length ∧ iv = .int .i64 i ∧ Hid (GoodTo okV vs i) ∧ Below w.heap.size w wr) (fun iv _ => vs.length - (intOf iv).toNat)
    case atStart => exact ⟨0, Nat.zero_le _, rfl, Hg0, hb0⟩
    case round =>
      obtain ⟨i, hi, rfl, HG, hb⟩ := hrel
      clear hb0 Hg0
      by_cases hlt : i < vs.length
      · obtain ⟨q, hq⟩ : ∃ q, vs[i]? = some q := ⟨_, List.getElem?_eq_getElem hlt⟩
        obtain ⟨g, u, rfl, hu, -, hg, f0, f1, hR⟩ := (hv.on hb).elem hq
        obtain ⟨Au, cu, rfl, -, -, -⟩ := hR.form
        have Hq := Lib.hid hq
        have HV := Lib.hid hv
        have Hu := Lib.hid hu
        have hi9 : i < 9223372036854775807 := by omega
        clear hq hv hu
        cases hok : okV q with
        | false =>
          have Hbad := Lib.hid (repB_bad Hq.out hok)
          unfold okV at hok
          have Hok := Lib.hid hok
          clear hok
          go_wp2_with fail
          refine (vio_spec q.1 _ q.2 _ hR).mono ?_
          rintro e w2 ⟨rfl, hb2⟩
          rw [Hok.out]
          go_wp2
          go_ret
          exact ⟨ret_bool Hbad.out.symm, hb.trans (hb2.mono hb.size)⟩
        | true =>
          have Hok := Lib.hid hok
          have Hvq := Lib.hid (show vioV q.1 q.2 = true from hok)
          clear hok
          go_wp2_with fail
          refine (vio_spec q.1 _ q.2 _ hR).mono ?_
          rintro e w2 ⟨rfl, hb2⟩
          rw [Hvq.out]
          have b2 := hb.trans (hb2.mono hb.size)
          have Hk0 := Lib.hid (show ∀ (j : Nat) (d : Int × List Rc), j < 0 → vs[j]? = some d → befV d q = true from fun j d hj => absurd hj (by omega))
          clear hR f0 f1 hb hb2
          go_wp2
          go_loopw [4] (fun kv wr => ∃ k : Nat, k ≤ i ∧ kv = .int .i64 k ∧ Hid (∀ (j : Nat) (d : Int × List Rc), j < k → vs[j]? = some d → befV d q = true) ∧ Below w.heap.size w wr) (fun kv _ => i - (intOf kv).toNat)
          case atStart => exact ⟨0, Nat.zero_le _, rfl, Hk0, b2⟩
          case round =>
            obtain ⟨k, hk, rfl, HK, hb⟩ := hrel
            clear b2 Hk0
            by_cases hltk : k < i
            · obtain ⟨p, hp⟩ : ∃ p, vs[k]? = some p := ⟨_, List.getElem?_eq_getElem (by omega)⟩
              obtain ⟨g1, u1, hg1, hu1, -, -, e0, e1, hR1⟩ := (HV.out.on hb).elem hp
              obtain ⟨g2, u2, hg2, hu2, -, -, f0, f1, hR2⟩ := (HV.out.on hb).elem Hq.out
              cases hg1
              cases hg2
              obtain ⟨A1, c1, rfl, -, -, -⟩ := hR1.form
              obtain ⟨A2, c2, rfl, -, -, -⟩ := hR2.form
              have hpo := ((HG.out k p hltk hp).1)
              have r1 : RL wr.drew 0 (.slice A1 p.2.length c1) p.2 := hR1
              have r2 : RL wr.drew 0 (.slice A2 q.2.length c2) q.2 := hR2
              have tc := hb.drew
              have Hp := Lib.hid hp
              have Hn := Lib.hid (okV_ne hpo)
              have Hn2 := Lib.hid (okV_ne Hok.out)
              have Ho := Lib.hid (okV_ok hpo)
              have Ho2 := Lib.hid (okV_ok Hok.out)
              have hk9 : k < 9223372036854775807 := by omega
              have hkv : k < vs.length := by omega
              clear hp hu1 hu2 hpo hR1 hR2
              cases hbf : befV p q with
              | true =>
                have HK2 := Lib.hid (show ∀ (j : Nat) (d : Int × List Rc), j < k + 1 → vs[j]? = some d → befV d q = true from fun j d hj hd => by
                  by_cases e : j = k
                  · subst e
                    rw [Hp.out] at hd
                    cases hd
                    exact hbf
                  · exact HK.out j d (by omega) hd)
                have Hbf := Lib.hid (show befV (p.1, p.2) (q.1, q.2) = true from hbf)
                clear hbf HK
                go_wp2
                go_still_tail 8, (by kernel_rfl)
                change wpList _ _ _ _ _ wr.drew
                clear e0 e1 f0 f1 hb
                generalize wr.drew = w3 at *
                go_wp2_with fail
                refine (before_any p.1 q.1 _ _ p.2 q.2 _ r1 r2 Ho.out Ho2.out Hn.out Hn2.out).mono ?_
                rintro e w4 ⟨rfl, hb4⟩
                rw [Hbf.out]
                go_wp2
                exact ⟨⟨k + 1, by omega, by go_num, HK2, tc.trans (hb4.mono tc.size)⟩, by simp [intOf]; omega⟩
              | false =>
                have Hbad := Lib.hid (repB_bef (ok := okV) Hq.out Hp.out hltk hbf)
                have Hbf := Lib.hid (show befV (p.1, p.2) (q.1, q.2) = false from hbf)
                clear hbf HK
                go_wp2
                go_still_tail 8, (by kernel_rfl)
                change wpList _ _ _ _ _ wr.drew
                clear e0 e1 f0 f1 hb
                generalize wr.drew = w3 at *
                go_wp2_with fail
                refine (before_any p.1 q.1 _ _ p.2 q.2 _ r1 r2 Ho.out Ho2.out Hn.out Hn2.out).mono ?_
                rintro e w4 ⟨rfl, hb4⟩
                rw [Hbf.out]
                go_wp2
                go_ret
                exact ⟨ret_bool Hbad.out.symm, tc.trans (hb4.mono tc.size)⟩
            · have hke : k = i := by omega
              subst hke
              have HG2 := Lib.hid (good_step HG.out Hq.out Hok.out HK.out)
              go_wp2
              exact ⟨⟨k + 1, by omega, by go_num, HG2, hb⟩, by simp [intOf]; omega⟩
      · have hie : i = vs.length := by omega
        subst hie
        have Hy := Lib.hid (repB_yes hd2 HG.out)
        go_wp2
        go_ret
        exact ⟨ret_bool Hy.out.symm, hb⟩

end Go.Proofs.YtggcabfognmfgaaGreatDoor

namespace Go.Proofs.YtggcabfognmfgaaGreatDoor
open Go.RowKit

theorem below_grow {B : Nat} {a w : World} (h : Below B a w) (hB : B ≤ w.heap.size) (os : Array Obj) : Below B a (Sort.grow w os) :=
  ⟨h.os, h.tape, h.output, by simp [Sort.grow]; have := h.size; omega, fun k hk => by
    have e : (Sort.grow w os).heap[k]? = w.heap[k]? := by simp only [Sort.grow]; rw [Array.getElem?_append_left (by omega)]
    exact e.trans (h.block k hk)⟩
theorem cmp_less (a b : Rc) : decide (0 ≤ cmpR a b) = !lessR a b := by
  rw [Bool.eq_iff_iff]
  unfold cmpR lessR cmpI nz
  simp only [decide_eq_true_eq, Bool.not_eq_true', decide_eq_false_iff_not]
  repeat' split
  all_goals omega
theorem touch_meet {a b : List Rc} (ha : okAll a = true) (hb : okAll b = true) : meetL a b = touchB a b := meetL_G ha hb

theorem cmp_below (a b : Rc) (w : World) : Calls Tryz.prog 27 #[a.val, b.val] w fun e w' => e = .returned (.int .i64 (cmpR a b)) ∧ Below w.heap.size w w' := by
  refine (compareRects_any a b w).mono ?_
  rintro e w1 ⟨rfl, q, os, rfl⟩
  exact ⟨rfl, below_grow (below_drewN (Below.refl _ _) q) (Nat.le_refl _) os⟩
theorem head_get {rs : List Rc} (h : rs ≠ []) : ∃ x0 y0 x1 y1, rs[0]? = some (⟨x0, y0, x1, y1⟩ : Rc) := by
  match rs, h with
  | ⟨x0, y0, x1, y1⟩ :: l, _ => exact ⟨x0, y0, x1, y1, rfl⟩
theorem RL.head {w : World} {B n c : Nat} {A : Option Addr} {rs : List Rc} (h : RL w B (.slice A n c) rs) {x0 y0 x1 y1 : Int} (hr : rs[0]? = some ⟨x0, y0, x1, y1⟩) :
    ∃ g, A = some ⟨g, 0, none⟩ ∧ w.cell? ⟨g, 0, none⟩ = some (.int .i64 x0) ∧ w.cell? ⟨g, 1, none⟩ = some (.int .i64 y0) ∧ w.cell? ⟨g, 2, none⟩ = some (.int .i64 x1) ∧ w.cell? ⟨g, 3, none⟩ = some (.int .i64 y1) := by
  obtain ⟨g, a0, b0, a1, b1, rfl, hr', hg, f0, f1, f2, f3⟩ := h.elem (List.getElem?_eq_some_iff.1 hr).1
  exact ⟨g, rfl, h.head4 hr⟩

set_option maxHeartbeats 3200000 in
set_option maxRecDepth 100000 in
theorem report_impl (v : Value) (us : List Value) (vs : List (Int × List Rc)) (w : World) (hv : XW w 0 v us vs) :
    Calls Tryz.prog 16 #[v] w fun e w' => e = .returned (.bool (repB okV vs)) ∧ Below w.heap.size w w' := by
  obtain ⟨A, c, rfl, hc, hm⟩ := hv.form
  unfold maxLen at hm
  by_cases hlen : 256 < vs.length
  · rw [repB_long hlen]
    have hd : (256 : Int) < (vs.length : Int) := by omega
    have hd2 : vs.length ≤ 9223372036854775807 := by omega
    clear hv
    go_enter Tryz.func16, Tryz.ntmps16
    go_wp2
    go_ret
    exact ⟨rfl, Below.refl _ _⟩
  · have hd : ¬ (256 : Int) < (vs.length : Int) := by omega
    have hd2 : vs.length ≤ 256 := by omega
    have Hg0 := Lib.hid (good_zero okV vs)
    have hb0 := Below.refl w.heap.size w
    have HV := Lib.hid hv
    clear hv
    go_enter Tryz.func16, Tryz.ntmps16
    go_wp2
    go_loopw [11] (fun iv wr => ∃ i : Nat, i ≤ vs.length ∧ iv = .int .i64 i ∧ Hid (GoodTo okV vs i) ∧ Below w.heap.size w wr) (fun iv _ => vs.length - (intOf iv).toNat)
    case atStart => exact ⟨0, Nat.zero_le _, rfl, Hg0, hb0⟩
    case round =>
      obtain ⟨i, hi, rfl, HG, hb⟩ := hrel
      clear hb0 Hg0
      by_cases hlt : i < vs.length
      · obtain ⟨q, hq⟩ : ∃ q, vs[i]? = some q := ⟨_, List.getElem?_eq_getElem hlt⟩
        obtain ⟨g, u, rfl, -, -, hg, f0, f1, hR⟩ := (HV.out.on hb).elem hq
        obtain ⟨Au, cu, rfl, -, -, -⟩ := hR.form
        have Hq := Lib.hid hq
        have hi9 : i < 9223372036854775807 := by omega
        have z0 := Lib.hid (Bk.new wr 39 #[.int .i64 q.1, .slice Au q.2.length cu])
        have hR0 := Lib.hid (RL.alloc hR (.cells #[.int .i64 q.1, .slice Au q.2.length cu] 39))
        have B0 := Lib.hid (hb.alloc hb.size (.cells #[.int .i64 q.1, .slice Au q.2.length cu] 39))
        have hbs := Lib.hid hb.size
        clear hq hR hb
        cases hok : okV q with
        | false =>
          have Hbad := Lib.hid (repB_bad Hq.out hok)
          unfold okV at hok
          have Hok := Lib.hid hok
          clear hok
          go_wp2_with fail
          refine (vio_impl q.1 _ q.2 _ hR0.out).mono ?_
          rintro e w2 ⟨rfl, hb2⟩
          rw [Hok.out]
          go_wp2
          go_ret
          exact ⟨ret_bool Hbad.out.symm, B0.out.trans (hb2.mono B0.out.size)⟩
        | true =>
          have Hok := Lib.hid hok
          have Hvq := Lib.hid (show vioV q.1 q.2 = true from hok)
          clear hok
          go_wp2_with fail
          refine (vio_impl q.1 _ q.2 _ hR0.out).mono ?_
          rintro e w2 ⟨rfl, hb2⟩
          rw [Hvq.out]
          have b2 := Lib.hid (B0.out.trans (hb2.mono B0.out.size))
          have z2 := Lib.hid (z0.out.on hb2)
          have r2 := Lib.hid (RL.on hR0.out hb2)
          clear hR0 f0 f1 hb2 z0 B0
          obtain ⟨d0, d1⟩ := box2 z2.out
          by_cases hi0 : i = 0
          · subst hi0
            have HG2 := Lib.hid (good_step HG.out Hq.out Hok.out (fun k a hk => absurd hk (by omega)))
            go_wp2
            go_quiet (fail)
            go_wp2
            exact ⟨⟨0 + 1, by omega, by go_num, HG2, below_drewN b2.out nq⟩, by simp [intOf]; omega⟩
          · have hi1 : 1 ≤ i := by omega
            obtain ⟨p, hp⟩ : ∃ p, vs[i - 1]? = some p := ⟨_, List.getElem?_eq_getElem (by omega)⟩
            obtain ⟨g1, u1, hg1, -, -, -, e0, e1, hR1⟩ := (HV.out.on b2.out).elem hp
            cases hg1
            obtain ⟨A1, c1, rfl, -, -, -⟩ := hR1.form
            have hw1 := Go.IntWalk.i64_in ((i : Int) - 1) (by omega)
            have hw2 : ((i : Int) - 1).toNat = i - 1 := by omega
            have hw3 : (0 : Int) ≤ (i : Int) - 1 := by omega
            have hw4 : i - 1 < vs.length := by omega
            have hw5 : ((i : Int) == 0) = false := by simpa using hi0
            have hw6 : (i : Int) - 1 < (vs.length : Int) := by omega
            have hw7 : (1 : Int) ≤ (i : Int) := by omega
            have hw8 : (i : Int) ≤ (vs.length : Int) := by omega
            have hw9 : (i : Int) < (vs.length : Int) + 1 := by omega
            have Hp := Lib.hid hp
            clear hp
            by_cases hlt2 : p.1 < q.1
            · have HG2 := Lib.hid (good_less HG.out hi1 Hp.out Hq.out Hok.out hlt2)
              clear hR1
              go_wp2
              go_quiet (fail)
              go_wp2
              exact ⟨⟨i + 1, by omega, by go_num, HG2, below_drewN b2.out nq⟩, by simp [intOf]; omega⟩
            · have hlt3 : decide (p.1 < q.1) = false := decide_eq_false hlt2
              have Hpo := Lib.hid ((HG.out (i - 1) p (by omega) Hp.out).1)
              clear hR1
              by_cases hgt : q.1 < p.1
              · have Hbad := Lib.hid (repB_bef (ok := okV) Hq.out Hp.out (by omega) (bef_more hgt))
                have hgt2 : decide (q.1 < p.1) = true := decide_eq_true hgt
                go_wp2
                go_quiet (fail)
                go_wp2
                have b3 := below_drewN b2.out nq
                have z3 := z2.out.drewN nq
                clear e0 e1 d0 d1 b2 z2 r2
                generalize w2.drewN nq = w3 at *
                obtain ⟨g1, u1, hg1, -, -, -, e0, e1, hR1⟩ := (HV.out.on b3).elem Hp.out
                cases hg1
                obtain ⟨A1, c1, rfl, -, -, -⟩ := hR1.form
                obtain ⟨d0, d1⟩ := box2 z3
                clear hR1 z3
                have B3 := Lib.hid b3
                clear b3
                go_quiet (fail)
                go_wp2
                go_ret
                exact ⟨ret_bool Hbad.out.symm, below_drewN B3.out nq⟩
              · have heq : p.1 = q.1 := by omega
                have hgt2 : decide (q.1 < p.1) = false := decide_eq_false hgt
                obtain ⟨ax0, ay0, ax1, ay1, hpa⟩ := head_get (okV_ne Hpo.out)
                obtain ⟨bx0, by0, bx1, by1, hqa⟩ := head_get (okV_ne Hok.out)
                have Hpa := Lib.hid hpa
                have Hqa := Lib.hid hqa
                have Heq := Lib.hid heq
                clear hpa hqa heq
                go_wp2
                go_quiet (fail)
                go_wp2
                have b3 := below_drewN b2.out nq
                have z3 := z2.out.drewN nq
                have r3 : RL (w2.drewN nq) 0 (.slice Au q.2.length cu) q.2 := r2.out
                clear e0 e1 d0 d1 b2 z2 r2
                generalize w2.drewN nq = w3 at *
                obtain ⟨g1, u1, hg1, -, -, -, e0, e1, hR1⟩ := (HV.out.on b3).elem Hp.out
                cases hg1
                obtain ⟨A1, c1, rfl, -, -, -⟩ := hR1.form
                obtain ⟨d0, d1⟩ := box2 z3
                have hpl : 0 < p.2.length := (List.getElem?_eq_some_iff.1 Hpa.out).1
                have hql : 0 < q.2.length := (List.getElem?_eq_some_iff.1 Hqa.out).1
                obtain ⟨ga, rfl, m0, m1, m2, m3⟩ := hR1.head Hpa.out
                obtain ⟨gb, rfl, n0, n1, n2, n3⟩ := r3.head Hqa.out
                have tc := b3.drew
                have zz := z3.drew
                have rr : RL w3.drew 0 _ q.2 := r3
                have hgl : g < w3.drew.heap.size := World.block_lt_of_cell? _ _ e0
                have hal : ga < w3.drew.heap.size := World.block_lt_of_cell? _ _ m0
                have hbl : gb < w3.drew.heap.size := World.block_lt_of_cell? _ _ n0
                have hzl : wr.heap.size < w3.drew.heap.size := World.block_lt_of_cell? _ _ d0
                have Keep := Lib.hid (show ∀ wq, Below w3.drew.heap.size w3.drew wq → (wq.cell? ⟨g, (i - 1) * 2, none⟩ = some (.int .i64 p.1) ∧ wq.cell? ⟨g, (i - 1) * 2 + 1, none⟩ = some (.slice (some ⟨ga, 0, none⟩) p.2.length c1)) ∧ (wq.cell? ⟨wr.heap.size, 0, none⟩ = some (.int .i64 q.1) ∧ wq.cell? ⟨wr.heap.size, 1, none⟩ = some (.slice (some ⟨gb, 0, none⟩) q.2.length cu)) ∧ (wq.cell? ⟨ga, 0, none⟩ = some (.int .i64 ax0) ∧ wq.cell? ⟨ga, 1, none⟩ = some (.int .i64 ay0) ∧ wq.cell? ⟨ga, 2, none⟩ = some (.int .i64 ax1) ∧ wq.cell? ⟨ga, 3, none⟩ = some (.int .i64 ay1)) ∧ (wq.cell? ⟨gb, 0, none⟩ = some (.int .i64 bx0) ∧ wq.cell? ⟨gb, 1, none⟩ = some (.int .i64 by0) ∧ wq.cell? ⟨gb, 2, none⟩ = some (.int .i64 bx1) ∧ wq.cell? ⟨gb, 3, none⟩ = some (.int .i64 by1)) from fun wq hq =>
                  ⟨⟨(hq.cell (p := ⟨g, _, none⟩) hgl).trans e0, (hq.cell (p := ⟨g, _, none⟩) hgl).trans e1⟩, ⟨(hq.cell (p := ⟨wr.heap.size, _, none⟩) hzl).trans d0, (hq.cell (p := ⟨wr.heap.size, _, none⟩) hzl).trans d1⟩,
                    ⟨(hq.cell (p := ⟨ga, _, none⟩) hal).trans m0, (hq.cell (p := ⟨ga, _, none⟩) hal).trans m1, (hq.cell (p := ⟨ga, _, none⟩) hal).trans m2, (hq.cell (p := ⟨ga, _, none⟩) hal).trans m3⟩,
                    ⟨(hq.cell (p := ⟨gb, _, none⟩) hbl).trans n0, (hq.cell (p := ⟨gb, _, none⟩) hbl).trans n1, (hq.cell (p := ⟨gb, _, none⟩) hbl).trans n2, (hq.cell (p := ⟨gb, _, none⟩) hbl).trans n3⟩⟩)
                clear hR1 z3 b3 r3 hgl hal hbl hzl
                go_region_held3 (fun w' => (w'.cell? ⟨g, (i - 1) * 2, none⟩ = some (.int .i64 p.1) ∧ w'.cell? ⟨g, (i - 1) * 2 + 1, none⟩ = some (.slice (some ⟨ga, 0, none⟩) p.2.length c1)) ∧ (w'.cell? ⟨wr.heap.size, 0, none⟩ = some (.int .i64 q.1) ∧ w'.cell? ⟨wr.heap.size, 1, none⟩ = some (.slice (some ⟨gb, 0, none⟩) q.2.length cu)) ∧ (w'.cell? ⟨ga, 0, none⟩ = some (.int .i64 ax0) ∧ w'.cell? ⟨ga, 1, none⟩ = some (.int .i64 ay0) ∧ w'.cell? ⟨ga, 2, none⟩ = some (.int .i64 ax1) ∧ w'.cell? ⟨ga, 3, none⟩ = some (.int .i64 ay1)) ∧ (w'.cell? ⟨gb, 0, none⟩ = some (.int .i64 bx0) ∧ w'.cell? ⟨gb, 1, none⟩ = some (.int .i64 by0) ∧ w'.cell? ⟨gb, 2, none⟩ = some (.int .i64 bx1) ∧ w'.cell? ⟨gb, 3, none⟩ = some (.int .i64 by1))) (first | exact ⟨⟨e0, e1⟩, ⟨d0, d1⟩, ⟨m0, m1, m2, m3⟩, ⟨n0, n1, n2, n3⟩⟩ | exact Keep.out _ hb6)
                  ((go_at_call 27; refine (cmp_below ⟨ax0, ay0, ax1, ay1⟩ ⟨bx0, by0, bx1, by1⟩ _).mono ?_; rintro e w6 ⟨rfl, hb6⟩; have tc := tc.trans (hb6.mono tc.size); have zz := zz.on hb6; have rr := RL.on rr hb6))
                have Hinv0 := Lib.hid (show ∀ (k : Nat) (d : Int × List Rc), (i : Int) - 1 < (k : Int) → k < i → vs[k]? = some d → d.1 = q.1 → touchB d.2 q.2 = false from fun k d h1 h2 => by omega)
                cases hls : lessR ⟨ax0, ay0, ax1, ay1⟩ ⟨bx0, by0, bx1, by1⟩ with
                | false =>
                  have hcm : (0 : Int) ≤ cmpR ⟨ax0, ay0, ax1, ay1⟩ ⟨bx0, by0, bx1, by1⟩ := of_decide_eq_true ((cmp_less _ _).trans (by rw [hls]; rfl))
                  have Hbad := Lib.hid (repB_bef (ok := okV) Hq.out Hp.out (by omega) (bef_less_no Heq.out (by rw [headD_get Hpa.out, headD_get Hqa.out]; exact hls)))
                  go_wp2
                  go_ret
                  exact ⟨ret_bool Hbad.out.symm, tc⟩
                | true =>
                  have hcm : ¬ (0 : Int) ≤ cmpR ⟨ax0, ay0, ax1, ay1⟩ ⟨bx0, by0, bx1, by1⟩ := of_decide_eq_false ((cmp_less _ _).trans (by rw [hls]; rfl))
                  have Hls := Lib.hid (show lessR (p.2.headD ⟨0, 0, 0, 0⟩) (q.2.headD ⟨0, 0, 0, 0⟩) = true by rw [headD_get Hpa.out, headD_get Hqa.out]; exact hls)
                  clear hls e0 e1 d0 d1 m0 m1 m2 m3 n0 n1 n2 n3 Keep
                  have hi63 : (i : Int) ≤ 256 := by omega
                  go_wp2
                  clear hcm
                  go_loopw [5] (fun kv wy => ∃ m : Int, -1 ≤ m ∧ m < (i : Int) ∧ kv = .int .i64 m ∧ Hid (∀ (k : Nat) (d : Int × List Rc), m < (k : Int) → k < i → vs[k]? = some d → d.1 = q.1 → touchB d.2 q.2 = false) ∧ Bk wy wr.heap.size 39 #[.int .i64 q.1, .slice (some ⟨gb, 0, none⟩) q.2.length cu] ∧ RL wy 0 (.slice (some ⟨gb, 0, none⟩) q.2.length cu) q.2 ∧ Below w.heap.size w wy) (fun kv _ => (intOf kv + 1).toNat)
                  case atStart => exact ⟨(i : Int) - 1, by omega, by omega, rfl, Hinv0, zz, rr, tc⟩
                  case round =>
                    obtain ⟨m, hm1, hm2, rfl, HI, hZ, hQ, hb⟩ := hrel
                    clear zz rr tc Hinv0
                    by_cases hm0 : m = -1
                    · subst hm0
                      have HG2 := Lib.hid (good_same HG.out hi1 Hp.out Hq.out Hok.out Heq.out Hls.out HI.out (.inl (by omega)))
                      go_wp2
                      go_quiet (fail)
                      go_wp2
                      exact ⟨⟨i + 1, by omega, by go_num, HG2, below_drewN hb nq⟩, by simp [intOf]; omega⟩
                    · obtain ⟨j, rfl⟩ : ∃ j : Nat, m = (j : Int) := ⟨m.toNat, by omega⟩
                      have hji : j < i := by omega
                      obtain ⟨d, hd⟩ : ∃ d, vs[j]? = some d := ⟨_, List.getElem?_eq_getElem (by omega)⟩
                      obtain ⟨g1, u1, hg1, -, -, -, e0, e1, hR1⟩ := (HV.out.on hb).elem hd
                      cases hg1
                      obtain ⟨A1, c1, rfl, -, -, -⟩ := hR1.form
                      obtain ⟨d0, d1⟩ := box2 hZ
                      have hj9 : (0 : Int) ≤ (j : Int) ∧ (j : Int) < (vs.length : Int) := by omega
                      have hjv : j < vs.length := by omega
                      have hwj := Go.IntWalk.i64_in ((j : Int) - 1) (by omega)
                      have Hd := Lib.hid hd
                      have Hdo := Lib.hid ((HG.out j d hji hd).1)
                      clear hd hm0
                      by_cases hdq : d.1 = q.1
                      · have hbb : (d.1 == q.1) = true := by simpa using hdq
                        have Hdq := Lib.hid hdq
                        clear hdq hR1
                        have Hmt := Lib.hid (touch_meet (okV_ok Hdo.out) (okV_ok Hok.out))
                        go_wp2
                        go_quiet (fail)
                        go_wp2
                        have b4 := below_drewN hb nq
                        have z4 := hZ.drewN nq
                        have r4 : RL (wr.drewN nq) 0 _ q.2 := hQ
                        clear e0 e1 d0 d1 hb hZ hQ
                        generalize wr.drewN nq = wz at *
                        obtain ⟨g1, u1, hg1, -, -, -, e0, e1, hR1⟩ := (HV.out.on b4).elem Hd.out
                        cases hg1
                        obtain ⟨A1, c1, rfl, -, -, -⟩ := hR1.form
                        obtain ⟨d0, d1⟩ := box2 z4
                        have R1 : RL wz.drew 0 _ d.2 := hR1
                        have R4 : RL wz.drew 0 _ q.2 := r4
                        have Z4 := z4.drew
                        have B4 := b4.drew
                        clear hR1 r4 z4 b4
                        go_still_tail 7, (by kernel_rfl)
                        change wpList _ _ _ _ _ wz.drew
                        clear e0 e1 d0 d1
                        generalize wz.drew = w8 at *
                        go_wp2_with fail
                        refine (meet_any _ _ d.2 q.2 _ R1 R4 (okV_ok Hdo.out) (okV_ok Hok.out)).mono ?_
                        rintro e w9 ⟨rfl, hb9⟩
                        rw [Hmt.out]
                        have b9 := B4.trans (hb9.mono B4.size)
                        cases ht : touchB d.2 q.2 with
                        | true =>
                          have Hbad := Lib.hid (repB_bef (ok := okV) Hq.out Hd.out hji (bef_touch Hdq.out ht))
                          clear ht
                          go_wp2
                          go_ret
                          exact ⟨ret_bool Hbad.out.symm, b9⟩
                        | false =>
                          have HI2 := Lib.hid (show ∀ (k : Nat) (d : Int × List Rc), (j : Int) - 1 < (k : Int) → k < i → vs[k]? = some d → d.1 = q.1 → touchB d.2 q.2 = false from fun k d' h1 h2 h3 h4 => by
                            by_cases e : k = j
                            · subst e
                              rw [Hd.out] at h3
                              cases h3
                              exact ht
                            · exact HI.out k d' (by omega) h2 h3 h4)
                          clear ht
                          go_wp2
                          exact ⟨⟨(j : Int) - 1, by omega, by omega, by go_num, HI2, Z4.on hb9, RL.on R4 hb9, b9⟩, by simp [intOf]⟩
                      · have hbb : (d.1 == q.1) = false := by simpa using hdq
                        have HG2 := Lib.hid (good_same HG.out hi1 Hp.out Hq.out Hok.out Heq.out Hls.out HI.out (.inr ⟨j, d, rfl, hji, Hd.out, hdq⟩))
                        clear hR1
                        go_wp2
                        go_quiet (fail)
                        go_wp2
                        exact ⟨⟨i + 1, by omega, by go_num, HG2, below_drewN hb nq⟩, by simp [intOf]; omega⟩
      · have hie : i = vs.length := by omega
        subst hie
        have Hy := Lib.hid (repB_yes hd2 HG.out)
        go_wp2
        go_ret
        exact ⟨ret_bool Hy.out.symm, hb⟩

end Go.Proofs.YtggcabfognmfgaaGreatDoor
