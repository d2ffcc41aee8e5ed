/- Contracts: which cells and libraries are valid: the program's functions and the reference's. Conditions: lists in memory; names no longer than a string may be. -/
import Derived.Test.YtgegbgkokkdmpaaGreatQ16
import Derived.Test.YtgegbgkokkdmpaaGreatQ11
import Derived.StillTailTactics

namespace Go.Proofs.YtgegbgkokkdmpaaGreat
open Go.RowKit

def badS (xs : List ShapeD) : Bool := xs.any fun x => !(shapeB x)
def badL (xs : List LabelD) : Bool := xs.any fun x => !(labelB x)
def badI (xs : List InstD) (k : Int) : Bool := xs.any fun x => !(instB x k)
def cellB (c : CellD) (k : Int) : Bool := nameB c.name && decide ((c.shapes.length : Int) ≤ 24) && decide ((c.labels.length : Int) ≤ 8) && decide ((c.insts.length : Int) ≤ 8) && !(badS c.shapes) && !(badL c.labels) && !(badI c.insts k)
/-- What is asked of a cell's names. -/
def NmOk (c : CellD) : Prop := c.name.size ≤ maxLen ∧ ∀ l ∈ c.labels, l.name.size ≤ maxLen
theorem hasS_any (v : Value) (xs : List ShapeD) (w : World) (hv : ShL w 0 v xs) : Calls Tryz.prog 90 #[v, .func (.func 91) #[] #[]] w fun e w' => e = .returned (.bool (badS xs)) ∧ Below w.heap.size w w' := hasShape_any v xs w hv
theorem hasL_any (v : Value) (xs : List LabelD) (w : World) (hv : LaL w 0 v xs) (hN : ∀ x ∈ xs, x.name.size ≤ maxLen) : Calls Tryz.prog 93 #[v, .func (.func 94) #[] #[]] w fun e w' => e = .returned (.bool (badL xs)) ∧ Below w.heap.size w w' := hasLabel_any v xs w hv hN
theorem hasI_any (v : Value) (xs : List InstD) (w : World) (hv : InL w 0 v xs) (k : Int) (kb : Nat) (hk : 0 ≤ k ∧ k ≤ 1000) (hc : w.cell? ⟨kb, 0, none⟩ = some (.int .i64 k)) (hkb : kb < w.heap.size) : Calls Tryz.prog 96 #[v, .func (.func 97) #[] #[.pointer (some ⟨kb, 0, none⟩)]] w fun e w' => e = .returned (.bool (badI xs k)) ∧ Below w.heap.size w w' := hasInstance_any v xs w hv k kb hk hc hkb


set_option maxHeartbeats 3200000 in
set_option maxRecDepth 100000 in
theorem cell_impl (c : CellD) (u : Sl3) (k : Int) (w : World) (hu : C3 w 0 u c) (hk : 0 ≤ k ∧ k ≤ 1000) (hN : NmOk c) :
    Calls Tryz.prog 84 #[.agg #[.string c.name, u.s, u.l, u.i], .int .i64 k] w fun e w' => e = .returned (.bool (cellB c k)) ∧ Below w.heap.size w w' := by
  obtain ⟨us, ul, ui⟩ := u
  obtain ⟨P1, k1, rfl, -, m1⟩ := hu.s.form
  obtain ⟨P2, k2, rfl, -, m2⟩ := hu.l.form
  obtain ⟨P3, k3, rfl, -, m3⟩ := hu.i.form
  dsimp only
  obtain ⟨hn, hl⟩ := hN
  have HN := Lib.hid hl
  have HU := Lib.hid hu
  clear hl hu
  have b0 := ((Below.refl w.heap.size w).alloc (Nat.le_refl _) (.cells #[.string c.name, .slice P1 c.shapes.length k1, .slice P2 c.labels.length k2, .slice P3 c.insts.length k3] 67)).alloc (by simp) (.cells #[.int .i64 k] 2)
  have y0 := Bk.new (w.alloc (.cells #[.string c.name, .slice P1 c.shapes.length k1, .slice P2 c.labels.length k2, .slice P3 c.insts.length k3] 67)) 2 #[.int .i64 k]
  have e1 : (w.alloc (.cells #[.string c.name, .slice P1 c.shapes.length k1, .slice P2 c.labels.length k2, .slice P3 c.insts.length k3] 67)).heap.size = w.heap.size + 1 := by simp
  rw [e1] at y0
  have b1 := Below.refl ((w.alloc (.cells #[.string c.name, .slice P1 c.shapes.length k1, .slice P2 c.labels.length k2, .slice P3 c.insts.length k3] 67)).alloc (.cells #[.int .i64 k] 2)).heap.size ((w.alloc (.cells #[.string c.name, .slice P1 c.shapes.length k1, .slice P2 c.labels.length k2, .slice P3 c.insts.length k3] 67)).alloc (.cells #[.int .i64 k] 2))
  have HKB := Lib.hid (show ∀ W, Below ((w.alloc (.cells #[.string c.name, .slice P1 c.shapes.length k1, .slice P2 c.labels.length k2, .slice P3 c.insts.length k3] 67)).alloc (.cells #[.int .i64 k] 2)).heap.size ((w.alloc (.cells #[.string c.name, .slice P1 c.shapes.length k1, .slice P2 c.labels.length k2, .slice P3 c.insts.length k3] 67)).alloc (.cells #[.int .i64 k] 2)) W → W.cell? ⟨w.heap.size + 1, 0, none⟩ = some (.int .i64 k) from fun W hW => (y0.on hW).cell 0)
  clear y0 e1
  cases h1 : nameB c.name with
  | false =>
    have e0 : cellB c k = false := by simp [cellB, h1]
    rw [e0]
    clear e0
    go_enter Tryz.func84, Tryz.ntmps84
    go_wp2_with (first
      | (go_at_call 89; refine (isName_impl _ _ hn).mono ?_; rintro e w1 ⟨rfl, rfl⟩; (first | rw [h1] | skip))
      | (go_at_call 90; refine (hasS_any _ c.shapes _ (HU.out.on b0).s).mono ?_; rintro e w2 ⟨rfl, hbb⟩; obtain ⟨hc2, hf2⟩ := bcellN hbb (n := w.heap.size + 2) (by first | (simp; done) | (have := b1.size; simp at this; omega)); have b0 := b0.trans (hbb.mono b0.size); have b1 := b1.trans (hbb.mono b1.size); (first | rw [h1] | skip))
      | (go_at_call 93; refine (hasL_any _ c.labels _ (HU.out.on b0).l HN.out).mono ?_; rintro e w3 ⟨rfl, hbb⟩; obtain ⟨hc3, hf3⟩ := bcellN hbb (n := w.heap.size + 2) (by first | (simp; done) | (have := b1.size; simp at this; omega)); have b0 := b0.trans (hbb.mono b0.size); have b1 := b1.trans (hbb.mono b1.size); (first | rw [h1] | skip))
      | (go_at_call 96; refine (hasI_any _ c.insts _ (HU.out.on b0).i k (w.heap.size + 1) hk (HKB.out _ b1) (by have := b1.size; simp at this; omega)).mono ?_; rintro e w4 ⟨rfl, hbb⟩; obtain ⟨hc4, hf4⟩ := bcellN hbb (n := w.heap.size + 2) (by first | (simp; done) | (have := b1.size; simp at this; omega)); have b0 := b0.trans (hbb.mono b0.size); have b1 := b1.trans (hbb.mono b1.size); (first | rw [h1] | skip)))
    all_goals
      go_ret
      exact ⟨rfl, b0⟩
  | true =>
    cases h2 : decide ((c.shapes.length : Int) ≤ 24) with
    | false =>
      have gh2 : 24 < (c.shapes.length : Int) := by have := of_decide_eq_false h2; omega
      have e0 : cellB c k = false := by simp [cellB, h1, h2]
      rw [e0]
      clear e0
      go_enter Tryz.func84, Tryz.ntmps84
      go_wp2_with (first
        | (go_at_call 89; refine (isName_impl _ _ hn).mono ?_; rintro e w1 ⟨rfl, rfl⟩; (first | rw [h1] | rw [h2] | skip))
        | (go_at_call 90; refine (hasS_any _ c.shapes _ (HU.out.on b0).s).mono ?_; rintro e w2 ⟨rfl, hbb⟩; obtain ⟨hc2, hf2⟩ := bcellN hbb (n := w.heap.size + 2) (by first | (simp; done) | (have := b1.size; simp at this; omega)); have b0 := b0.trans (hbb.mono b0.size); have b1 := b1.trans (hbb.mono b1.size); (first | rw [h1] | rw [h2] | skip))
        | (go_at_call 93; refine (hasL_any _ c.labels _ (HU.out.on b0).l HN.out).mono ?_; rintro e w3 ⟨rfl, hbb⟩; obtain ⟨hc3, hf3⟩ := bcellN hbb (n := w.heap.size + 2) (by first | (simp; done) | (have := b1.size; simp at this; omega)); have b0 := b0.trans (hbb.mono b0.size); have b1 := b1.trans (hbb.mono b1.size); (first | rw [h1] | rw [h2] | skip))
        | (go_at_call 96; refine (hasI_any _ c.insts _ (HU.out.on b0).i k (w.heap.size + 1) hk (HKB.out _ b1) (by have := b1.size; simp at this; omega)).mono ?_; rintro e w4 ⟨rfl, hbb⟩; obtain ⟨hc4, hf4⟩ := bcellN hbb (n := w.heap.size + 2) (by first | (simp; done) | (have := b1.size; simp at this; omega)); have b0 := b0.trans (hbb.mono b0.size); have b1 := b1.trans (hbb.mono b1.size); (first | rw [h1] | rw [h2] | skip)))
      all_goals
        go_ret
        exact ⟨rfl, b0⟩
    | true =>
      have gh2 : ¬ 24 < (c.shapes.length : Int) := by have := of_decide_eq_true h2; omega
      cases h3 : decide ((c.labels.length : Int) ≤ 8) with
      | false =>
        have gh3 : 8 < (c.labels.length : Int) := by have := of_decide_eq_false h3; omega
        have e0 : cellB c k = false := by simp [cellB, h1, h2, h3]
        rw [e0]
        clear e0
        go_enter Tryz.func84, Tryz.ntmps84
        go_wp2_with (first
          | (go_at_call 89; refine (isName_impl _ _ hn).mono ?_; rintro e w1 ⟨rfl, rfl⟩; (first | rw [h1] | rw [h2] | rw [h3] | skip))
          | (go_at_call 90; refine (hasS_any _ c.shapes _ (HU.out.on b0).s).mono ?_; rintro e w2 ⟨rfl, hbb⟩; obtain ⟨hc2, hf2⟩ := bcellN hbb (n := w.heap.size + 2) (by first | (simp; done) | (have := b1.size; simp at this; omega)); have b0 := b0.trans (hbb.mono b0.size); have b1 := b1.trans (hbb.mono b1.size); (first | rw [h1] | rw [h2] | rw [h3] | skip))
          | (go_at_call 93; refine (hasL_any _ c.labels _ (HU.out.on b0).l HN.out).mono ?_; rintro e w3 ⟨rfl, hbb⟩; obtain ⟨hc3, hf3⟩ := bcellN hbb (n := w.heap.size + 2) (by first | (simp; done) | (have := b1.size; simp at this; omega)); have b0 := b0.trans (hbb.mono b0.size); have b1 := b1.trans (hbb.mono b1.size); (first | rw [h1] | rw [h2] | rw [h3] | skip))
          | (go_at_call 96; refine (hasI_any _ c.insts _ (HU.out.on b0).i k (w.heap.size + 1) hk (HKB.out _ b1) (by have := b1.size; simp at this; omega)).mono ?_; rintro e w4 ⟨rfl, hbb⟩; obtain ⟨hc4, hf4⟩ := bcellN hbb (n := w.heap.size + 2) (by first | (simp; done) | (have := b1.size; simp at this; omega)); have b0 := b0.trans (hbb.mono b0.size); have b1 := b1.trans (hbb.mono b1.size); (first | rw [h1] | rw [h2] | rw [h3] | skip)))
        all_goals
          go_ret
          exact ⟨rfl, b0⟩
      | true =>
        have gh3 : ¬ 8 < (c.labels.length : Int) := by have := of_decide_eq_true h3; omega
        cases h4 : decide ((c.insts.length : Int) ≤ 8) with
        | false =>
          have gh4 : 8 < (c.insts.length : Int) := by have := of_decide_eq_false h4; omega
          have e0 : cellB c k = false := by simp [cellB, h1, h2, h3, h4]
          rw [e0]
          clear e0
          go_enter Tryz.func84, Tryz.ntmps84
          go_wp2_with (first
            | (go_at_call 89; refine (isName_impl _ _ hn).mono ?_; rintro e w1 ⟨rfl, rfl⟩; (first | rw [h1] | rw [h2] | rw [h3] | rw [h4] | skip))
            | (go_at_call 90; refine (hasS_any _ c.shapes _ (HU.out.on b0).s).mono ?_; rintro e w2 ⟨rfl, hbb⟩; obtain ⟨hc2, hf2⟩ := bcellN hbb (n := w.heap.size + 2) (by first | (simp; done) | (have := b1.size; simp at this; omega)); have b0 := b0.trans (hbb.mono b0.size); have b1 := b1.trans (hbb.mono b1.size); (first | rw [h1] | rw [h2] | rw [h3] | rw [h4] | skip))
            | (go_at_call 93; refine (hasL_any _ c.labels _ (HU.out.on b0).l HN.out).mono ?_; rintro e w3 ⟨rfl, hbb⟩; obtain ⟨hc3, hf3⟩ := bcellN hbb (n := w.heap.size + 2) (by first | (simp; done) | (have := b1.size; simp at this; omega)); have b0 := b0.trans (hbb.mono b0.size); have b1 := b1.trans (hbb.mono b1.size); (first | rw [h1] | rw [h2] | rw [h3] | rw [h4] | skip))
            | (go_at_call 96; refine (hasI_any _ c.insts _ (HU.out.on b0).i k (w.heap.size + 1) hk (HKB.out _ b1) (by have := b1.size; simp at this; omega)).mono ?_; rintro e w4 ⟨rfl, hbb⟩; obtain ⟨hc4, hf4⟩ := bcellN hbb (n := w.heap.size + 2) (by first | (simp; done) | (have := b1.size; simp at this; omega)); have b0 := b0.trans (hbb.mono b0.size); have b1 := b1.trans (hbb.mono b1.size); (first | rw [h1] | rw [h2] | rw [h3] | rw [h4] | skip)))
          all_goals
            go_ret
            exact ⟨rfl, b0⟩
        | true =>
          have gh4 : ¬ 8 < (c.insts.length : Int) := by have := of_decide_eq_true h4; omega
          cases h5 : badS c.shapes with
          | true =>
            have e0 : cellB c k = false := by simp [cellB, h1, h2, h3, h4, h5]
            rw [e0]
            clear e0
            go_enter Tryz.func84, Tryz.ntmps84
            go_wp2_with (first
              | (go_at_call 89; refine (isName_impl _ _ hn).mono ?_; rintro e w1 ⟨rfl, rfl⟩; (first | rw [h1] | rw [h2] | rw [h3] | rw [h4] | rw [h5] | skip))
              | (go_at_call 90; refine (hasS_any _ c.shapes _ (HU.out.on b0).s).mono ?_; rintro e w2 ⟨rfl, hbb⟩; obtain ⟨hc2, hf2⟩ := bcellN hbb (n := w.heap.size + 2) (by first | (simp; done) | (have := b1.size; simp at this; omega)); have b0 := b0.trans (hbb.mono b0.size); have b1 := b1.trans (hbb.mono b1.size); (first | rw [h1] | rw [h2] | rw [h3] | rw [h4] | rw [h5] | skip))
              | (go_at_call 93; refine (hasL_any _ c.labels _ (HU.out.on b0).l HN.out).mono ?_; rintro e w3 ⟨rfl, hbb⟩; obtain ⟨hc3, hf3⟩ := bcellN hbb (n := w.heap.size + 2) (by first | (simp; done) | (have := b1.size; simp at this; omega)); have b0 := b0.trans (hbb.mono b0.size); have b1 := b1.trans (hbb.mono b1.size); (first | rw [h1] | rw [h2] | rw [h3] | rw [h4] | rw [h5] | skip))
              | (go_at_call 96; refine (hasI_any _ c.insts _ (HU.out.on b0).i k (w.heap.size + 1) hk (HKB.out _ b1) (by have := b1.size; simp at this; omega)).mono ?_; rintro e w4 ⟨rfl, hbb⟩; obtain ⟨hc4, hf4⟩ := bcellN hbb (n := w.heap.size + 2) (by first | (simp; done) | (have := b1.size; simp at this; omega)); have b0 := b0.trans (hbb.mono b0.size); have b1 := b1.trans (hbb.mono b1.size); (first | rw [h1] | rw [h2] | rw [h3] | rw [h4] | rw [h5] | skip)))
            all_goals
              go_ret
              exact ⟨rfl, b0⟩
          | false =>
            cases h6 : badL c.labels with
            | true =>
              have e0 : cellB c k = false := by simp [cellB, h1, h2, h3, h4, h5, h6]
              rw [e0]
              clear e0
              go_enter Tryz.func84, Tryz.ntmps84
              go_wp2_with (first
                | (go_at_call 89; refine (isName_impl _ _ hn).mono ?_; rintro e w1 ⟨rfl, rfl⟩; (first | rw [h1] | rw [h2] | rw [h3] | rw [h4] | rw [h5] | rw [h6] | skip))
                | (go_at_call 90; refine (hasS_any _ c.shapes _ (HU.out.on b0).s).mono ?_; rintro e w2 ⟨rfl, hbb⟩; obtain ⟨hc2, hf2⟩ := bcellN hbb (n := w.heap.size + 2) (by first | (simp; done) | (have := b1.size; simp at this; omega)); have b0 := b0.trans (hbb.mono b0.size); have b1 := b1.trans (hbb.mono b1.size); (first | rw [h1] | rw [h2] | rw [h3] | rw [h4] | rw [h5] | rw [h6] | skip))
                | (go_at_call 93; refine (hasL_any _ c.labels _ (HU.out.on b0).l HN.out).mono ?_; rintro e w3 ⟨rfl, hbb⟩; obtain ⟨hc3, hf3⟩ := bcellN hbb (n := w.heap.size + 2) (by first | (simp; done) | (have := b1.size; simp at this; omega)); have b0 := b0.trans (hbb.mono b0.size); have b1 := b1.trans (hbb.mono b1.size); (first | rw [h1] | rw [h2] | rw [h3] | rw [h4] | rw [h5] | rw [h6] | skip))
                | (go_at_call 96; refine (hasI_any _ c.insts _ (HU.out.on b0).i k (w.heap.size + 1) hk (HKB.out _ b1) (by have := b1.size; simp at this; omega)).mono ?_; rintro e w4 ⟨rfl, hbb⟩; obtain ⟨hc4, hf4⟩ := bcellN hbb (n := w.heap.size + 2) (by first | (simp; done) | (have := b1.size; simp at this; omega)); have b0 := b0.trans (hbb.mono b0.size); have b1 := b1.trans (hbb.mono b1.size); (first | rw [h1] | rw [h2] | rw [h3] | rw [h4] | rw [h5] | rw [h6] | skip)))
              all_goals
                go_ret
                exact ⟨rfl, b0⟩
            | false =>
              cases h7 : badI c.insts k with
              | true =>
                have e0 : cellB c k = false := by simp [cellB, h1, h2, h3, h4, h5, h6, h7]
                rw [e0]
                clear e0
                go_enter Tryz.func84, Tryz.ntmps84
                go_wp2_with (first
                  | (go_at_call 89; refine (isName_impl _ _ hn).mono ?_; rintro e w1 ⟨rfl, rfl⟩; (first | rw [h1] | rw [h2] | rw [h3] | rw [h4] | rw [h5] | rw [h6] | rw [h7] | skip))
                  | (go_at_call 90; refine (hasS_any _ c.shapes _ (HU.out.on b0).s).mono ?_; rintro e w2 ⟨rfl, hbb⟩; obtain ⟨hc2, hf2⟩ := bcellN hbb (n := w.heap.size + 2) (by first | (simp; done) | (have := b1.size; simp at this; omega)); have b0 := b0.trans (hbb.mono b0.size); have b1 := b1.trans (hbb.mono b1.size); (first | rw [h1] | rw [h2] | rw [h3] | rw [h4] | rw [h5] | rw [h6] | rw [h7] | skip))
                  | (go_at_call 93; refine (hasL_any _ c.labels _ (HU.out.on b0).l HN.out).mono ?_; rintro e w3 ⟨rfl, hbb⟩; obtain ⟨hc3, hf3⟩ := bcellN hbb (n := w.heap.size + 2) (by first | (simp; done) | (have := b1.size; simp at this; omega)); have b0 := b0.trans (hbb.mono b0.size); have b1 := b1.trans (hbb.mono b1.size); (first | rw [h1] | rw [h2] | rw [h3] | rw [h4] | rw [h5] | rw [h6] | rw [h7] | skip))
                  | (go_at_call 96; refine (hasI_any _ c.insts _ (HU.out.on b0).i k (w.heap.size + 1) hk (HKB.out _ b1) (by have := b1.size; simp at this; omega)).mono ?_; rintro e w4 ⟨rfl, hbb⟩; obtain ⟨hc4, hf4⟩ := bcellN hbb (n := w.heap.size + 2) (by first | (simp; done) | (have := b1.size; simp at this; omega)); have b0 := b0.trans (hbb.mono b0.size); have b1 := b1.trans (hbb.mono b1.size); (first | rw [h1] | rw [h2] | rw [h3] | rw [h4] | rw [h5] | rw [h6] | rw [h7] | skip)))
                all_goals
                  go_ret
                  exact ⟨rfl, b0⟩
              | false =>
                have e0 : cellB c k = true := by simp [cellB, h1, h2, h3, h4, h5, h6, h7]
                rw [e0]
                clear e0
                go_enter Tryz.func84, Tryz.ntmps84
                go_wp2_with (first
                  | (go_at_call 89; refine (isName_impl _ _ hn).mono ?_; rintro e w1 ⟨rfl, rfl⟩; (first | rw [h1] | rw [h2] | rw [h3] | rw [h4] | rw [h5] | rw [h6] | rw [h7] | skip))
                  | (go_at_call 90; refine (hasS_any _ c.shapes _ (HU.out.on b0).s).mono ?_; rintro e w2 ⟨rfl, hbb⟩; obtain ⟨hc2, hf2⟩ := bcellN hbb (n := w.heap.size + 2) (by first | (simp; done) | (have := b1.size; simp at this; omega)); have b0 := b0.trans (hbb.mono b0.size); have b1 := b1.trans (hbb.mono b1.size); (first | rw [h1] | rw [h2] | rw [h3] | rw [h4] | rw [h5] | rw [h6] | rw [h7] | skip))
                  | (go_at_call 93; refine (hasL_any _ c.labels _ (HU.out.on b0).l HN.out).mono ?_; rintro e w3 ⟨rfl, hbb⟩; obtain ⟨hc3, hf3⟩ := bcellN hbb (n := w.heap.size + 2) (by first | (simp; done) | (have := b1.size; simp at this; omega)); have b0 := b0.trans (hbb.mono b0.size); have b1 := b1.trans (hbb.mono b1.size); (first | rw [h1] | rw [h2] | rw [h3] | rw [h4] | rw [h5] | rw [h6] | rw [h7] | skip))
                  | (go_at_call 96; refine (hasI_any _ c.insts _ (HU.out.on b0).i k (w.heap.size + 1) hk (HKB.out _ b1) (by have := b1.size; simp at this; omega)).mono ?_; rintro e w4 ⟨rfl, hbb⟩; obtain ⟨hc4, hf4⟩ := bcellN hbb (n := w.heap.size + 2) (by first | (simp; done) | (have := b1.size; simp at this; omega)); have b0 := b0.trans (hbb.mono b0.size); have b1 := b1.trans (hbb.mono b1.size); (first | rw [h1] | rw [h2] | rw [h3] | rw [h4] | rw [h5] | rw [h6] | rw [h7] | skip)))
                all_goals
                  go_ret
                  exact ⟨rfl, b0⟩

theorem cell_badS {c : CellD} {k : Int} (h : badS c.shapes = true) : cellB c k = false := by unfold cellB; rw [h]; simp
theorem cell_badL {c : CellD} {k : Int} (h : badL c.labels = true) : cellB c k = false := by unfold cellB; rw [h]; simp
theorem cell_badI {c : CellD} {k : Int} (h : badI c.insts k = true) : cellB c k = false := by unfold cellB; rw [h]; simp


set_option maxHeartbeats 3200000 in
set_option maxRecDepth 100000 in
theorem cell_spec (c : CellD) (u : Sl3) (k : Int) (w : World) (hu : C3 w 0 u c) (hk : 0 ≤ k ∧ k ≤ 1000) (hN : NmOk c) :
    Calls Tryz.prog 68 #[.agg #[.string c.name, u.s, u.l, u.i], .int .i64 k] w fun e w' => e = .returned (.bool (cellB c k)) ∧ Below w.heap.size w w' := by
  obtain ⟨us, ul, ui⟩ := u
  obtain ⟨P1, k1, rfl, -, m1⟩ := hu.s.form
  obtain ⟨P2, k2, rfl, -, m2⟩ := hu.l.form
  obtain ⟨P3, k3, rfl, -, m3⟩ := hu.i.form
  dsimp only
  obtain ⟨hn, hl⟩ := hN
  have HN := Lib.hid hl
  have HU := Lib.hid hu
  clear hl hu
  have b0 := (Below.refl w.heap.size w).alloc (Nat.le_refl _) (.cells #[.string c.name, .slice P1 c.shapes.length k1, .slice P2 c.labels.length k2, .slice P3 c.insts.length k3] 67)
  have z0 := Bk.new w 67 #[.string c.name, .slice P1 c.shapes.length k1, .slice P2 c.labels.length k2, .slice P3 c.insts.length k3]
  unfold maxLen at m1 m2 m3
  cases h1 : nameB c.name with
  | false =>
    have e0 : cellB c k = false := by simp [cellB, h1]
    rw [e0]
    clear e0
    go_enter Tryz.func68, Tryz.ntmps68
    go_wp2_with (go_at_call 78; refine (isName_spec _ _ hn).mono ?_; rintro e w1 ⟨rfl, rfl⟩; rw [h1])
    all_goals
      go_ret
      exact ⟨rfl, b0⟩
  | true =>
    cases h2 : decide ((c.shapes.length : Int) ≤ 24) with
    | false =>
      have gh2 : 24 < (c.shapes.length : Int) := by have := of_decide_eq_false h2; omega
      have e0 : cellB c k = false := by simp [cellB, h1, h2]
      rw [e0]
      clear e0
      go_enter Tryz.func68, Tryz.ntmps68
      go_wp2_with (go_at_call 78; refine (isName_spec _ _ hn).mono ?_; rintro e w1 ⟨rfl, rfl⟩; rw [h1])
      all_goals
        go_ret
        exact ⟨rfl, b0⟩
    | true =>
      have gh2 : ¬ 24 < (c.shapes.length : Int) := by have := of_decide_eq_true h2; omega
      cases h3 : decide ((c.labels.length : Int) ≤ 8) with
      | false =>
        have gh3 : 8 < (c.labels.length : Int) := by have := of_decide_eq_false h3; omega
        have e0 : cellB c k = false := by simp [cellB, h1, h2, h3]
        rw [e0]
        clear e0
        go_enter Tryz.func68, Tryz.ntmps68
        go_wp2_with (go_at_call 78; refine (isName_spec _ _ hn).mono ?_; rintro e w1 ⟨rfl, rfl⟩; rw [h1])
        all_goals
          go_ret
          exact ⟨rfl, b0⟩
      | true =>
        have gh3 : ¬ 8 < (c.labels.length : Int) := by have := of_decide_eq_true h3; omega
        cases h4 : decide ((c.insts.length : Int) ≤ 8) with
        | false =>
          have gh4 : 8 < (c.insts.length : Int) := by have := of_decide_eq_false h4; omega
          have e0 : cellB c k = false := by simp [cellB, h1, h2, h3, h4]
          rw [e0]
          clear e0
          go_enter Tryz.func68, Tryz.ntmps68
          go_wp2_with (go_at_call 78; refine (isName_spec _ _ hn).mono ?_; rintro e w1 ⟨rfl, rfl⟩; rw [h1])
          all_goals
            go_ret
            exact ⟨rfl, b0⟩
        | true =>
          have gh4 : ¬ 8 < (c.insts.length : Int) := by have := of_decide_eq_true h4; omega
          go_enter Tryz.func68, Tryz.ntmps68
          go_wp2_with (go_at_call 78; refine (isName_spec _ _ hn).mono ?_; rintro e w1 ⟨rfl, rfl⟩; rw [h1])
          go_loopw [5] (fun iv wr => ∃ i : Nat, i ≤ c.shapes.length ∧ iv = .int .i64 i ∧ Hid ((c.shapes.take i).any (fun x => !(shapeB x)) = false) ∧ Below w.heap.size w wr ∧ Bk wr w.heap.size 67 #[.string c.name, .slice P1 c.shapes.length k1, .slice P2 c.labels.length k2, .slice P3 c.insts.length k3]) (fun iv _ => c.shapes.length - (intOf iv).toNat)
          case atStart => exact ⟨0, Nat.zero_le _, rfl, Lib.hid rfl, b0, z0⟩
          case round =>
            obtain ⟨i, hi, rfl, HI, hb, hz⟩ := hrel
            clear b0 z0
            have q0 := hz.cell 0
            have q1 := hz.cell 1
            have q2 := hz.cell 2
            have q3 := hz.cell 3
            simp only [List.getElem?_toArray, List.getElem?_cons_zero, List.getElem?_cons_succ] at q0 q1 q2 q3
            by_cases hlt : i < c.shapes.length
            · obtain ⟨g, x, hA, hx, -, -, hcc⟩ := FL.elem ShapeD.len (HU.out.on hb).s hlt
              cases hA
              have Hx := Lib.hid hx
              clear hx
              cases hok : shapeB x with
              | true =>
                have HI2 := Lib.hid (any_step HI.out Hx.out (p := fun x => !(shapeB x)) (by simp [hok]))
                obtain ⟨a0, ⟨a1, a2, a3, a4⟩⟩ := x
                have f0 : wr.cell? ⟨g, i * 5, none⟩ = some (.int .i64 a0) := hcc 0 _ rfl
                have f1 : wr.cell? ⟨g, i * 5 + 1, none⟩ = some (.int .i64 a1) := hcc 1 _ rfl
                have f2 : wr.cell? ⟨g, i * 5 + 2, none⟩ = some (.int .i64 a2) := hcc 2 _ rfl
                have f3 : wr.cell? ⟨g, i * 5 + 3, none⟩ = some (.int .i64 a3) := hcc 3 _ rfl
                have f4 : wr.cell? ⟨g, i * 5 + 4, none⟩ = some (.int .i64 a4) := hcc 4 _ rfl
                clear hcc
                go_wp2_with (go_at_call 79; refine (shape9 ⟨a0, ⟨a1, a2, a3, a4⟩⟩ _).mono ?_; rintro e w2 ⟨rfl, hb2⟩; rw [hok])
                exact ⟨⟨i + 1, by omega, by go_num, HI2, hb.trans (hb2.mono hb.size), hz.on hb2⟩, by simp [intOf]; omega⟩
              | false =>
                have Hbad := Lib.hid (show badS c.shapes = true from List.any_eq_true.2 ⟨x, List.mem_of_getElem? Hx.out, by simp [hok]⟩)
                obtain ⟨a0, ⟨a1, a2, a3, a4⟩⟩ := x
                have f0 : wr.cell? ⟨g, i * 5, none⟩ = some (.int .i64 a0) := hcc 0 _ rfl
                have f1 : wr.cell? ⟨g, i * 5 + 1, none⟩ = some (.int .i64 a1) := hcc 1 _ rfl
                have f2 : wr.cell? ⟨g, i * 5 + 2, none⟩ = some (.int .i64 a2) := hcc 2 _ rfl
                have f3 : wr.cell? ⟨g, i * 5 + 3, none⟩ = some (.int .i64 a3) := hcc 3 _ rfl
                have f4 : wr.cell? ⟨g, i * 5 + 4, none⟩ = some (.int .i64 a4) := hcc 4 _ rfl
                clear hcc
                go_wp2_with (go_at_call 79; refine (shape9 ⟨a0, ⟨a1, a2, a3, a4⟩⟩ _).mono ?_; rintro e w2 ⟨rfl, hb2⟩; rw [hok])
                go_ret
                exact ⟨by rw [cell_badS Hbad.out]; rfl, hb.trans (hb2.mono hb.size)⟩
            · obtain rfl : i = c.shapes.length := by omega
              have HGs := Lib.hid (show badS c.shapes = false from by have := HI.out; rwa [List.take_length] at this)
              have b0 := hb
              have z0 := hz
              go_wp2
              go_loopw [6] (fun iv wr => ∃ i : Nat, i ≤ c.labels.length ∧ iv = .int .i64 i ∧ Hid ((c.labels.take i).any (fun x => !(labelB x)) = false) ∧ Below w.heap.size w wr ∧ Bk wr w.heap.size 67 #[.string c.name, .slice P1 c.shapes.length k1, .slice P2 c.labels.length k2, .slice P3 c.insts.length k3]) (fun iv _ => c.labels.length - (intOf iv).toNat)
              case atStart => exact ⟨0, Nat.zero_le _, rfl, Lib.hid rfl, b0, z0⟩
              case round =>
                obtain ⟨i, hi, rfl, HI, hb, hz⟩ := hrel
                clear b0 z0
                have q0 := hz.cell 0
                have q1 := hz.cell 1
                have q2 := hz.cell 2
                have q3 := hz.cell 3
                simp only [List.getElem?_toArray, List.getElem?_cons_zero, List.getElem?_cons_succ] at q0 q1 q2 q3
                by_cases hlt : i < c.labels.length
                · obtain ⟨g, x, hA, hx, -, -, hcc⟩ := FL.elem LabelD.len (HU.out.on hb).l hlt
                  cases hA
                  have Hnm := Lib.hid (HN.out _ (List.mem_of_getElem? hx))
                  have Hx := Lib.hid hx
                  clear hx
                  cases hok : labelB x with
                  | true =>
                    have HI2 := Lib.hid (any_step HI.out Hx.out (p := fun x => !(labelB x)) (by simp [hok]))
                    obtain ⟨a0, a1, a2, a3⟩ := x
                    have f0 : wr.cell? ⟨g, i * 4, none⟩ = some (.int .i64 a0) := hcc 0 _ rfl
                    have f1 : wr.cell? ⟨g, i * 4 + 1, none⟩ = some (.int .i64 a1) := hcc 1 _ rfl
                    have f2 : wr.cell? ⟨g, i * 4 + 2, none⟩ = some (.int .i64 a2) := hcc 2 _ rfl
                    have f3 : wr.cell? ⟨g, i * 4 + 3, none⟩ = some (.string a3) := hcc 3 _ rfl
                    clear hcc
                    go_wp2_with (go_at_call 80; refine (label9 ⟨a0, a1, a2, a3⟩ _ Hnm.out).mono ?_; rintro e w2 ⟨rfl, hb2⟩; rw [hok])
                    exact ⟨⟨i + 1, by omega, by go_num, HI2, hb.trans (hb2.mono hb.size), hz.on hb2⟩, by simp [intOf]; omega⟩
                  | false =>
                    have Hbad := Lib.hid (show badL c.labels = true from List.any_eq_true.2 ⟨x, List.mem_of_getElem? Hx.out, by simp [hok]⟩)
                    obtain ⟨a0, a1, a2, a3⟩ := x
                    have f0 : wr.cell? ⟨g, i * 4, none⟩ = some (.int .i64 a0) := hcc 0 _ rfl
                    have f1 : wr.cell? ⟨g, i * 4 + 1, none⟩ = some (.int .i64 a1) := hcc 1 _ rfl
                    have f2 : wr.cell? ⟨g, i * 4 + 2, none⟩ = some (.int .i64 a2) := hcc 2 _ rfl
                    have f3 : wr.cell? ⟨g, i * 4 + 3, none⟩ = some (.string a3) := hcc 3 _ rfl
                    clear hcc
                    go_wp2_with (go_at_call 80; refine (label9 ⟨a0, a1, a2, a3⟩ _ Hnm.out).mono ?_; rintro e w2 ⟨rfl, hb2⟩; rw [hok])
                    go_ret
                    exact ⟨by rw [cell_badL Hbad.out]; rfl, hb.trans (hb2.mono hb.size)⟩
                · obtain rfl : i = c.labels.length := by omega
                  have HGl := Lib.hid (show badL c.labels = false from by have := HI.out; rwa [List.take_length] at this)
                  have b0 := hb
                  have z0 := hz
                  go_wp2
                  go_loopw [7] (fun iv wr => ∃ i : Nat, i ≤ c.insts.length ∧ iv = .int .i64 i ∧ Hid ((c.insts.take i).any (fun x => !(instB x k)) = false) ∧ Below w.heap.size w wr ∧ Bk wr w.heap.size 67 #[.string c.name, .slice P1 c.shapes.length k1, .slice P2 c.labels.length k2, .slice P3 c.insts.length k3]) (fun iv _ => c.insts.length - (intOf iv).toNat)
                  case atStart => exact ⟨0, Nat.zero_le _, rfl, Lib.hid rfl, b0, z0⟩
                  case round =>
                    obtain ⟨i, hi, rfl, HI, hb, hz⟩ := hrel
                    clear b0 z0
                    have q0 := hz.cell 0
                    have q1 := hz.cell 1
                    have q2 := hz.cell 2
                    have q3 := hz.cell 3
                    simp only [List.getElem?_toArray, List.getElem?_cons_zero, List.getElem?_cons_succ] at q0 q1 q2 q3
                    by_cases hlt : i < c.insts.length
                    · obtain ⟨g, x, hA, hx, -, -, hcc⟩ := FL.elem InstD.len (HU.out.on hb).i hlt
                      cases hA
                      have Hx := Lib.hid hx
                      clear hx
                      cases hok : instB x k with
                      | true =>
                        have HI2 := Lib.hid (any_step HI.out Hx.out (p := fun x => !(instB x k)) (by simp [hok]))
                        obtain ⟨a0, a1, a2, a3, a4, a5, a6, a7⟩ := x
                        have f0 : wr.cell? ⟨g, i * 8, none⟩ = some (.int .i64 a0) := hcc 0 _ rfl
                        have f1 : wr.cell? ⟨g, i * 8 + 1, none⟩ = some (.int .i64 a1) := hcc 1 _ rfl
                        have f2 : wr.cell? ⟨g, i * 8 + 2, none⟩ = some (.int .i64 a2) := hcc 2 _ rfl
                        have f3 : wr.cell? ⟨g, i * 8 + 3, none⟩ = some (.int .i64 a3) := hcc 3 _ rfl
                        have f4 : wr.cell? ⟨g, i * 8 + 4, none⟩ = some (.int .i64 a4) := hcc 4 _ rfl
                        have f5 : wr.cell? ⟨g, i * 8 + 5, none⟩ = some (.int .i64 a5) := hcc 5 _ rfl
                        have f6 : wr.cell? ⟨g, i * 8 + 6, none⟩ = some (.int .i64 a6) := hcc 6 _ rfl
                        have f7 : wr.cell? ⟨g, i * 8 + 7, none⟩ = some (.int .i64 a7) := hcc 7 _ rfl
                        clear hcc
                        go_wp2_with (go_at_call 81; refine (inst9 ⟨a0, a1, a2, a3, a4, a5, a6, a7⟩ k _ hk).mono ?_; rintro e w2 ⟨rfl, hb2⟩; rw [hok])
                        exact ⟨⟨i + 1, by omega, by go_num, HI2, hb.trans (hb2.mono hb.size), hz.on hb2⟩, by simp [intOf]; omega⟩
                      | false =>
                        have Hbad := Lib.hid (show badI c.insts k = true from List.any_eq_true.2 ⟨x, List.mem_of_getElem? Hx.out, by simp [hok]⟩)
                        obtain ⟨a0, a1, a2, a3, a4, a5, a6, a7⟩ := x
                        have f0 : wr.cell? ⟨g, i * 8, none⟩ = some (.int .i64 a0) := hcc 0 _ rfl
                        have f1 : wr.cell? ⟨g, i * 8 + 1, none⟩ = some (.int .i64 a1) := hcc 1 _ rfl
                        have f2 : wr.cell? ⟨g, i * 8 + 2, none⟩ = some (.int .i64 a2) := hcc 2 _ rfl
                        have f3 : wr.cell? ⟨g, i * 8 + 3, none⟩ = some (.int .i64 a3) := hcc 3 _ rfl
                        have f4 : wr.cell? ⟨g, i * 8 + 4, none⟩ = some (.int .i64 a4) := hcc 4 _ rfl
                        have f5 : wr.cell? ⟨g, i * 8 + 5, none⟩ = some (.int .i64 a5) := hcc 5 _ rfl
                        have f6 : wr.cell? ⟨g, i * 8 + 6, none⟩ = some (.int .i64 a6) := hcc 6 _ rfl
                        have f7 : wr.cell? ⟨g, i * 8 + 7, none⟩ = some (.int .i64 a7) := hcc 7 _ rfl
                        clear hcc
                        go_wp2_with (go_at_call 81; refine (inst9 ⟨a0, a1, a2, a3, a4, a5, a6, a7⟩ k _ hk).mono ?_; rintro e w2 ⟨rfl, hb2⟩; rw [hok])
                        go_ret
                        exact ⟨by rw [cell_badI Hbad.out]; rfl, hb.trans (hb2.mono hb.size)⟩
                    · obtain rfl : i = c.insts.length := by omega
                      have HGi := Lib.hid (show badI c.insts k = false from by have := HI.out; rwa [List.take_length] at this)
                      have b0 := hb
                      have z0 := hz
                      go_wp2
                      go_ret
                      exact ⟨by rw [show cellB c k = true by simp [cellB, h1, h2, h3, h4, HGs.out, HGl.out, HGi.out]]; rfl, hb⟩

end Go.Proofs.YtgegbgkokkdmpaaGreat
