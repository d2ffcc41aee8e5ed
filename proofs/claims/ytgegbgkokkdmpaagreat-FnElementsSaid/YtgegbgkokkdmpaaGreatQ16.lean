/- Contracts: the program's searches of a cell's lists for one that is not valid, and of a library for a name. Conditions: lists in memory. -/
import Derived.Test.YtgegbgkokkdmpaaGreatQ12

namespace Go.Proofs.YtgegbgkokkdmpaaGreat
open Go.RowKit

def idxF {α : Type} (p : α → Bool) (xs : List α) : Int := if xs.any p = true then (xs.findIdx p : Nat) else -1
theorem idxF_none {α : Type} {p : α → Bool} {xs : List α} (h : xs.any p = false) : idxF p xs = -1 := if_neg (by rw [h]; simp)
theorem idxF_hit {α : Type} {p : α → Bool} {xs : List α} {k : Nat} {x : α} (h0 : (xs.take k).any p = false) (hx : xs[k]? = some x) (hp : p x = true) : idxF p xs = k := by
  have hk : k < xs.length := (List.getElem?_eq_some_iff.1 hx).1
  have hxe : xs[k] = x := (List.getElem?_eq_some_iff.1 hx).2
  have ha : xs.any p = true := List.any_eq_true.2 ⟨x, List.mem_of_getElem? hx, hp⟩
  rw [idxF, if_pos ha]
  congr 1
  rw [List.findIdx_eq hk]
  refine ⟨by rw [hxe]; exact hp, fun j hj => ?_⟩
  have hm : xs[j] ∈ xs.take k := by
    rw [List.mem_take_iff_getElem]
    exact ⟨j, by omega, rfl⟩
  cases hpj : p xs[j] with
  | false => rfl
  | true =>
    have := List.any_eq_true.2 ⟨_, hm, hpj⟩
    rw [h0] at this
    cases this
theorem any_step {α : Type} {p : α → Bool} {xs : List α} {k : Nat} {x : α} (h0 : (xs.take k).any p = false) (hx : xs[k]? = some x) (hp : p x = false) : (xs.take (k + 1)).any p = false := by
  rw [List.take_add_one, hx, List.any_append, h0]
  simp [hp]
theorem idxF_pos {α : Type} (p : α → Bool) (xs : List α) : decide (0 ≤ idxF p xs) = xs.any p := by
  unfold idxF
  cases h : xs.any p with
  | true => simp
  | false => simp


theorem cloShape_any (x : ShapeD) (w : World) : Calls Tryz.prog 91 #[.agg x.vals.toArray] w fun e w' => e = .returned (.bool (!(shapeB x))) ∧ Below w.heap.size w w' := by
  obtain ⟨a0, ⟨a1, a2, a3, a4⟩⟩ := x
  show Calls Tryz.prog 91 #[.agg #[.int .i64 a0, .int .i64 a1, .int .i64 a2, .int .i64 a3, .int .i64 a4]] w fun e w' => e = .returned (.bool (!(shapeB ⟨a0, ⟨a1, a2, a3, a4⟩⟩))) ∧ Below w.heap.size w w'
  have b0 := (Below.refl w.heap.size w).alloc (Nat.le_refl _) (.cells #[.int .i64 a0, .int .i64 a1, .int .i64 a2, .int .i64 a3, .int .i64 a4] 70)
  go_enter Tryz.func91, Tryz.ntmps91
  go_wp2_with (go_at_call 92; refine (shape_impl ⟨a0, ⟨a1, a2, a3, a4⟩⟩ _).mono ?_; rintro e w1 ⟨rfl, hb1⟩)
  go_ret
  exact ⟨rfl, b0.trans (hb1.mono b0.size)⟩

set_option maxHeartbeats 800000 in
set_option maxRecDepth 100000 in
theorem idxShape_any (v : Value) (xs : List ShapeD) (w : World) (hv : ShL w 0 v xs) :
    Calls Tryz.prog 101 #[v, .func (.func 91) #[] #[]] w fun e w' => e = .returned (.int .i64 (idxF (fun x => !(shapeB x)) xs)) ∧ Below w.heap.size w w' := by
  obtain ⟨A, c, rfl, hc9, hm⟩ := hv.form
  unfold maxLen at hm
  have HV := Lib.hid hv
  clear hv
  go_enter Tryz.func101, Tryz.ntmps101
  go_wp2
  go_loopw [8] (fun iv wr => ∃ k9 : Nat, k9 ≤ xs.length ∧ iv = .int .i64 k9 ∧ Hid ((xs.take k9).any (fun x => !(shapeB x)) = false) ∧ Below w.heap.size w wr) (fun iv _ => xs.length - (intOf iv).toNat)
  case atStart => exact ⟨0, Nat.zero_le _, rfl, Lib.hid rfl, Below.refl _ _⟩
  case round =>
    obtain ⟨k9, hk9, rfl, HI, hb⟩ := hrel
    by_cases hlt : k9 < xs.length
    · obtain ⟨g, x, rfl, hx, -, -, hcc⟩ := FL.elem ShapeD.len (HV.out.on hb) hlt
      have Hx := Lib.hid hx
      have hk8 : k9 < 9223372036854775807 := by omega
      clear hx
      cases hok : shapeB x with
      | true =>
        have HI2 := Lib.hid (any_step HI.out Hx.out (p := fun x => !(shapeB x)) (by simp [hok]))
        obtain ⟨a0, ⟨a1, a2, a3, a4⟩⟩ := x
        have f0 : wr.cell? ⟨g, k9 * 5, none⟩ = some (.int .i64 a0) := hcc 0 _ rfl
        have f1 : wr.cell? ⟨g, k9 * 5 + 1, none⟩ = some (.int .i64 a1) := hcc 1 _ rfl
        have f2 : wr.cell? ⟨g, k9 * 5 + 2, none⟩ = some (.int .i64 a2) := hcc 2 _ rfl
        have f3 : wr.cell? ⟨g, k9 * 5 + 3, none⟩ = some (.int .i64 a3) := hcc 3 _ rfl
        have f4 : wr.cell? ⟨g, k9 * 5 + 4, none⟩ = some (.int .i64 a4) := hcc 4 _ rfl
        clear hcc
        go_wp2_with fail
        refine (cloShape_any ⟨a0, ⟨a1, a2, a3, a4⟩⟩ _).mono ?_
        rintro e w2 ⟨rfl, hb2⟩
        rw [hok]
        go_wp2
        exact ⟨⟨k9 + 1, by omega, by go_num, HI2, hb.trans (hb2.mono hb.size)⟩, by simp [intOf]; omega⟩
      | false =>
        have Hhit := Lib.hid (idxF_hit HI.out Hx.out (p := fun x => !(shapeB x)) (by simp [hok]))
        obtain ⟨a0, ⟨a1, a2, a3, a4⟩⟩ := x
        have f0 : wr.cell? ⟨g, k9 * 5, none⟩ = some (.int .i64 a0) := hcc 0 _ rfl
        have f1 : wr.cell? ⟨g, k9 * 5 + 1, none⟩ = some (.int .i64 a1) := hcc 1 _ rfl
        have f2 : wr.cell? ⟨g, k9 * 5 + 2, none⟩ = some (.int .i64 a2) := hcc 2 _ rfl
        have f3 : wr.cell? ⟨g, k9 * 5 + 3, none⟩ = some (.int .i64 a3) := hcc 3 _ rfl
        have f4 : wr.cell? ⟨g, k9 * 5 + 4, none⟩ = some (.int .i64 a4) := hcc 4 _ rfl
        clear hcc
        go_wp2_with fail
        refine (cloShape_any ⟨a0, ⟨a1, a2, a3, a4⟩⟩ _).mono ?_
        rintro e w2 ⟨rfl, hb2⟩
        rw [hok]
        go_wp2
        go_ret
        exact ⟨by rw [Hhit.out]; rfl, hb.trans (hb2.mono hb.size)⟩
    · obtain rfl : k9 = xs.length := by omega
      have HE := Lib.hid (idxF_none (p := fun x => !(shapeB x)) (xs := xs) (by have := HI.out; rwa [List.take_length] at this))
      go_wp2
      go_ret
      exact ⟨by rw [HE.out]; rfl, hb⟩

theorem hasShape_any (v : Value) (xs : List ShapeD) (w : World) (hv : ShL w 0 v xs) :
    Calls Tryz.prog 90 #[v, .func (.func 91) #[] #[]] w fun e w' => e = .returned (.bool (xs.any (fun x => !(shapeB x)))) ∧ Below w.heap.size w w' := by
  have he := Lib.hid (idxF_pos (fun x => !(shapeB x)) xs)
  go_enter Tryz.func90, Tryz.ntmps90
  go_wp2_with fail
  refine (idxShape_any v xs _ hv).mono ?_
  rintro e w1 ⟨rfl, hb1⟩
  generalize hgi : idxF (fun x => !(shapeB x)) xs = z at *
  clear hgi
  go_wp2
  go_ret
  exact ⟨ret_bool he.out, hb1⟩


theorem cloLabel_any (x : LabelD) (w : World) (hn : x.name.size ≤ maxLen) : Calls Tryz.prog 94 #[.agg x.vals.toArray] w fun e w' => e = .returned (.bool (!(labelB x))) ∧ Below w.heap.size w w' := by
  obtain ⟨a0, a1, a2, a3⟩ := x
  show Calls Tryz.prog 94 #[.agg #[.int .i64 a0, .int .i64 a1, .int .i64 a2, .string a3]] w fun e w' => e = .returned (.bool (!(labelB ⟨a0, a1, a2, a3⟩))) ∧ Below w.heap.size w w'
  dsimp only at hn
  have b0 := (Below.refl w.heap.size w).alloc (Nat.le_refl _) (.cells #[.int .i64 a0, .int .i64 a1, .int .i64 a2, .string a3] 121)
  go_enter Tryz.func94, Tryz.ntmps94
  go_wp2_with (go_at_call 95; refine (label_impl ⟨a0, a1, a2, a3⟩ _ hn).mono ?_; rintro e w1 ⟨rfl, hb1⟩)
  go_ret
  exact ⟨rfl, b0.trans (hb1.mono b0.size)⟩

set_option maxHeartbeats 800000 in
set_option maxRecDepth 100000 in
theorem idxLabel_any (v : Value) (xs : List LabelD) (w : World) (hv : LaL w 0 v xs) (hN : ∀ x ∈ xs, x.name.size ≤ maxLen) :
    Calls Tryz.prog 102 #[v, .func (.func 94) #[] #[]] w fun e w' => e = .returned (.int .i64 (idxF (fun x => !(labelB x)) xs)) ∧ Below w.heap.size w w' := by
  obtain ⟨A, c, rfl, hc9, hm⟩ := hv.form
  unfold maxLen at hm
  have HN := Lib.hid hN
  clear hN
  have HV := Lib.hid hv
  clear hv
  go_enter Tryz.func102, Tryz.ntmps102
  go_wp2
  go_loopw [8] (fun iv wr => ∃ k9 : Nat, k9 ≤ xs.length ∧ iv = .int .i64 k9 ∧ Hid ((xs.take k9).any (fun x => !(labelB x)) = false) ∧ Below w.heap.size w wr) (fun iv _ => xs.length - (intOf iv).toNat)
  case atStart => exact ⟨0, Nat.zero_le _, rfl, Lib.hid rfl, Below.refl _ _⟩
  case round =>
    obtain ⟨k9, hk9, rfl, HI, hb⟩ := hrel
    by_cases hlt : k9 < xs.length
    · obtain ⟨g, x, rfl, hx, -, -, hcc⟩ := FL.elem LabelD.len (HV.out.on hb) hlt
      have HNx := Lib.hid (HN.out _ (List.mem_of_getElem? hx))
      have Hx := Lib.hid hx
      have hk8 : k9 < 9223372036854775807 := by omega
      clear hx
      cases hok : labelB x with
      | true =>
        have HI2 := Lib.hid (any_step HI.out Hx.out (p := fun x => !(labelB x)) (by simp [hok]))
        obtain ⟨a0, a1, a2, a3⟩ := x
        have f0 : wr.cell? ⟨g, k9 * 4, none⟩ = some (.int .i64 a0) := hcc 0 _ rfl
        have f1 : wr.cell? ⟨g, k9 * 4 + 1, none⟩ = some (.int .i64 a1) := hcc 1 _ rfl
        have f2 : wr.cell? ⟨g, k9 * 4 + 2, none⟩ = some (.int .i64 a2) := hcc 2 _ rfl
        have f3 : wr.cell? ⟨g, k9 * 4 + 3, none⟩ = some (.string a3) := hcc 3 _ rfl
        clear hcc
        go_wp2_with fail
        refine (cloLabel_any ⟨a0, a1, a2, a3⟩ _ HNx.out).mono ?_
        rintro e w2 ⟨rfl, hb2⟩
        rw [hok]
        go_wp2
        exact ⟨⟨k9 + 1, by omega, by go_num, HI2, hb.trans (hb2.mono hb.size)⟩, by simp [intOf]; omega⟩
      | false =>
        have Hhit := Lib.hid (idxF_hit HI.out Hx.out (p := fun x => !(labelB x)) (by simp [hok]))
        obtain ⟨a0, a1, a2, a3⟩ := x
        have f0 : wr.cell? ⟨g, k9 * 4, none⟩ = some (.int .i64 a0) := hcc 0 _ rfl
        have f1 : wr.cell? ⟨g, k9 * 4 + 1, none⟩ = some (.int .i64 a1) := hcc 1 _ rfl
        have f2 : wr.cell? ⟨g, k9 * 4 + 2, none⟩ = some (.int .i64 a2) := hcc 2 _ rfl
        have f3 : wr.cell? ⟨g, k9 * 4 + 3, none⟩ = some (.string a3) := hcc 3 _ rfl
        clear hcc
        go_wp2_with fail
        refine (cloLabel_any ⟨a0, a1, a2, a3⟩ _ HNx.out).mono ?_
        rintro e w2 ⟨rfl, hb2⟩
        rw [hok]
        go_wp2
        go_ret
        exact ⟨by rw [Hhit.out]; rfl, hb.trans (hb2.mono hb.size)⟩
    · obtain rfl : k9 = xs.length := by omega
      have HE := Lib.hid (idxF_none (p := fun x => !(labelB x)) (xs := xs) (by have := HI.out; rwa [List.take_length] at this))
      go_wp2
      go_ret
      exact ⟨by rw [HE.out]; rfl, hb⟩

theorem hasLabel_any (v : Value) (xs : List LabelD) (w : World) (hv : LaL w 0 v xs) (hN : ∀ x ∈ xs, x.name.size ≤ maxLen) :
    Calls Tryz.prog 93 #[v, .func (.func 94) #[] #[]] w fun e w' => e = .returned (.bool (xs.any (fun x => !(labelB x)))) ∧ Below w.heap.size w w' := by
  have he := Lib.hid (idxF_pos (fun x => !(labelB x)) xs)
  go_enter Tryz.func93, Tryz.ntmps93
  go_wp2_with fail
  refine (idxLabel_any v xs _ hv hN).mono ?_
  rintro e w1 ⟨rfl, hb1⟩
  generalize hgi : idxF (fun x => !(labelB x)) xs = z at *
  clear hgi
  go_wp2
  go_ret
  exact ⟨ret_bool he.out, hb1⟩


theorem cloInstance_any (x : InstD) (w : World) (k : Int) (kb : Nat) (hk : 0 ≤ k ∧ k ≤ 1000) (hc : w.cell? ⟨kb, 0, none⟩ = some (.int .i64 k)) (hkb : kb < w.heap.size) : Calls Tryz.prog 97 #[.agg x.vals.toArray, .pointer (some ⟨kb, 0, none⟩)] w fun e w' => e = .returned (.bool (!(instB x k))) ∧ Below w.heap.size w w' := by
  obtain ⟨a0, a1, a2, a3, a4, a5, a6, a7⟩ := x
  show Calls Tryz.prog 97 #[.agg #[.int .i64 a0, .int .i64 a1, .int .i64 a2, .int .i64 a3, .int .i64 a4, .int .i64 a5, .int .i64 a6, .int .i64 a7], .pointer (some ⟨kb, 0, none⟩)] w fun e w' => e = .returned (.bool (!(instB ⟨a0, a1, a2, a3, a4, a5, a6, a7⟩ k))) ∧ Below w.heap.size w w'
  obtain ⟨hc1, hf1⟩ := bcellN ((Below.refl w.heap.size w).alloc (Nat.le_refl _) (.cells #[.int .i64 a0, .int .i64 a1, .int .i64 a2, .int .i64 a3, .int .i64 a4, .int .i64 a5, .int .i64 a6, .int .i64 a7] 74)) (n := kb + 1) hkb
  have hcb := (hc1 kb 0 (Nat.lt_succ_self _)).trans hc
  clear hc1 hf1
  have b0 := (Below.refl w.heap.size w).alloc (Nat.le_refl _) (.cells #[.int .i64 a0, .int .i64 a1, .int .i64 a2, .int .i64 a3, .int .i64 a4, .int .i64 a5, .int .i64 a6, .int .i64 a7] 74)
  go_enter Tryz.func97, Tryz.ntmps97
  go_wp2_with (go_at_call 98; refine (inst_impl ⟨a0, a1, a2, a3, a4, a5, a6, a7⟩ k _ hk).mono ?_; rintro e w1 ⟨rfl, hb1⟩)
  go_ret
  exact ⟨rfl, b0.trans (hb1.mono b0.size)⟩

set_option maxHeartbeats 800000 in
set_option maxRecDepth 100000 in
theorem idxInstance_any (v : Value) (xs : List InstD) (w : World) (hv : InL w 0 v xs) (k : Int) (kb : Nat) (hk : 0 ≤ k ∧ k ≤ 1000) (hc : w.cell? ⟨kb, 0, none⟩ = some (.int .i64 k)) (hkb : kb < w.heap.size) :
    Calls Tryz.prog 104 #[v, .func (.func 97) #[] #[.pointer (some ⟨kb, 0, none⟩)]] w fun e w' => e = .returned (.int .i64 (idxF (fun x => !(instB x k)) xs)) ∧ Below w.heap.size w w' := by
  obtain ⟨A, c, rfl, hc9, hm⟩ := hv.form
  unfold maxLen at hm
  have HC := Lib.hid hc
  clear hc
  have HV := Lib.hid hv
  clear hv
  go_enter Tryz.func104, Tryz.ntmps104
  go_wp2
  go_loopw [8] (fun iv wr => ∃ k9 : Nat, k9 ≤ xs.length ∧ iv = .int .i64 k9 ∧ Hid ((xs.take k9).any (fun x => !(instB x k)) = false) ∧ Below w.heap.size w wr) (fun iv _ => xs.length - (intOf iv).toNat)
  case atStart => exact ⟨0, Nat.zero_le _, rfl, Lib.hid rfl, Below.refl _ _⟩
  case round =>
    obtain ⟨k9, hk9, rfl, HI, hb⟩ := hrel
    by_cases hlt : k9 < xs.length
    · obtain ⟨g, x, rfl, hx, -, -, hcc⟩ := FL.elem InstD.len (HV.out.on hb) hlt
      have hcx := Lib.hid ((hb.cell (p := ⟨kb, 0, none⟩) hkb).trans HC.out)
      have hkx := Lib.hid (Nat.lt_of_lt_of_le hkb hb.size)
      have Hx := Lib.hid hx
      have hk8 : k9 < 9223372036854775807 := by omega
      clear hx
      cases hok : instB x k with
      | true =>
        have HI2 := Lib.hid (any_step HI.out Hx.out (p := fun x => !(instB x k)) (by simp [hok]))
        obtain ⟨a0, a1, a2, a3, a4, a5, a6, a7⟩ := x
        have f0 : wr.cell? ⟨g, k9 * 8, none⟩ = some (.int .i64 a0) := hcc 0 _ rfl
        have f1 : wr.cell? ⟨g, k9 * 8 + 1, none⟩ = some (.int .i64 a1) := hcc 1 _ rfl
        have f2 : wr.cell? ⟨g, k9 * 8 + 2, none⟩ = some (.int .i64 a2) := hcc 2 _ rfl
        have f3 : wr.cell? ⟨g, k9 * 8 + 3, none⟩ = some (.int .i64 a3) := hcc 3 _ rfl
        have f4 : wr.cell? ⟨g, k9 * 8 + 4, none⟩ = some (.int .i64 a4) := hcc 4 _ rfl
        have f5 : wr.cell? ⟨g, k9 * 8 + 5, none⟩ = some (.int .i64 a5) := hcc 5 _ rfl
        have f6 : wr.cell? ⟨g, k9 * 8 + 6, none⟩ = some (.int .i64 a6) := hcc 6 _ rfl
        have f7 : wr.cell? ⟨g, k9 * 8 + 7, none⟩ = some (.int .i64 a7) := hcc 7 _ rfl
        clear hcc
        go_wp2_with fail
        refine (cloInstance_any ⟨a0, a1, a2, a3, a4, a5, a6, a7⟩ _ k kb hk hcx.out hkx.out).mono ?_
        rintro e w2 ⟨rfl, hb2⟩
        rw [hok]
        go_wp2
        exact ⟨⟨k9 + 1, by omega, by go_num, HI2, hb.trans (hb2.mono hb.size)⟩, by simp [intOf]; omega⟩
      | false =>
        have Hhit := Lib.hid (idxF_hit HI.out Hx.out (p := fun x => !(instB x k)) (by simp [hok]))
        obtain ⟨a0, a1, a2, a3, a4, a5, a6, a7⟩ := x
        have f0 : wr.cell? ⟨g, k9 * 8, none⟩ = some (.int .i64 a0) := hcc 0 _ rfl
        have f1 : wr.cell? ⟨g, k9 * 8 + 1, none⟩ = some (.int .i64 a1) := hcc 1 _ rfl
        have f2 : wr.cell? ⟨g, k9 * 8 + 2, none⟩ = some (.int .i64 a2) := hcc 2 _ rfl
        have f3 : wr.cell? ⟨g, k9 * 8 + 3, none⟩ = some (.int .i64 a3) := hcc 3 _ rfl
        have f4 : wr.cell? ⟨g, k9 * 8 + 4, none⟩ = some (.int .i64 a4) := hcc 4 _ rfl
        have f5 : wr.cell? ⟨g, k9 * 8 + 5, none⟩ = some (.int .i64 a5) := hcc 5 _ rfl
        have f6 : wr.cell? ⟨g, k9 * 8 + 6, none⟩ = some (.int .i64 a6) := hcc 6 _ rfl
        have f7 : wr.cell? ⟨g, k9 * 8 + 7, none⟩ = some (.int .i64 a7) := hcc 7 _ rfl
        clear hcc
        go_wp2_with fail
        refine (cloInstance_any ⟨a0, a1, a2, a3, a4, a5, a6, a7⟩ _ k kb hk hcx.out hkx.out).mono ?_
        rintro e w2 ⟨rfl, hb2⟩
        rw [hok]
        go_wp2
        go_ret
        exact ⟨by rw [Hhit.out]; rfl, hb.trans (hb2.mono hb.size)⟩
    · obtain rfl : k9 = xs.length := by omega
      have HE := Lib.hid (idxF_none (p := fun x => !(instB x k)) (xs := xs) (by have := HI.out; rwa [List.take_length] at this))
      go_wp2
      go_ret
      exact ⟨by rw [HE.out]; rfl, hb⟩

theorem hasInstance_any (v : Value) (xs : List InstD) (w : World) (hv : InL w 0 v xs) (k : Int) (kb : Nat) (hk : 0 ≤ k ∧ k ≤ 1000) (hc : w.cell? ⟨kb, 0, none⟩ = some (.int .i64 k)) (hkb : kb < w.heap.size) :
    Calls Tryz.prog 96 #[v, .func (.func 97) #[] #[.pointer (some ⟨kb, 0, none⟩)]] w fun e w' => e = .returned (.bool (xs.any (fun x => !(instB x k)))) ∧ Below w.heap.size w w' := by
  have he := Lib.hid (idxF_pos (fun x => !(instB x k)) xs)
  go_enter Tryz.func96, Tryz.ntmps96
  go_wp2_with fail
  refine (idxInstance_any v xs _ hv k kb hk hc hkb).mono ?_
  rintro e w1 ⟨rfl, hb1⟩
  generalize hgi : idxF (fun x => !(instB x k)) xs = z at *
  clear hgi
  go_wp2
  go_ret
  exact ⟨ret_bool he.out, hb1⟩


end Go.Proofs.YtgegbgkokkdmpaaGreat
