/- Contracts: are all rectangles of a list valid, and not too many? (the program's validRects, the reference's l03Valid); are two lists equal (slices.Equal, l03Same)? No conditions. -/
import Derived.Test.YthifinolgbjekaaStructEq
namespace Go.Proofs.Ythifinolgbjekaa
open Go.RowKit

/-- The four cells of an element that is known. -/
theorem RL.four {w : World} {B g n c : Nat} {rs : List Rc} (h : RL w B (.slice (some ⟨g, 0, none⟩) n c) rs) {k : Nat} {x0 y0 x1 y1 : Int} (hr : rs[k]? = some ⟨x0, y0, x1, y1⟩) :
    w.cell? ⟨g, k * 4, none⟩ = some (.int .i64 x0) ∧ w.cell? ⟨g, k * 4 + 1, none⟩ = some (.int .i64 y0) ∧ w.cell? ⟨g, k * 4 + 2, none⟩ = some (.int .i64 x1) ∧ w.cell? ⟨g, k * 4 + 3, none⟩ = some (.int .i64 y1) := by
  obtain ⟨A', c', e, _, _, hf⟩ := h.form
  simp only [Value.slice.injEq] at e
  obtain ⟨g', hA, _, hg, h0, h1, h2, h3⟩ := hf k _ hr
  rw [← e.1] at hA
  simp only [Option.some.injEq, Addr.mk.injEq, and_true] at hA
  subst hA
  exact ⟨h0, h1, h2, h3⟩

def validL (rs : List Rc) : Bool := decide (rs.length ≤ 3200) && okAll rs
theorem validL_iff (rs : List Rc) : validL rs = true ↔ rs.length ≤ 3200 ∧ okAll rs = true := by simp [validL]
theorem okAll_take_succ {rs : List Rc} {k : Nat} {r : Rc} (h : rs[k]? = some r) : okAll (rs.take (k + 1)) = (okAll (rs.take k) && okRc r) := by
  rw [List.take_add_one, h]
  simp [okAll, List.all_append]
theorem okAll_no {rs : List Rc} {k : Nat} {r : Rc} (h : rs[k]? = some r) (hr : okRc r = false) : okAll rs = false := by
  rw [Bool.eq_false_iff]
  intro hall
  rw [okAll, List.all_eq_true] at hall
  have := hall r (List.mem_of_getElem? h)
  rw [hr] at this
  cases this
theorem okAll_get {rs : List Rc} (h : okAll rs = true) {k : Nat} {r : Rc} (hk : rs[k]? = some r) : okRc r = true := by
  rw [okAll, List.all_eq_true] at h
  exact h r (List.mem_of_getElem? hk)

set_option maxHeartbeats 400000 in
/-- l03Valid. -/
theorem l03Valid_any (v : Value) (rs : List Rc) (w : World) (hv : RL w 0 v rs) : Calls Try.prog 88 #[v] w fun e w' => e = .returned (.bool (validL rs)) ∧ Below w.heap.size w w' := by
  obtain ⟨A, c, rfl, hc, hm, -⟩ := hv.form
  by_cases h32 : rs.length ≤ 3200
  · go_enter Try.func88, Try.ntmps88
    go_wp2
    go_loopw [3] (fun i wr => ∃ k : Nat, k ≤ rs.length ∧ i = .int .i64 k ∧ Hid (okAll (rs.take k) = true) ∧ Below w.heap.size w wr) (fun i _ => rs.length - (intOf i).toNat)
    case atStart => exact ⟨0, Nat.zero_le _, rfl, Lib.hid rfl, Below.refl _ _⟩
    case round =>
      obtain ⟨k, hk, rfl, hok, hb⟩ := hrel
      by_cases hlt : k < rs.length
      · obtain ⟨g, x0, y0, x1, y1, rfl, hr, hg, f0, f1, f2, f3⟩ := (hv.on hb).elem hlt
        have Hr := Lib.hid hr
        clear hr
        go_wp2_with (go_at_call 114; refine (valid_spec ⟨x0, y0, x1, y1⟩ _).mono ?_; rintro e w1 ⟨rfl, hb1⟩)
        · have h0 : (!okRc ⟨x0, y0, x1, y1⟩) = true := by assumption
          go_ret
          refine ⟨ret_bool ?_, hb.trans (hb1.mono hb.size)⟩
          rw [validL, okAll_no Hr.out (by simpa using h0), Bool.and_false]
        · have h0 : (!okRc ⟨x0, y0, x1, y1⟩) = false := by assumption
          refine ⟨⟨k + 1, by omega, by go_num, Lib.hid ?_, hb.trans (hb1.mono hb.size)⟩, by simp [intOf]; omega⟩
          rw [okAll_take_succ Hr.out, hok.out]
          simpa using h0
      · go_wp2
        go_ret
        refine ⟨ret_bool ?_, hb⟩
        have := hok.out
        rw [List.take_of_length_le (by omega)] at this
        simp [validL, h32, this]
  · go_enter Try.func88, Try.ntmps88
    go_wp2
    go_ret
    exact ⟨ret_bool (by simp [validL, h32]), Below.refl _ _⟩

set_option maxHeartbeats 400000 in
/-- validRects. -/
theorem validRects_any (v : Value) (rs : List Rc) (w : World) (hv : RL w 0 v rs) : Calls Try.prog 95 #[v] w fun e w' => e = .returned (.bool (validL rs)) ∧ Below w.heap.size w w' := by
  obtain ⟨A, c, rfl, hc, hm, -⟩ := hv.form
  by_cases h32 : rs.length ≤ 3200
  · go_enter Try.func95, Try.ntmps95
    go_wp2
    go_loopw [10] (fun i wr => ∃ k : Nat, k ≤ rs.length ∧ i = .int .i64 k ∧ Hid (okAll (rs.take k) = true) ∧ Below w.heap.size w wr) (fun i _ => rs.length - (intOf i).toNat)
    case atStart => exact ⟨0, Nat.zero_le _, rfl, Lib.hid rfl, Below.refl _ _⟩
    case round =>
      obtain ⟨k, hk, rfl, hok, hb⟩ := hrel
      by_cases hlt : k < rs.length
      · obtain ⟨g, x0, y0, x1, y1, rfl, hr, hg, f0, f1, f2, f3⟩ := (hv.on hb).elem hlt
        have Hr := Lib.hid hr
        clear hr
        go_wp2_with (go_at_call 98; refine (valid_impl ⟨x0, y0, x1, y1⟩ _).mono ?_; rintro e w1 ⟨rfl, hb1⟩)
        · have h0 : (!okRc ⟨x0, y0, x1, y1⟩) = true := by assumption
          go_ret
          refine ⟨ret_bool ?_, (hb.alloc hb.size _).trans (hb1.mono (by simp; have := hb.size; omega))⟩
          rw [validL, okAll_no Hr.out (by simpa using h0), Bool.and_false]
        · have h0 : (!okRc ⟨x0, y0, x1, y1⟩) = false := by assumption
          refine ⟨⟨k + 1, by omega, by go_num, Lib.hid ?_, (hb.alloc hb.size _).trans (hb1.mono (by simp; have := hb.size; omega))⟩, by simp [intOf]; omega⟩
          rw [okAll_take_succ Hr.out, hok.out]
          simpa using h0
      · go_wp2
        go_ret
        refine ⟨ret_bool ?_, hb⟩
        have := hok.out
        rw [List.take_of_length_le (by omega)] at this
        simp [validL, h32, this]
  · go_enter Try.func95, Try.ntmps95
    go_wp2
    go_ret
    exact ⟨ret_bool (by simp [validL, h32]), Below.refl _ _⟩

/-- Two lists are equal. -/
def eqL (rs qs : List Rc) : Bool := decide (rs = qs)
theorem eqL_iff (rs qs : List Rc) : eqL rs qs = true ↔ rs = qs := by simp [eqL]
theorem take_succ_eq {α : Type} {a b : List α} {k : Nat} {x y : α} (h : a.take k = b.take k) (ha : a[k]? = some x) (hb : b[k]? = some y) (e : x = y) : a.take (k + 1) = b.take (k + 1) := by
  rw [List.take_add_one, List.take_add_one, h, ha, hb, e]
theorem ne_at {α : Type} {a b : List α} {k : Nat} {x y : α} (ha : a[k]? = some x) (hb : b[k]? = some y) (e : x ≠ y) : a ≠ b := by
  rintro rfl
  rw [ha] at hb
  exact e (Option.some.inj hb)

set_option maxHeartbeats 400000 in
set_option maxRecDepth 100000 in
/-- l03Same. -/
theorem l03Same_any (v u : Value) (rs qs : List Rc) (w : World) (hv : RL w 0 v rs) (hu : RL w 0 u qs) : Calls Try.prog 90 #[v, u] w fun e w' => e = .returned (.bool (eqL rs qs)) ∧ Below w.heap.size w w' := by
  obtain ⟨A, c, rfl, hc, hm, -⟩ := hv.form
  obtain ⟨A2, c2, rfl, hc2, hm2, -⟩ := hu.form
  unfold maxLen at hm hm2
  by_cases hl : rs.length = qs.length
  · have Hl := Lib.hid hl
    rw [hl] at hc ⊢
    clear hl
    go_enter Try.func90, Try.ntmps90
    go_wp2
    go_loopw [5] (fun i wr => ∃ k : Nat, k ≤ qs.length ∧ i = .int .i64 k ∧ Hid (rs.take k = qs.take k) ∧ Below w.heap.size w wr) (fun i _ => qs.length - (intOf i).toNat)
    case atStart => exact ⟨0, Nat.zero_le _, rfl, Lib.hid rfl, Below.refl _ _⟩
    case round =>
      obtain ⟨k, hk, rfl, hok, hb⟩ := hrel
      by_cases hlt : k < qs.length
      · obtain ⟨g, x0, y0, x1, y1, hA, hr, hg, f0, f1, f2, f3⟩ := (hv.on hb).elem (k := k) (by rw [Hl.out]; exact hlt)
        obtain ⟨g', x0', y0', x1', y1', hA', hr', hg', f0', f1', f2', f3'⟩ := (hu.on hb).elem hlt
        subst hA hA'
        have Hr := Lib.hid hr
        have Hr' := Lib.hid hr'
        clear hr hr' hv hu
        go_wp2
        go_quiet (fail)
        go_wp2
        · have h0 : (!eqRc ⟨x0, y0, x1, y1⟩ ⟨x0', y0', x1', y1'⟩) = true := by assumption
          go_ret
          refine ⟨ret_bool ?_, below_drewN hb _⟩
          have hne := (eqRc_no _ _).1 (by simpa using h0)
          exact (decide_eq_false (ne_at Hr.out Hr'.out hne)).symm
        · have h0 : (!eqRc ⟨x0, y0, x1, y1⟩ ⟨x0', y0', x1', y1'⟩) = false := by assumption
          have heq := (eqRc_iff _ _).1 (by simpa using h0)
          refine ⟨⟨k + 1, by omega, by go_num, Lib.hid (take_succ_eq hok.out Hr.out Hr'.out heq), below_drewN hb _⟩, by simp [intOf]; omega⟩
      · go_wp2
        go_ret
        refine ⟨ret_bool ?_, hb⟩
        have h1 := hok.out
        have h2 := Hl.out
        rw [List.take_of_length_le (by omega), List.take_of_length_le (by omega)] at h1
        simp [eqL, h1]
  · have hne : ((rs.length : Int) != (qs.length : Int)) = true := by rw [bne_iff_ne]; omega
    go_enter Try.func90, Try.ntmps90
    go_wp2
    go_ret
    refine ⟨ret_bool ?_, Below.refl _ _⟩
    exact (decide_eq_false (fun e => hl (by rw [e]))).symm

set_option maxHeartbeats 400000 in
set_option maxRecDepth 100000 in
/-- slices.Equal. -/
theorem slicesEqual_any (v u : Value) (rs qs : List Rc) (w : World) (hv : RL w 0 v rs) (hu : RL w 0 u qs) : Calls Try.prog 96 #[v, u] w fun e w' => e = .returned (.bool (eqL rs qs)) ∧ Below w.heap.size w w' := by
  obtain ⟨A, c, rfl, hc, hm, -⟩ := hv.form
  obtain ⟨A2, c2, rfl, hc2, hm2, -⟩ := hu.form
  unfold maxLen at hm hm2
  by_cases hl : rs.length = qs.length
  · have Hl := Lib.hid hl
    rw [hl] at hc ⊢
    clear hl
    go_enter Try.func96, Try.ntmps96
    go_wp2
    go_loopw [13] (fun i wr => ∃ k : Nat, k ≤ qs.length ∧ i = .int .i64 k ∧ Hid (rs.take k = qs.take k) ∧ Below w.heap.size w wr) (fun i _ => qs.length - (intOf i).toNat)
    case atStart => exact ⟨0, Nat.zero_le _, rfl, Lib.hid rfl, Below.refl _ _⟩
    case round =>
      obtain ⟨k, hk, rfl, hok, hb⟩ := hrel
      by_cases hlt : k < qs.length
      · obtain ⟨g, x0, y0, x1, y1, hA, hr, hg, f0, f1, f2, f3⟩ := (hv.on hb).elem (k := k) (by rw [Hl.out]; exact hlt)
        obtain ⟨g', x0', y0', x1', y1', hA', hr', hg', f0', f1', f2', f3'⟩ := (hu.on hb).elem hlt
        subst hA hA'
        have Hr := Lib.hid hr
        have Hr' := Lib.hid hr'
        clear hr hr' hv hu
        go_wp2
        go_quiet (fail)
        go_wp2
        · have h0 : (!eqRc ⟨x0, y0, x1, y1⟩ ⟨x0', y0', x1', y1'⟩) = true := by assumption
          go_ret
          refine ⟨ret_bool ?_, below_drewN hb _⟩
          have hne := (eqRc_no _ _).1 (by simpa using h0)
          exact (decide_eq_false (ne_at Hr.out Hr'.out hne)).symm
        · have h0 : (!eqRc ⟨x0, y0, x1, y1⟩ ⟨x0', y0', x1', y1'⟩) = false := by assumption
          have heq := (eqRc_iff _ _).1 (by simpa using h0)
          refine ⟨⟨k + 1, by omega, by go_num, Lib.hid (take_succ_eq hok.out Hr.out Hr'.out heq), below_drewN hb _⟩, by simp [intOf]; omega⟩
      · go_wp2
        go_ret
        refine ⟨ret_bool ?_, hb⟩
        have h1 := hok.out
        have h2 := Hl.out
        rw [List.take_of_length_le (by omega), List.take_of_length_le (by omega)] at h1
        simp [eqL, h1]
  · have hne : ((rs.length : Int) != (qs.length : Int)) = true := by rw [bne_iff_ne]; omega
    go_enter Try.func96, Try.ntmps96
    go_wp2
    go_ret
    refine ⟨ret_bool ?_, Below.refl _ _⟩
    exact (decide_eq_false (fun e => hl (by rw [e]))).symm

end Go.Proofs.Ythifinolgbjekaa
