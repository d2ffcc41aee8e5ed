/- Contracts: which names, shapes, labels, instances are valid: the program's functions and the reference's. No conditions but that a string's length is a length. -/
import Derived.Test.YtgegbgkokkdmpaaGreatQ09

namespace Go.Proofs.YtgegbgkokkdmpaaGreat
open Go.RowKit

def byteOk (b : UInt8) : Bool := decide ((97 ≤ (b.toNat : Int) ∧ (b.toNat : Int) ≤ 122) ∨ (48 ≤ (b.toNat : Int) ∧ (b.toNat : Int) ≤ 57))
def nameB (s : ByteArray) : Bool := s.data.toList.all byteOk && decide (1 ≤ (s.size : Int)) && decide ((s.size : Int) ≤ 8)
theorem take_snoc (s : ByteArray) (k : Nat) (h : k < s.size) : s.data.toList.take (k + 1) = s.data.toList.take k ++ [s[k]] := by
  rw [List.take_succ_eq_append_getElem (by simpa using h)]; rfl
theorem take_all (s : ByteArray) : s.data.toList.take s.size = s.data.toList := List.take_of_length_le (by simp)
theorem name_bad {s : ByteArray} {k : Nat} (h : k < s.size) (hb : byteOk s[k] = false) : nameB s = false := by
  have : s.data.toList.all byteOk = false := by
    rw [Bool.eq_false_iff]
    intro hc
    have := List.all_eq_true.1 hc s[k] (by
      have := take_snoc s k h
      exact List.mem_of_mem_take (i := k + 1) (by rw [this]; simp))
    rw [hb] at this
    cases this
  unfold nameB
  rw [this]
  rfl


set_option maxHeartbeats 800000 in
set_option maxRecDepth 100000 in
theorem isName_impl (s : ByteArray) (w : World) (hs : s.size ≤ maxLen) : Calls Tryz.prog 89 #[.string s] w fun e w' => e = .returned (.bool (nameB s)) ∧ w = w' := by
  unfold maxLen at hs
  go_enter Tryz.func89, Tryz.ntmps89
  go_wp2
  go_loop [3] (fun iv => ∃ k : Nat, k ≤ s.size ∧ iv = .int .i64 k ∧ Hid ((s.data.toList.take k).all byteOk = true)) (fun iv => s.size - (intOf iv).toNat)
  case atStart => exact ⟨0, Nat.zero_le _, rfl, Lib.hid rfl⟩
  case round =>
    obtain ⟨k, hk, rfl, Hall⟩ := hrel
    by_cases hlt : k < s.size
    · cases hB : byteOk s[k] with
      | false =>
        have HN := Lib.hid (name_bad hlt hB)
        have hb2 := of_decide_eq_false (show decide _ = false from hB)
        clear hB
        by_cases h1 : (s[k].toNat : Int) < 97
        · have g1 : ¬ 97 ≤ (s[k].toNat : Int) := by omega
          by_cases h2 : (s[k].toNat : Int) < 48
          · have g2 : ¬ 48 ≤ (s[k].toNat : Int) := by omega
            go_wp2
            go_ret
            exact ⟨by rw [HN.out]; rfl, rfl⟩
          · have h3 : 57 < (s[k].toNat : Int) := by omega
            have g2 : 48 ≤ (s[k].toNat : Int) := by omega
            have g3 : ¬ (s[k].toNat : Int) ≤ 57 := by omega
            go_wp2
            go_ret
            exact ⟨by rw [HN.out]; rfl, rfl⟩
        · have h3 : 122 < (s[k].toNat : Int) := by omega
          have h4 : ¬ (s[k].toNat : Int) < 48 := by omega
          have h5 : 57 < (s[k].toNat : Int) := by omega
          have g1 : 97 ≤ (s[k].toNat : Int) := by omega
          have g2 : ¬ (s[k].toNat : Int) ≤ 122 := by omega
          have g3 : 48 ≤ (s[k].toNat : Int) := by omega
          have g4 : ¬ (s[k].toNat : Int) ≤ 57 := by omega
          go_wp2
          go_ret
          exact ⟨by rw [HN.out]; rfl, rfl⟩
      | true =>
        have Hst := Lib.hid (show (s.data.toList.take (k + 1)).all byteOk = true by rw [take_snoc s k hlt, List.all_append, Hall.out]; simp [hB])
        have hb2 := of_decide_eq_true (show decide _ = true from hB)
        clear hB
        by_cases h1 : (s[k].toNat : Int) < 97
        · have h2 : ¬ (s[k].toNat : Int) < 48 := by omega
          have h3 : ¬ 57 < (s[k].toNat : Int) := by omega
          have g1 : ¬ 97 ≤ (s[k].toNat : Int) := by omega
          have g2 : 48 ≤ (s[k].toNat : Int) := by omega
          have g3 : (s[k].toNat : Int) ≤ 57 := by omega
          go_wp2
          go_round
          case rel => exact ⟨k + 1, by omega, by go_num, Hst⟩
          case measure => simp [intOf]; omega
        · have h2 : ¬ 122 < (s[k].toNat : Int) := by omega
          have g1 : 97 ≤ (s[k].toNat : Int) := by omega
          have g2 : (s[k].toNat : Int) ≤ 122 := by omega
          go_wp2
          go_round
          case rel => exact ⟨k + 1, by omega, by go_num, Hst⟩
          case measure => simp [intOf]; omega
    · obtain rfl : k = s.size := by omega
      have HA := Lib.hid (show s.data.toList.all byteOk = true by rw [← take_all]; exact Hall.out)
      clear Hall
      by_cases h1 : 1 ≤ (s.size : Int)
      · by_cases h2 : (s.size : Int) ≤ 8
        · go_wp2
          go_ret
          exact ⟨by rw [nameB, HA.out, decide_eq_true h1, decide_eq_true h2]; rfl, rfl⟩
        · go_wp2
          go_ret
          exact ⟨by rw [nameB, HA.out, decide_eq_true h1, decide_eq_false (by omega)]; rfl, rfl⟩
      · go_wp2
        go_ret
        exact ⟨by rw [nameB, HA.out, decide_eq_false (by omega)]; rfl, rfl⟩


set_option maxHeartbeats 800000 in
set_option maxRecDepth 100000 in
theorem isName_spec (s : ByteArray) (w : World) (hs : s.size ≤ maxLen) : Calls Tryz.prog 78 #[.string s] w fun e w' => e = .returned (.bool (nameB s)) ∧ w = w' := by
  unfold maxLen at hs
  go_enter Tryz.func78, Tryz.ntmps78
  go_wp2
  go_loop [3] (fun iv => ∃ k : Nat, k ≤ s.size ∧ iv = .int .i64 k ∧ Hid ((s.data.toList.take k).all byteOk = true)) (fun iv => s.size - (intOf iv).toNat)
  case atStart => exact ⟨0, Nat.zero_le _, rfl, Lib.hid rfl⟩
  case round =>
    obtain ⟨k, hk, rfl, Hall⟩ := hrel
    by_cases hlt : k < s.size
    · cases hB : byteOk s[k] with
      | false =>
        have HN := Lib.hid (name_bad hlt hB)
        have hb2 := of_decide_eq_false (show decide _ = false from hB)
        clear hB
        by_cases h1 : (s[k].toNat : Int) < 97
        · have g1 : ¬ 97 ≤ (s[k].toNat : Int) := by omega
          by_cases h2 : (s[k].toNat : Int) < 48
          · have g2 : ¬ 48 ≤ (s[k].toNat : Int) := by omega
            go_wp2
            go_ret
            exact ⟨by rw [HN.out]; rfl, rfl⟩
          · have h3 : 57 < (s[k].toNat : Int) := by omega
            have g2 : 48 ≤ (s[k].toNat : Int) := by omega
            have g3 : ¬ (s[k].toNat : Int) ≤ 57 := by omega
            go_wp2
            go_ret
            exact ⟨by rw [HN.out]; rfl, rfl⟩
        · have h3 : 122 < (s[k].toNat : Int) := by omega
          have h4 : ¬ (s[k].toNat : Int) < 48 := by omega
          have h5 : 57 < (s[k].toNat : Int) := by omega
          have g1 : 97 ≤ (s[k].toNat : Int) := by omega
          have g2 : ¬ (s[k].toNat : Int) ≤ 122 := by omega
          have g3 : 48 ≤ (s[k].toNat : Int) := by omega
          have g4 : ¬ (s[k].toNat : Int) ≤ 57 := by omega
          go_wp2
          go_ret
          exact ⟨by rw [HN.out]; rfl, rfl⟩
      | true =>
        have Hst := Lib.hid (show (s.data.toList.take (k + 1)).all byteOk = true by rw [take_snoc s k hlt, List.all_append, Hall.out]; simp [hB])
        have hb2 := of_decide_eq_true (show decide _ = true from hB)
        clear hB
        by_cases h1 : (s[k].toNat : Int) < 97
        · have h2 : ¬ (s[k].toNat : Int) < 48 := by omega
          have h3 : ¬ 57 < (s[k].toNat : Int) := by omega
          have g1 : ¬ 97 ≤ (s[k].toNat : Int) := by omega
          have g2 : 48 ≤ (s[k].toNat : Int) := by omega
          have g3 : (s[k].toNat : Int) ≤ 57 := by omega
          go_wp2
          go_round
          case rel => exact ⟨k + 1, by omega, by go_num, Hst⟩
          case measure => simp [intOf]; omega
        · have h2 : ¬ 122 < (s[k].toNat : Int) := by omega
          have g1 : 97 ≤ (s[k].toNat : Int) := by omega
          have g2 : (s[k].toNat : Int) ≤ 122 := by omega
          go_wp2
          go_round
          case rel => exact ⟨k + 1, by omega, by go_num, Hst⟩
          case measure => simp [intOf]; omega
    · obtain rfl : k = s.size := by omega
      have HA := Lib.hid (show s.data.toList.all byteOk = true by rw [← take_all]; exact Hall.out)
      clear Hall
      by_cases h1 : 1 ≤ (s.size : Int)
      · by_cases h2 : (s.size : Int) ≤ 8
        · go_wp2
          go_ret
          exact ⟨by rw [nameB, HA.out, decide_eq_true h1, decide_eq_true h2]; rfl, rfl⟩
        · go_wp2
          go_ret
          exact ⟨by rw [nameB, HA.out, decide_eq_true h1, decide_eq_false (by omega)]; rfl, rfl⟩
      · go_wp2
        go_ret
        exact ⟨by rw [nameB, HA.out, decide_eq_false (by omega)]; rfl, rfl⟩


def shapeB (s : ShapeD) : Bool := inB 0 s.layer 7 && okRc s.box
def labelB (l : LabelD) : Bool := inB 0 l.layer 7 && onC l.x l.y && nameB l.name
def transB (o x y : Int) : Bool := inB 0 o 7 && inB (-80) x 80 && inB (-80) y 80
def stepB (s n : Int) : Bool := decide (s = 0) || decide (1 < n)
def instB (i : InstD) (k : Int) : Bool := inB 0 i.cell (k - 1) && transB i.o i.x i.y && inB 1 i.cols 4 && inB 1 i.rows 4 && inB (-80) i.sx 80 && inB (-80) i.sy 80 && stepB i.sx i.cols && stepB i.sy i.rows
theorem stepB_no {s n : Int} (h : stepB s n = false) : (s == 0) = false ∧ ¬ 1 < n := by simpa [stepB] using h
theorem stepB_yes {s n : Int} (h : stepB s n = true) : (s == 0) = true ∨ ((s == 0) = false ∧ 1 < n) := by
  have : s = 0 ∨ 1 < n := by simpa [stepB] using h
  by_cases hs : s = 0
  · exact .inl (by simpa using hs)
  · exact .inr ⟨by simpa using hs, by rcases this with h | h; exact absurd h hs; exact h⟩

theorem l09In_any (x lo hi : Int) (w : World) : Calls Tryz.prog 69 #[.int .i64 x, .int .i64 lo, .int .i64 hi] w fun e w' => e = .returned (.bool (inB lo x hi)) ∧ w = w' := by
  by_cases h1 : lo ≤ x
  · by_cases h2 : x ≤ hi
    · rw [(inB_iff lo x hi).2 ⟨h1, h2⟩]
      go_enter Tryz.func69, Tryz.ntmps69
      go_wp2
      go_ret
      exact ⟨rfl, rfl⟩
    · rw [(inB_no lo x hi).2 (fun h => h2 h.2)]
      go_enter Tryz.func69, Tryz.ntmps69
      go_wp2
      go_ret
      exact ⟨rfl, rfl⟩
  · rw [(inB_no lo x hi).2 (fun h => h1 h.1)]
    go_enter Tryz.func69, Tryz.ntmps69
    go_wp2
    go_ret
    exact ⟨rfl, rfl⟩
theorem l09Layer_any (x : Int) (w : World) : Calls Tryz.prog 87 #[.int .i64 x] w fun e w' => e = .returned (.bool (inB 0 x 7)) ∧ w = w' := by
  go_enter Tryz.func87, Tryz.ntmps87
  go_wp2_with (go_at_call 69; refine (l09In_any _ _ _ _).mono ?_; rintro e w1 ⟨rfl, rfl⟩)
  go_ret
  exact ⟨rfl, rfl⟩


theorem bcellN {W w1 : World} {n : Nat} (hb : Below W.heap.size W w1) (hn : n ≤ W.heap.size) : (∀ b o, b < n → w1.cell? ⟨b, o, none⟩ = W.cell? ⟨b, o, none⟩) ∧ (∀ b o, b < n → w1.frozen? ⟨b, o, none⟩ = W.frozen? ⟨b, o, none⟩) :=
  ⟨fun b o h => hb.cell (p := ⟨b, o, none⟩) (Nat.lt_of_lt_of_le h hn), fun b o h => hb.frozen (p := ⟨b, o, none⟩) (Nat.lt_of_lt_of_le h hn)⟩

set_option maxHeartbeats 1600000 in
set_option maxRecDepth 100000 in
theorem shape_impl (s : ShapeD) (w : World) : Calls Tryz.prog 92 #[.agg #[.int .i64 s.layer, .int .i64 s.box.x0, .int .i64 s.box.y0, .int .i64 s.box.x1, .int .i64 s.box.y1]] w fun e w' => e = .returned (.bool (shapeB s)) ∧ Below w.heap.size w w' := by
  have b0 := (Below.refl w.heap.size w).alloc (Nat.le_refl _) (.cells #[.int .i64 s.layer, .int .i64 s.box.x0, .int .i64 s.box.y0, .int .i64 s.box.x1, .int .i64 s.box.y1] 70)
  cases h1 : inB 0 s.layer 7 with
  | false =>
    have e0 : shapeB s = false := by simp [shapeB, h1]
    rw [e0]
    clear e0
    have HB : ∀ w9, Below w.heap.size w w9 → True := fun _ _ => trivial
    clear HB
    go_enter Tryz.func92, Tryz.ntmps92
    go_wp2_with (first
      | (go_at_call 35; refine (within_any _ _ _ _).mono ?_; rintro e w0 ⟨rfl, rfl⟩; (first | rw [h1] | skip))
      | (go_at_call 55; refine (valid_impl s.box _).mono ?_; rintro e w1 ⟨rfl, hbb⟩; have b0 := b0.trans (hbb.mono b0.size); obtain ⟨hc1, hf1⟩ := bcellN hbb (n := w.heap.size + 1) (by first | (simp; done) | (simp; omega) | omega); (first | rw [h1] | skip)))
    all_goals
      go_ret
      exact ⟨by first | rfl | simp_all, by first | exact b0 | exact b0.trans (hbb.mono b0.size)⟩
  | true =>
    cases h2 : okRc s.box with
    | false =>
      have e0 : shapeB s = false := by simp [shapeB, h1, h2]
      rw [e0]
      clear e0
      have HB : ∀ w9, Below w.heap.size w w9 → True := fun _ _ => trivial
      clear HB
      go_enter Tryz.func92, Tryz.ntmps92
      go_wp2_with (first
        | (go_at_call 35; refine (within_any _ _ _ _).mono ?_; rintro e w0 ⟨rfl, rfl⟩; (first | rw [h1] | rw [h2] | skip))
        | (go_at_call 55; refine (valid_impl s.box _).mono ?_; rintro e w1 ⟨rfl, hbb⟩; have b0 := b0.trans (hbb.mono b0.size); obtain ⟨hc1, hf1⟩ := bcellN hbb (n := w.heap.size + 1) (by first | (simp; done) | (simp; omega) | omega); (first | rw [h1] | rw [h2] | skip)))
      all_goals
        go_ret
        exact ⟨by first | rfl | simp_all, by first | exact b0 | exact b0.trans (hbb.mono b0.size)⟩
    | true =>
      have e0 : shapeB s = true := by simp [shapeB, h1, h2]
      rw [e0]
      clear e0
      have HB : ∀ w9, Below w.heap.size w w9 → True := fun _ _ => trivial
      clear HB
      go_enter Tryz.func92, Tryz.ntmps92
      go_wp2_with (first
        | (go_at_call 35; refine (within_any _ _ _ _).mono ?_; rintro e w0 ⟨rfl, rfl⟩; (first | rw [h1] | rw [h2] | skip))
        | (go_at_call 55; refine (valid_impl s.box _).mono ?_; rintro e w1 ⟨rfl, hbb⟩; have b0 := b0.trans (hbb.mono b0.size); obtain ⟨hc1, hf1⟩ := bcellN hbb (n := w.heap.size + 1) (by first | (simp; done) | (simp; omega) | omega); (first | rw [h1] | rw [h2] | skip)))
      all_goals
        go_ret
        exact ⟨by first | rfl | simp_all, by first | exact b0 | exact b0.trans (hbb.mono b0.size)⟩

theorem okRc_eq (r : Rc) : okRc r = (decide (-40 ≤ r.x0) && decide (r.x0 < r.x1) && decide (r.x1 ≤ 40) && decide (-40 ≤ r.y0) && decide (r.y0 < r.y1) && decide (r.y1 ≤ 40)) := by rw [Bool.eq_iff_iff]; simp [okRc, and_assoc]
theorem onC_eq (x y : Int) : onC x y = (inB (-40) x 39 && inB (-40) y 39) := by rw [Bool.eq_iff_iff]; simp [onC, inB]; omega

set_option maxHeartbeats 1600000 in
set_option maxRecDepth 100000 in
theorem label_impl (l : LabelD) (w : World) (hn : l.name.size ≤ maxLen) : Calls Tryz.prog 95 #[.agg #[.int .i64 l.layer, .int .i64 l.x, .int .i64 l.y, .string l.name]] w fun e w' => e = .returned (.bool (labelB l)) ∧ Below w.heap.size w w' := by
  have b0 := (Below.refl w.heap.size w).alloc (Nat.le_refl _) (.cells #[.int .i64 l.layer, .int .i64 l.x, .int .i64 l.y, .string l.name] 121)
  cases h1 : inB 0 l.layer 7 with
  | false =>
    have e0 : labelB l = false := by simp [labelB, h1]
    rw [e0]
    clear e0
    have HB : ∀ w9, Below w.heap.size w w9 → True := fun _ _ => trivial
    clear HB
    go_enter Tryz.func95, Tryz.ntmps95
    go_wp2_with (first
      | (go_at_call 35; refine (within_any _ _ _ _).mono ?_; rintro e w0 ⟨rfl, rfl⟩; (first | rw [h1] | skip))
      | (go_at_call 103; refine (isUnitCell_any _ _ _).mono ?_; rintro e w1 ⟨rfl, hbb⟩; have b0 := b0.trans (hbb.mono b0.size); obtain ⟨hc1, hf1⟩ := bcellN hbb (n := w.heap.size + 1) (by first | (simp; done) | (simp; omega) | omega); (first | rw [h1] | skip))
      | (go_at_call 89; refine (isName_impl _ _ hn).mono ?_; rintro e w2 ⟨rfl, rfl⟩; (first | rw [h1] | skip)))
    all_goals
      go_ret
      exact ⟨by first | rfl | simp_all, by first | exact b0 | exact b0.trans (hbb.mono b0.size)⟩
  | true =>
    cases h2 : onC l.x l.y with
    | false =>
      have e0 : labelB l = false := by simp [labelB, h1, h2]
      rw [e0]
      clear e0
      have HB : ∀ w9, Below w.heap.size w w9 → True := fun _ _ => trivial
      clear HB
      go_enter Tryz.func95, Tryz.ntmps95
      go_wp2_with (first
        | (go_at_call 35; refine (within_any _ _ _ _).mono ?_; rintro e w0 ⟨rfl, rfl⟩; (first | rw [h1] | rw [h2] | skip))
        | (go_at_call 103; refine (isUnitCell_any _ _ _).mono ?_; rintro e w1 ⟨rfl, hbb⟩; have b0 := b0.trans (hbb.mono b0.size); obtain ⟨hc1, hf1⟩ := bcellN hbb (n := w.heap.size + 1) (by first | (simp; done) | (simp; omega) | omega); (first | rw [h1] | rw [h2] | skip))
        | (go_at_call 89; refine (isName_impl _ _ hn).mono ?_; rintro e w2 ⟨rfl, rfl⟩; (first | rw [h1] | rw [h2] | skip)))
      all_goals
        go_ret
        exact ⟨by first | rfl | simp_all, by first | exact b0 | exact b0.trans (hbb.mono b0.size)⟩
    | true =>
      cases h3 : nameB l.name with
      | false =>
        have e0 : labelB l = false := by simp [labelB, h1, h2, h3]
        rw [e0]
        clear e0
        have HB : ∀ w9, Below w.heap.size w w9 → True := fun _ _ => trivial
        clear HB
        go_enter Tryz.func95, Tryz.ntmps95
        go_wp2_with (first
          | (go_at_call 35; refine (within_any _ _ _ _).mono ?_; rintro e w0 ⟨rfl, rfl⟩; (first | rw [h1] | rw [h2] | rw [h3] | skip))
          | (go_at_call 103; refine (isUnitCell_any _ _ _).mono ?_; rintro e w1 ⟨rfl, hbb⟩; have b0 := b0.trans (hbb.mono b0.size); obtain ⟨hc1, hf1⟩ := bcellN hbb (n := w.heap.size + 1) (by first | (simp; done) | (simp; omega) | omega); (first | rw [h1] | rw [h2] | rw [h3] | skip))
          | (go_at_call 89; refine (isName_impl _ _ hn).mono ?_; rintro e w2 ⟨rfl, rfl⟩; (first | rw [h1] | rw [h2] | rw [h3] | skip)))
        all_goals
          go_ret
          exact ⟨by first | rfl | simp_all, by first | exact b0 | exact b0.trans (hbb.mono b0.size)⟩
      | true =>
        have e0 : labelB l = true := by simp [labelB, h1, h2, h3]
        rw [e0]
        clear e0
        have HB : ∀ w9, Below w.heap.size w w9 → True := fun _ _ => trivial
        clear HB
        go_enter Tryz.func95, Tryz.ntmps95
        go_wp2_with (first
          | (go_at_call 35; refine (within_any _ _ _ _).mono ?_; rintro e w0 ⟨rfl, rfl⟩; (first | rw [h1] | rw [h2] | rw [h3] | skip))
          | (go_at_call 103; refine (isUnitCell_any _ _ _).mono ?_; rintro e w1 ⟨rfl, hbb⟩; have b0 := b0.trans (hbb.mono b0.size); obtain ⟨hc1, hf1⟩ := bcellN hbb (n := w.heap.size + 1) (by first | (simp; done) | (simp; omega) | omega); (first | rw [h1] | rw [h2] | rw [h3] | skip))
          | (go_at_call 89; refine (isName_impl _ _ hn).mono ?_; rintro e w2 ⟨rfl, rfl⟩; (first | rw [h1] | rw [h2] | rw [h3] | skip)))
        all_goals
          go_ret
          exact ⟨by first | rfl | simp_all, by first | exact b0 | exact b0.trans (hbb.mono b0.size)⟩
set_option maxHeartbeats 1600000 in
set_option maxRecDepth 100000 in
theorem trans_impl (o x y : Int) (w : World) : Calls Tryz.prog 59 #[.agg #[.int .i64 o, .int .i64 x, .int .i64 y]] w fun e w' => e = .returned (.bool (transB o x y)) ∧ Below w.heap.size w w' := by
  have b0 := (Below.refl w.heap.size w).alloc (Nat.le_refl _) (.cells #[.int .i64 o, .int .i64 x, .int .i64 y] 72)
  cases h1 : inB 0 o 7 with
  | false =>
    have e0 : transB o x y = false := by simp [transB, h1]
    rw [e0]
    clear e0
    have HB : ∀ w9, Below w.heap.size w w9 → True := fun _ _ => trivial
    clear HB
    go_enter Tryz.func59, Tryz.ntmps59
    go_wp2_with (first
      | (go_at_call 35; refine (within_any _ _ _ _).mono ?_; rintro e w0 ⟨rfl, rfl⟩; (first | rw [h1] | skip)))
    all_goals
      go_ret
      exact ⟨by first | rfl | simp_all, by first | exact b0 | exact b0.trans (hbb.mono b0.size)⟩
  | true =>
    cases h2 : inB (-80) x 80 with
    | false =>
      have e0 : transB o x y = false := by simp [transB, h1, h2]
      rw [e0]
      clear e0
      have HB : ∀ w9, Below w.heap.size w w9 → True := fun _ _ => trivial
      clear HB
      go_enter Tryz.func59, Tryz.ntmps59
      go_wp2_with (first
        | (go_at_call 35; refine (within_any _ _ _ _).mono ?_; rintro e w0 ⟨rfl, rfl⟩; (first | rw [h1] | rw [h2] | skip)))
      all_goals
        go_ret
        exact ⟨by first | rfl | simp_all, by first | exact b0 | exact b0.trans (hbb.mono b0.size)⟩
    | true =>
      cases h3 : inB (-80) y 80 with
      | false =>
        have e0 : transB o x y = false := by simp [transB, h1, h2, h3]
        rw [e0]
        clear e0
        have HB : ∀ w9, Below w.heap.size w w9 → True := fun _ _ => trivial
        clear HB
        go_enter Tryz.func59, Tryz.ntmps59
        go_wp2_with (first
          | (go_at_call 35; refine (within_any _ _ _ _).mono ?_; rintro e w0 ⟨rfl, rfl⟩; (first | rw [h1] | rw [h2] | rw [h3] | skip)))
        all_goals
          go_ret
          exact ⟨by first | rfl | simp_all, by first | exact b0 | exact b0.trans (hbb.mono b0.size)⟩
      | true =>
        have e0 : transB o x y = true := by simp [transB, h1, h2, h3]
        rw [e0]
        clear e0
        have HB : ∀ w9, Below w.heap.size w w9 → True := fun _ _ => trivial
        clear HB
        go_enter Tryz.func59, Tryz.ntmps59
        go_wp2_with (first
          | (go_at_call 35; refine (within_any _ _ _ _).mono ?_; rintro e w0 ⟨rfl, rfl⟩; (first | rw [h1] | rw [h2] | rw [h3] | skip)))
        all_goals
          go_ret
          exact ⟨by first | rfl | simp_all, by first | exact b0 | exact b0.trans (hbb.mono b0.size)⟩
set_option maxHeartbeats 1600000 in
set_option maxRecDepth 100000 in
theorem inst_impl (i : InstD) (k : Int) (w : World) (hk : 0 ≤ k ∧ k ≤ 1000) : Calls Tryz.prog 98 #[.agg #[.int .i64 i.cell, .int .i64 i.o, .int .i64 i.x, .int .i64 i.y, .int .i64 i.cols, .int .i64 i.rows, .int .i64 i.sx, .int .i64 i.sy], .int .i64 k] w fun e w' => e = .returned (.bool (instB i k)) ∧ Below w.heap.size w w' := by
  obtain ⟨hk0, hk1⟩ := hk
  have b0 := (Below.refl w.heap.size w).alloc (Nat.le_refl _) (.cells #[.int .i64 i.cell, .int .i64 i.o, .int .i64 i.x, .int .i64 i.y, .int .i64 i.cols, .int .i64 i.rows, .int .i64 i.sx, .int .i64 i.sy] 74)
  cases h1 : inB 0 i.cell (k - 1) with
  | false =>
    have e0 : instB i k = false := by simp [instB, h1]
    rw [e0]
    clear e0
    have HB : ∀ w9, Below w.heap.size w w9 → True := fun _ _ => trivial
    clear HB
    go_enter Tryz.func98, Tryz.ntmps98
    go_wp2_with (first
      | (go_at_call 35; refine (within_any _ _ _ _).mono ?_; rintro e w0 ⟨rfl, rfl⟩; (first | rw [h1] | skip))
      | (go_at_call 59; refine (trans_impl _ _ _ _).mono ?_; rintro e w1 ⟨rfl, hbb⟩; have b0 := b0.trans (hbb.mono b0.size); obtain ⟨hc1, hf1⟩ := bcellN hbb (n := w.heap.size + 1) (by first | (simp; done) | (simp; omega) | omega); (first | rw [h1] | skip)))
    all_goals
      go_ret
      exact ⟨by first | rfl | simp_all, by first | exact b0 | exact b0.trans (hbb.mono b0.size)⟩
  | true =>
    cases h2 : transB i.o i.x i.y with
    | false =>
      have e0 : instB i k = false := by simp [instB, h1, h2]
      rw [e0]
      clear e0
      have HB : ∀ w9, Below w.heap.size w w9 → True := fun _ _ => trivial
      clear HB
      go_enter Tryz.func98, Tryz.ntmps98
      go_wp2_with (first
        | (go_at_call 35; refine (within_any _ _ _ _).mono ?_; rintro e w0 ⟨rfl, rfl⟩; (first | rw [h1] | rw [h2] | skip))
        | (go_at_call 59; refine (trans_impl _ _ _ _).mono ?_; rintro e w1 ⟨rfl, hbb⟩; have b0 := b0.trans (hbb.mono b0.size); obtain ⟨hc1, hf1⟩ := bcellN hbb (n := w.heap.size + 1) (by first | (simp; done) | (simp; omega) | omega); (first | rw [h1] | rw [h2] | skip)))
      all_goals
        go_ret
        exact ⟨by first | rfl | simp_all, by first | exact b0 | exact b0.trans (hbb.mono b0.size)⟩
    | true =>
      cases h3 : inB 1 i.cols 4 with
      | false =>
        have e0 : instB i k = false := by simp [instB, h1, h2, h3]
        rw [e0]
        clear e0
        have HB : ∀ w9, Below w.heap.size w w9 → True := fun _ _ => trivial
        clear HB
        go_enter Tryz.func98, Tryz.ntmps98
        go_wp2_with (first
          | (go_at_call 35; refine (within_any _ _ _ _).mono ?_; rintro e w0 ⟨rfl, rfl⟩; (first | rw [h1] | rw [h2] | rw [h3] | skip))
          | (go_at_call 59; refine (trans_impl _ _ _ _).mono ?_; rintro e w1 ⟨rfl, hbb⟩; have b0 := b0.trans (hbb.mono b0.size); obtain ⟨hc1, hf1⟩ := bcellN hbb (n := w.heap.size + 1) (by first | (simp; done) | (simp; omega) | omega); (first | rw [h1] | rw [h2] | rw [h3] | skip)))
        all_goals
          go_ret
          exact ⟨by first | rfl | simp_all, by first | exact b0 | exact b0.trans (hbb.mono b0.size)⟩
      | true =>
        cases h4 : inB 1 i.rows 4 with
        | false =>
          have e0 : instB i k = false := by simp [instB, h1, h2, h3, h4]
          rw [e0]
          clear e0
          have HB : ∀ w9, Below w.heap.size w w9 → True := fun _ _ => trivial
          clear HB
          go_enter Tryz.func98, Tryz.ntmps98
          go_wp2_with (first
            | (go_at_call 35; refine (within_any _ _ _ _).mono ?_; rintro e w0 ⟨rfl, rfl⟩; (first | rw [h1] | rw [h2] | rw [h3] | rw [h4] | skip))
            | (go_at_call 59; refine (trans_impl _ _ _ _).mono ?_; rintro e w1 ⟨rfl, hbb⟩; have b0 := b0.trans (hbb.mono b0.size); obtain ⟨hc1, hf1⟩ := bcellN hbb (n := w.heap.size + 1) (by first | (simp; done) | (simp; omega) | omega); (first | rw [h1] | rw [h2] | rw [h3] | rw [h4] | skip)))
          all_goals
            go_ret
            exact ⟨by first | rfl | simp_all, by first | exact b0 | exact b0.trans (hbb.mono b0.size)⟩
        | true =>
          cases h5 : inB (-80) i.sx 80 with
          | false =>
            have e0 : instB i k = false := by simp [instB, h1, h2, h3, h4, h5]
            rw [e0]
            clear e0
            have HB : ∀ w9, Below w.heap.size w w9 → True := fun _ _ => trivial
            clear HB
            go_enter Tryz.func98, Tryz.ntmps98
            go_wp2_with (first
              | (go_at_call 35; refine (within_any _ _ _ _).mono ?_; rintro e w0 ⟨rfl, rfl⟩; (first | rw [h1] | rw [h2] | rw [h3] | rw [h4] | rw [h5] | skip))
              | (go_at_call 59; refine (trans_impl _ _ _ _).mono ?_; rintro e w1 ⟨rfl, hbb⟩; have b0 := b0.trans (hbb.mono b0.size); obtain ⟨hc1, hf1⟩ := bcellN hbb (n := w.heap.size + 1) (by first | (simp; done) | (simp; omega) | omega); (first | rw [h1] | rw [h2] | rw [h3] | rw [h4] | rw [h5] | skip)))
            all_goals
              go_ret
              exact ⟨by first | rfl | simp_all, by first | exact b0 | exact b0.trans (hbb.mono b0.size)⟩
          | true =>
            cases h6 : inB (-80) i.sy 80 with
            | false =>
              have e0 : instB i k = false := by simp [instB, h1, h2, h3, h4, h5, h6]
              rw [e0]
              clear e0
              have HB : ∀ w9, Below w.heap.size w w9 → True := fun _ _ => trivial
              clear HB
              go_enter Tryz.func98, Tryz.ntmps98
              go_wp2_with (first
                | (go_at_call 35; refine (within_any _ _ _ _).mono ?_; rintro e w0 ⟨rfl, rfl⟩; (first | rw [h1] | rw [h2] | rw [h3] | rw [h4] | rw [h5] | rw [h6] | skip))
                | (go_at_call 59; refine (trans_impl _ _ _ _).mono ?_; rintro e w1 ⟨rfl, hbb⟩; have b0 := b0.trans (hbb.mono b0.size); obtain ⟨hc1, hf1⟩ := bcellN hbb (n := w.heap.size + 1) (by first | (simp; done) | (simp; omega) | omega); (first | rw [h1] | rw [h2] | rw [h3] | rw [h4] | rw [h5] | rw [h6] | skip)))
              all_goals
                go_ret
                exact ⟨by first | rfl | simp_all, by first | exact b0 | exact b0.trans (hbb.mono b0.size)⟩
            | true =>
              cases h7 : stepB i.sx i.cols with
              | false =>
                obtain ⟨n1, n2⟩ := stepB_no h7
                have e0 : instB i k = false := by simp [instB, h1, h2, h3, h4, h5, h6, h7]
                rw [e0]
                clear e0
                have HB : ∀ w9, Below w.heap.size w w9 → True := fun _ _ => trivial
                clear HB
                go_enter Tryz.func98, Tryz.ntmps98
                go_wp2_with (first
                  | (go_at_call 35; refine (within_any _ _ _ _).mono ?_; rintro e w0 ⟨rfl, rfl⟩; (first | rw [h1] | rw [h2] | rw [h3] | rw [h4] | rw [h5] | rw [h6] | rw [h7] | skip))
                  | (go_at_call 59; refine (trans_impl _ _ _ _).mono ?_; rintro e w1 ⟨rfl, hbb⟩; have b0 := b0.trans (hbb.mono b0.size); obtain ⟨hc1, hf1⟩ := bcellN hbb (n := w.heap.size + 1) (by first | (simp; done) | (simp; omega) | omega); (first | rw [h1] | rw [h2] | rw [h3] | rw [h4] | rw [h5] | rw [h6] | rw [h7] | skip)))
                all_goals
                  go_ret
                  exact ⟨by first | rfl | simp_all, by first | exact b0 | exact b0.trans (hbb.mono b0.size)⟩
              | true =>
                rcases stepB_yes h7 with n1 | ⟨n1, n2⟩
                all_goals
                  cases h8 : stepB i.sy i.rows with
                  | false =>
                    obtain ⟨n3, n4⟩ := stepB_no h8
                    have e0 : instB i k = false := by simp [instB, h1, h2, h3, h4, h5, h6, h7, h8]
                    rw [e0]
                    clear e0
                    have HB : ∀ w9, Below w.heap.size w w9 → True := fun _ _ => trivial
                    clear HB
                    go_enter Tryz.func98, Tryz.ntmps98
                    go_wp2_with (first
                      | (go_at_call 35; refine (within_any _ _ _ _).mono ?_; rintro e w0 ⟨rfl, rfl⟩; (first | rw [h1] | rw [h2] | rw [h3] | rw [h4] | rw [h5] | rw [h6] | rw [h7] | rw [h8] | skip))
                      | (go_at_call 59; refine (trans_impl _ _ _ _).mono ?_; rintro e w1 ⟨rfl, hbb⟩; have b0 := b0.trans (hbb.mono b0.size); obtain ⟨hc1, hf1⟩ := bcellN hbb (n := w.heap.size + 1) (by first | (simp; done) | (simp; omega) | omega); (first | rw [h1] | rw [h2] | rw [h3] | rw [h4] | rw [h5] | rw [h6] | rw [h7] | rw [h8] | skip)))
                    all_goals
                      go_ret
                      exact ⟨by first | rfl | simp_all, by first | exact b0 | exact b0.trans (hbb.mono b0.size)⟩
                  | true =>
                    rcases stepB_yes h8 with n3 | ⟨n3, n4⟩
                    all_goals
                      have e0 : instB i k = true := by simp [instB, h1, h2, h3, h4, h5, h6, h7, h8]
                      rw [e0]
                      clear e0
                      have HB : ∀ w9, Below w.heap.size w w9 → True := fun _ _ => trivial
                      clear HB
                      go_enter Tryz.func98, Tryz.ntmps98
                      go_wp2_with (first
                        | (go_at_call 35; refine (within_any _ _ _ _).mono ?_; rintro e w0 ⟨rfl, rfl⟩; (first | rw [h1] | rw [h2] | rw [h3] | rw [h4] | rw [h5] | rw [h6] | rw [h7] | rw [h8] | skip))
                        | (go_at_call 59; refine (trans_impl _ _ _ _).mono ?_; rintro e w1 ⟨rfl, hbb⟩; have b0 := b0.trans (hbb.mono b0.size); obtain ⟨hc1, hf1⟩ := bcellN hbb (n := w.heap.size + 1) (by first | (simp; done) | (simp; omega) | omega); (first | rw [h1] | rw [h2] | rw [h3] | rw [h4] | rw [h5] | rw [h6] | rw [h7] | rw [h8] | skip)))
                      all_goals
                        go_ret
                        exact ⟨by first | rfl | simp_all, by first | exact b0 | exact b0.trans (hbb.mono b0.size)⟩
set_option maxHeartbeats 1600000 in
set_option maxRecDepth 100000 in
theorem rect9 (r : Rc) (w : World) : Calls Tryz.prog 30 #[.agg #[.int .i64 r.x0, .int .i64 r.y0, .int .i64 r.x1, .int .i64 r.y1]] w fun e w' => e = .returned (.bool (okRc r)) ∧ Below w.heap.size w w' := by
  have b0 := (Below.refl w.heap.size w).alloc (Nat.le_refl _) (.cells #[.int .i64 r.x0, .int .i64 r.y0, .int .i64 r.x1, .int .i64 r.y1] 60)
  cases h1 : decide (-40 ≤ r.x0) with
  | false =>
    have e0 : okRc r = false := by simp [okRc_eq, h1]
    rw [e0]
    clear e0
    have HB : ∀ w9, Below w.heap.size w w9 → True := fun _ _ => trivial
    clear HB
    go_enter Tryz.func30, Tryz.ntmps30
    go_wp2_with (first
      | (go_at_call 69; refine (l09In_any _ _ _ _).mono ?_; rintro e w0 ⟨rfl, rfl⟩; (first | rw [h1] | skip)))
    all_goals
      go_ret
      exact ⟨by first | rfl | simp_all, by first | exact b0 | exact b0.trans (hbb.mono b0.size)⟩
  | true =>
    cases h2 : decide (r.x0 < r.x1) with
    | false =>
      have e0 : okRc r = false := by simp [okRc_eq, h1, h2]
      rw [e0]
      clear e0
      have HB : ∀ w9, Below w.heap.size w w9 → True := fun _ _ => trivial
      clear HB
      go_enter Tryz.func30, Tryz.ntmps30
      go_wp2_with (first
        | (go_at_call 69; refine (l09In_any _ _ _ _).mono ?_; rintro e w0 ⟨rfl, rfl⟩; (first | rw [h1] | rw [h2] | skip)))
      all_goals
        go_ret
        exact ⟨by first | rfl | simp_all, by first | exact b0 | exact b0.trans (hbb.mono b0.size)⟩
    | true =>
      cases h3 : decide (r.x1 ≤ 40) with
      | false =>
        have e0 : okRc r = false := by simp [okRc_eq, h1, h2, h3]
        rw [e0]
        clear e0
        have HB : ∀ w9, Below w.heap.size w w9 → True := fun _ _ => trivial
        clear HB
        go_enter Tryz.func30, Tryz.ntmps30
        go_wp2_with (first
          | (go_at_call 69; refine (l09In_any _ _ _ _).mono ?_; rintro e w0 ⟨rfl, rfl⟩; (first | rw [h1] | rw [h2] | rw [h3] | skip)))
        all_goals
          go_ret
          exact ⟨by first | rfl | simp_all, by first | exact b0 | exact b0.trans (hbb.mono b0.size)⟩
      | true =>
        cases h4 : decide (-40 ≤ r.y0) with
        | false =>
          have e0 : okRc r = false := by simp [okRc_eq, h1, h2, h3, h4]
          rw [e0]
          clear e0
          have HB : ∀ w9, Below w.heap.size w w9 → True := fun _ _ => trivial
          clear HB
          go_enter Tryz.func30, Tryz.ntmps30
          go_wp2_with (first
            | (go_at_call 69; refine (l09In_any _ _ _ _).mono ?_; rintro e w0 ⟨rfl, rfl⟩; (first | rw [h1] | rw [h2] | rw [h3] | rw [h4] | skip)))
          all_goals
            go_ret
            exact ⟨by first | rfl | simp_all, by first | exact b0 | exact b0.trans (hbb.mono b0.size)⟩
        | true =>
          cases h5 : decide (r.y0 < r.y1) with
          | false =>
            have e0 : okRc r = false := by simp [okRc_eq, h1, h2, h3, h4, h5]
            rw [e0]
            clear e0
            have HB : ∀ w9, Below w.heap.size w w9 → True := fun _ _ => trivial
            clear HB
            go_enter Tryz.func30, Tryz.ntmps30
            go_wp2_with (first
              | (go_at_call 69; refine (l09In_any _ _ _ _).mono ?_; rintro e w0 ⟨rfl, rfl⟩; (first | rw [h1] | rw [h2] | rw [h3] | rw [h4] | rw [h5] | skip)))
            all_goals
              go_ret
              exact ⟨by first | rfl | simp_all, by first | exact b0 | exact b0.trans (hbb.mono b0.size)⟩
          | true =>
            cases h6 : decide (r.y1 ≤ 40) with
            | false =>
              have e0 : okRc r = false := by simp [okRc_eq, h1, h2, h3, h4, h5, h6]
              rw [e0]
              clear e0
              have HB : ∀ w9, Below w.heap.size w w9 → True := fun _ _ => trivial
              clear HB
              go_enter Tryz.func30, Tryz.ntmps30
              go_wp2_with (first
                | (go_at_call 69; refine (l09In_any _ _ _ _).mono ?_; rintro e w0 ⟨rfl, rfl⟩; (first | rw [h1] | rw [h2] | rw [h3] | rw [h4] | rw [h5] | rw [h6] | skip)))
              all_goals
                go_ret
                exact ⟨by first | rfl | simp_all, by first | exact b0 | exact b0.trans (hbb.mono b0.size)⟩
            | true =>
              have e0 : okRc r = true := by simp [okRc_eq, h1, h2, h3, h4, h5, h6]
              rw [e0]
              clear e0
              have HB : ∀ w9, Below w.heap.size w w9 → True := fun _ _ => trivial
              clear HB
              go_enter Tryz.func30, Tryz.ntmps30
              go_wp2_with (first
                | (go_at_call 69; refine (l09In_any _ _ _ _).mono ?_; rintro e w0 ⟨rfl, rfl⟩; (first | rw [h1] | rw [h2] | rw [h3] | rw [h4] | rw [h5] | rw [h6] | skip)))
              all_goals
                go_ret
                exact ⟨by first | rfl | simp_all, by first | exact b0 | exact b0.trans (hbb.mono b0.size)⟩
set_option maxHeartbeats 1600000 in
set_option maxRecDepth 100000 in
theorem unit9 (x y : Int) (w : World) : Calls Tryz.prog 88 #[.agg #[.int .i64 x, .int .i64 y]] w fun e w' => e = .returned (.bool (onC x y)) ∧ Below w.heap.size w w' := by
  have b0 := (Below.refl w.heap.size w).alloc (Nat.le_refl _) (.cells #[.int .i64 x, .int .i64 y] 107)
  cases h1 : inB (-40) x 39 with
  | false =>
    have e0 : onC x y = false := by simp [onC_eq, h1]
    rw [e0]
    clear e0
    have HB : ∀ w9, Below w.heap.size w w9 → True := fun _ _ => trivial
    clear HB
    go_enter Tryz.func88, Tryz.ntmps88
    go_wp2_with (first
      | (go_at_call 69; refine (l09In_any _ _ _ _).mono ?_; rintro e w0 ⟨rfl, rfl⟩; (first | rw [h1] | skip)))
    all_goals
      go_ret
      exact ⟨by first | rfl | simp_all, by first | exact b0 | exact b0.trans (hbb.mono b0.size)⟩
  | true =>
    cases h2 : inB (-40) y 39 with
    | false =>
      have e0 : onC x y = false := by simp [onC_eq, h1, h2]
      rw [e0]
      clear e0
      have HB : ∀ w9, Below w.heap.size w w9 → True := fun _ _ => trivial
      clear HB
      go_enter Tryz.func88, Tryz.ntmps88
      go_wp2_with (first
        | (go_at_call 69; refine (l09In_any _ _ _ _).mono ?_; rintro e w0 ⟨rfl, rfl⟩; (first | rw [h1] | rw [h2] | skip)))
      all_goals
        go_ret
        exact ⟨by first | rfl | simp_all, by first | exact b0 | exact b0.trans (hbb.mono b0.size)⟩
    | true =>
      have e0 : onC x y = true := by simp [onC_eq, h1, h2]
      rw [e0]
      clear e0
      have HB : ∀ w9, Below w.heap.size w w9 → True := fun _ _ => trivial
      clear HB
      go_enter Tryz.func88, Tryz.ntmps88
      go_wp2_with (first
        | (go_at_call 69; refine (l09In_any _ _ _ _).mono ?_; rintro e w0 ⟨rfl, rfl⟩; (first | rw [h1] | rw [h2] | skip)))
      all_goals
        go_ret
        exact ⟨by first | rfl | simp_all, by first | exact b0 | exact b0.trans (hbb.mono b0.size)⟩
set_option maxHeartbeats 1600000 in
set_option maxRecDepth 100000 in
theorem trans9 (o x y : Int) (w : World) : Calls Tryz.prog 49 #[.agg #[.int .i64 o, .int .i64 x, .int .i64 y]] w fun e w' => e = .returned (.bool (transB o x y)) ∧ Below w.heap.size w w' := by
  have b0 := (Below.refl w.heap.size w).alloc (Nat.le_refl _) (.cells #[.int .i64 o, .int .i64 x, .int .i64 y] 72)
  cases h1 : inB 0 o 7 with
  | false =>
    have e0 : transB o x y = false := by simp [transB, h1]
    rw [e0]
    clear e0
    have HB : ∀ w9, Below w.heap.size w w9 → True := fun _ _ => trivial
    clear HB
    go_enter Tryz.func49, Tryz.ntmps49
    go_wp2_with (first
      | (go_at_call 69; refine (l09In_any _ _ _ _).mono ?_; rintro e w0 ⟨rfl, rfl⟩; (first | rw [h1] | skip)))
    all_goals
      go_ret
      exact ⟨by first | rfl | simp_all, by first | exact b0 | exact b0.trans (hbb.mono b0.size)⟩
  | true =>
    cases h2 : inB (-80) x 80 with
    | false =>
      have e0 : transB o x y = false := by simp [transB, h1, h2]
      rw [e0]
      clear e0
      have HB : ∀ w9, Below w.heap.size w w9 → True := fun _ _ => trivial
      clear HB
      go_enter Tryz.func49, Tryz.ntmps49
      go_wp2_with (first
        | (go_at_call 69; refine (l09In_any _ _ _ _).mono ?_; rintro e w0 ⟨rfl, rfl⟩; (first | rw [h1] | rw [h2] | skip)))
      all_goals
        go_ret
        exact ⟨by first | rfl | simp_all, by first | exact b0 | exact b0.trans (hbb.mono b0.size)⟩
    | true =>
      cases h3 : inB (-80) y 80 with
      | false =>
        have e0 : transB o x y = false := by simp [transB, h1, h2, h3]
        rw [e0]
        clear e0
        have HB : ∀ w9, Below w.heap.size w w9 → True := fun _ _ => trivial
        clear HB
        go_enter Tryz.func49, Tryz.ntmps49
        go_wp2_with (first
          | (go_at_call 69; refine (l09In_any _ _ _ _).mono ?_; rintro e w0 ⟨rfl, rfl⟩; (first | rw [h1] | rw [h2] | rw [h3] | skip)))
        all_goals
          go_ret
          exact ⟨by first | rfl | simp_all, by first | exact b0 | exact b0.trans (hbb.mono b0.size)⟩
      | true =>
        have e0 : transB o x y = true := by simp [transB, h1, h2, h3]
        rw [e0]
        clear e0
        have HB : ∀ w9, Below w.heap.size w w9 → True := fun _ _ => trivial
        clear HB
        go_enter Tryz.func49, Tryz.ntmps49
        go_wp2_with (first
          | (go_at_call 69; refine (l09In_any _ _ _ _).mono ?_; rintro e w0 ⟨rfl, rfl⟩; (first | rw [h1] | rw [h2] | rw [h3] | skip)))
        all_goals
          go_ret
          exact ⟨by first | rfl | simp_all, by first | exact b0 | exact b0.trans (hbb.mono b0.size)⟩
set_option maxHeartbeats 1600000 in
set_option maxRecDepth 100000 in
theorem shape9 (s : ShapeD) (w : World) : Calls Tryz.prog 79 #[.agg #[.int .i64 s.layer, .int .i64 s.box.x0, .int .i64 s.box.y0, .int .i64 s.box.x1, .int .i64 s.box.y1]] w fun e w' => e = .returned (.bool (shapeB s)) ∧ Below w.heap.size w w' := by
  have b0 := (Below.refl w.heap.size w).alloc (Nat.le_refl _) (.cells #[.int .i64 s.layer, .int .i64 s.box.x0, .int .i64 s.box.y0, .int .i64 s.box.x1, .int .i64 s.box.y1] 70)
  cases h1 : inB 0 s.layer 7 with
  | false =>
    have e0 : shapeB s = false := by simp [shapeB, h1]
    rw [e0]
    clear e0
    have HB : ∀ w9, Below w.heap.size w w9 → True := fun _ _ => trivial
    clear HB
    go_enter Tryz.func79, Tryz.ntmps79
    go_wp2_with (first
      | (go_at_call 87; refine (l09Layer_any _ _).mono ?_; rintro e w0 ⟨rfl, rfl⟩; (first | rw [h1] | skip))
      | (go_at_call 30; refine (rect9 s.box _).mono ?_; rintro e w1 ⟨rfl, hbb⟩; have b0 := b0.trans (hbb.mono b0.size); obtain ⟨hc1, hf1⟩ := bcellN hbb (n := w.heap.size + 1) (by first | (simp; done) | (simp; omega) | omega); (first | rw [h1] | skip)))
    all_goals
      go_ret
      exact ⟨by first | rfl | simp_all, by first | exact b0 | exact b0.trans (hbb.mono b0.size)⟩
  | true =>
    cases h2 : okRc s.box with
    | false =>
      have e0 : shapeB s = false := by simp [shapeB, h1, h2]
      rw [e0]
      clear e0
      have HB : ∀ w9, Below w.heap.size w w9 → True := fun _ _ => trivial
      clear HB
      go_enter Tryz.func79, Tryz.ntmps79
      go_wp2_with (first
        | (go_at_call 87; refine (l09Layer_any _ _).mono ?_; rintro e w0 ⟨rfl, rfl⟩; (first | rw [h1] | rw [h2] | skip))
        | (go_at_call 30; refine (rect9 s.box _).mono ?_; rintro e w1 ⟨rfl, hbb⟩; have b0 := b0.trans (hbb.mono b0.size); obtain ⟨hc1, hf1⟩ := bcellN hbb (n := w.heap.size + 1) (by first | (simp; done) | (simp; omega) | omega); (first | rw [h1] | rw [h2] | skip)))
      all_goals
        go_ret
        exact ⟨by first | rfl | simp_all, by first | exact b0 | exact b0.trans (hbb.mono b0.size)⟩
    | true =>
      have e0 : shapeB s = true := by simp [shapeB, h1, h2]
      rw [e0]
      clear e0
      have HB : ∀ w9, Below w.heap.size w w9 → True := fun _ _ => trivial
      clear HB
      go_enter Tryz.func79, Tryz.ntmps79
      go_wp2_with (first
        | (go_at_call 87; refine (l09Layer_any _ _).mono ?_; rintro e w0 ⟨rfl, rfl⟩; (first | rw [h1] | rw [h2] | skip))
        | (go_at_call 30; refine (rect9 s.box _).mono ?_; rintro e w1 ⟨rfl, hbb⟩; have b0 := b0.trans (hbb.mono b0.size); obtain ⟨hc1, hf1⟩ := bcellN hbb (n := w.heap.size + 1) (by first | (simp; done) | (simp; omega) | omega); (first | rw [h1] | rw [h2] | skip)))
      all_goals
        go_ret
        exact ⟨by first | rfl | simp_all, by first | exact b0 | exact b0.trans (hbb.mono b0.size)⟩
set_option maxHeartbeats 1600000 in
set_option maxRecDepth 100000 in
theorem label9 (l : LabelD) (w : World) (hn : l.name.size ≤ maxLen) : Calls Tryz.prog 80 #[.agg #[.int .i64 l.layer, .int .i64 l.x, .int .i64 l.y, .string l.name]] w fun e w' => e = .returned (.bool (labelB l)) ∧ Below w.heap.size w w' := by
  have b0 := (Below.refl w.heap.size w).alloc (Nat.le_refl _) (.cells #[.int .i64 l.layer, .int .i64 l.x, .int .i64 l.y, .string l.name] 121)
  cases h1 : inB 0 l.layer 7 with
  | false =>
    have e0 : labelB l = false := by simp [labelB, h1]
    rw [e0]
    clear e0
    have HB : ∀ w9, Below w.heap.size w w9 → True := fun _ _ => trivial
    clear HB
    go_enter Tryz.func80, Tryz.ntmps80
    go_wp2_with (first
      | (go_at_call 87; refine (l09Layer_any _ _).mono ?_; rintro e w0 ⟨rfl, rfl⟩; (first | rw [h1] | skip))
      | (go_at_call 88; refine (unit9 _ _ _).mono ?_; rintro e w1 ⟨rfl, hbb⟩; have b0 := b0.trans (hbb.mono b0.size); obtain ⟨hc1, hf1⟩ := bcellN hbb (n := w.heap.size + 1) (by first | (simp; done) | (simp; omega) | omega); (first | rw [h1] | skip))
      | (go_at_call 78; refine (isName_spec _ _ hn).mono ?_; rintro e w2 ⟨rfl, rfl⟩; (first | rw [h1] | skip)))
    all_goals
      go_ret
      exact ⟨by first | rfl | simp_all, by first | exact b0 | exact b0.trans (hbb.mono b0.size)⟩
  | true =>
    cases h2 : onC l.x l.y with
    | false =>
      have e0 : labelB l = false := by simp [labelB, h1, h2]
      rw [e0]
      clear e0
      have HB : ∀ w9, Below w.heap.size w w9 → True := fun _ _ => trivial
      clear HB
      go_enter Tryz.func80, Tryz.ntmps80
      go_wp2_with (first
        | (go_at_call 87; refine (l09Layer_any _ _).mono ?_; rintro e w0 ⟨rfl, rfl⟩; (first | rw [h1] | rw [h2] | skip))
        | (go_at_call 88; refine (unit9 _ _ _).mono ?_; rintro e w1 ⟨rfl, hbb⟩; have b0 := b0.trans (hbb.mono b0.size); obtain ⟨hc1, hf1⟩ := bcellN hbb (n := w.heap.size + 1) (by first | (simp; done) | (simp; omega) | omega); (first | rw [h1] | rw [h2] | skip))
        | (go_at_call 78; refine (isName_spec _ _ hn).mono ?_; rintro e w2 ⟨rfl, rfl⟩; (first | rw [h1] | rw [h2] | skip)))
      all_goals
        go_ret
        exact ⟨by first | rfl | simp_all, by first | exact b0 | exact b0.trans (hbb.mono b0.size)⟩
    | true =>
      cases h3 : nameB l.name with
      | false =>
        have e0 : labelB l = false := by simp [labelB, h1, h2, h3]
        rw [e0]
        clear e0
        have HB : ∀ w9, Below w.heap.size w w9 → True := fun _ _ => trivial
        clear HB
        go_enter Tryz.func80, Tryz.ntmps80
        go_wp2_with (first
          | (go_at_call 87; refine (l09Layer_any _ _).mono ?_; rintro e w0 ⟨rfl, rfl⟩; (first | rw [h1] | rw [h2] | rw [h3] | skip))
          | (go_at_call 88; refine (unit9 _ _ _).mono ?_; rintro e w1 ⟨rfl, hbb⟩; have b0 := b0.trans (hbb.mono b0.size); obtain ⟨hc1, hf1⟩ := bcellN hbb (n := w.heap.size + 1) (by first | (simp; done) | (simp; omega) | omega); (first | rw [h1] | rw [h2] | rw [h3] | skip))
          | (go_at_call 78; refine (isName_spec _ _ hn).mono ?_; rintro e w2 ⟨rfl, rfl⟩; (first | rw [h1] | rw [h2] | rw [h3] | skip)))
        all_goals
          go_ret
          exact ⟨by first | rfl | simp_all, by first | exact b0 | exact b0.trans (hbb.mono b0.size)⟩
      | true =>
        have e0 : labelB l = true := by simp [labelB, h1, h2, h3]
        rw [e0]
        clear e0
        have HB : ∀ w9, Below w.heap.size w w9 → True := fun _ _ => trivial
        clear HB
        go_enter Tryz.func80, Tryz.ntmps80
        go_wp2_with (first
          | (go_at_call 87; refine (l09Layer_any _ _).mono ?_; rintro e w0 ⟨rfl, rfl⟩; (first | rw [h1] | rw [h2] | rw [h3] | skip))
          | (go_at_call 88; refine (unit9 _ _ _).mono ?_; rintro e w1 ⟨rfl, hbb⟩; have b0 := b0.trans (hbb.mono b0.size); obtain ⟨hc1, hf1⟩ := bcellN hbb (n := w.heap.size + 1) (by first | (simp; done) | (simp; omega) | omega); (first | rw [h1] | rw [h2] | rw [h3] | skip))
          | (go_at_call 78; refine (isName_spec _ _ hn).mono ?_; rintro e w2 ⟨rfl, rfl⟩; (first | rw [h1] | rw [h2] | rw [h3] | skip)))
        all_goals
          go_ret
          exact ⟨by first | rfl | simp_all, by first | exact b0 | exact b0.trans (hbb.mono b0.size)⟩
set_option maxHeartbeats 1600000 in
set_option maxRecDepth 100000 in
theorem inst9 (i : InstD) (k : Int) (w : World) (hk : 0 ≤ k ∧ k ≤ 1000) : Calls Tryz.prog 81 #[.agg #[.int .i64 i.cell, .int .i64 i.o, .int .i64 i.x, .int .i64 i.y, .int .i64 i.cols, .int .i64 i.rows, .int .i64 i.sx, .int .i64 i.sy], .int .i64 k] w fun e w' => e = .returned (.bool (instB i k)) ∧ Below w.heap.size w w' := by
  obtain ⟨hk0, hk1⟩ := hk
  have b0 := (Below.refl w.heap.size w).alloc (Nat.le_refl _) (.cells #[.int .i64 i.cell, .int .i64 i.o, .int .i64 i.x, .int .i64 i.y, .int .i64 i.cols, .int .i64 i.rows, .int .i64 i.sx, .int .i64 i.sy] 74)
  cases h1 : inB 0 i.cell (k - 1) with
  | false =>
    have e0 : instB i k = false := by simp [instB, h1]
    rw [e0]
    clear e0
    have HB : ∀ w9, Below w.heap.size w w9 → True := fun _ _ => trivial
    clear HB
    go_enter Tryz.func81, Tryz.ntmps81
    go_wp2_with (first
      | (go_at_call 69; refine (l09In_any _ _ _ _).mono ?_; rintro e w0 ⟨rfl, rfl⟩; (first | rw [h1] | skip))
      | (go_at_call 49; refine (trans9 _ _ _ _).mono ?_; rintro e w1 ⟨rfl, hbb⟩; have b0 := b0.trans (hbb.mono b0.size); obtain ⟨hc1, hf1⟩ := bcellN hbb (n := w.heap.size + 1) (by first | (simp; done) | (simp; omega) | omega); (first | rw [h1] | skip)))
    all_goals
      go_ret
      exact ⟨by first | rfl | simp_all, by first | exact b0 | exact b0.trans (hbb.mono b0.size)⟩
  | true =>
    cases h2 : transB i.o i.x i.y with
    | false =>
      have e0 : instB i k = false := by simp [instB, h1, h2]
      rw [e0]
      clear e0
      have HB : ∀ w9, Below w.heap.size w w9 → True := fun _ _ => trivial
      clear HB
      go_enter Tryz.func81, Tryz.ntmps81
      go_wp2_with (first
        | (go_at_call 69; refine (l09In_any _ _ _ _).mono ?_; rintro e w0 ⟨rfl, rfl⟩; (first | rw [h1] | rw [h2] | skip))
        | (go_at_call 49; refine (trans9 _ _ _ _).mono ?_; rintro e w1 ⟨rfl, hbb⟩; have b0 := b0.trans (hbb.mono b0.size); obtain ⟨hc1, hf1⟩ := bcellN hbb (n := w.heap.size + 1) (by first | (simp; done) | (simp; omega) | omega); (first | rw [h1] | rw [h2] | skip)))
      all_goals
        go_ret
        exact ⟨by first | rfl | simp_all, by first | exact b0 | exact b0.trans (hbb.mono b0.size)⟩
    | true =>
      cases h3 : inB 1 i.cols 4 with
      | false =>
        have e0 : instB i k = false := by simp [instB, h1, h2, h3]
        rw [e0]
        clear e0
        have HB : ∀ w9, Below w.heap.size w w9 → True := fun _ _ => trivial
        clear HB
        go_enter Tryz.func81, Tryz.ntmps81
        go_wp2_with (first
          | (go_at_call 69; refine (l09In_any _ _ _ _).mono ?_; rintro e w0 ⟨rfl, rfl⟩; (first | rw [h1] | rw [h2] | rw [h3] | skip))
          | (go_at_call 49; refine (trans9 _ _ _ _).mono ?_; rintro e w1 ⟨rfl, hbb⟩; have b0 := b0.trans (hbb.mono b0.size); obtain ⟨hc1, hf1⟩ := bcellN hbb (n := w.heap.size + 1) (by first | (simp; done) | (simp; omega) | omega); (first | rw [h1] | rw [h2] | rw [h3] | skip)))
        all_goals
          go_ret
          exact ⟨by first | rfl | simp_all, by first | exact b0 | exact b0.trans (hbb.mono b0.size)⟩
      | true =>
        cases h4 : inB 1 i.rows 4 with
        | false =>
          have e0 : instB i k = false := by simp [instB, h1, h2, h3, h4]
          rw [e0]
          clear e0
          have HB : ∀ w9, Below w.heap.size w w9 → True := fun _ _ => trivial
          clear HB
          go_enter Tryz.func81, Tryz.ntmps81
          go_wp2_with (first
            | (go_at_call 69; refine (l09In_any _ _ _ _).mono ?_; rintro e w0 ⟨rfl, rfl⟩; (first | rw [h1] | rw [h2] | rw [h3] | rw [h4] | skip))
            | (go_at_call 49; refine (trans9 _ _ _ _).mono ?_; rintro e w1 ⟨rfl, hbb⟩; have b0 := b0.trans (hbb.mono b0.size); obtain ⟨hc1, hf1⟩ := bcellN hbb (n := w.heap.size + 1) (by first | (simp; done) | (simp; omega) | omega); (first | rw [h1] | rw [h2] | rw [h3] | rw [h4] | skip)))
          all_goals
            go_ret
            exact ⟨by first | rfl | simp_all, by first | exact b0 | exact b0.trans (hbb.mono b0.size)⟩
        | true =>
          cases h5 : inB (-80) i.sx 80 with
          | false =>
            have e0 : instB i k = false := by simp [instB, h1, h2, h3, h4, h5]
            rw [e0]
            clear e0
            have HB : ∀ w9, Below w.heap.size w w9 → True := fun _ _ => trivial
            clear HB
            go_enter Tryz.func81, Tryz.ntmps81
            go_wp2_with (first
              | (go_at_call 69; refine (l09In_any _ _ _ _).mono ?_; rintro e w0 ⟨rfl, rfl⟩; (first | rw [h1] | rw [h2] | rw [h3] | rw [h4] | rw [h5] | skip))
              | (go_at_call 49; refine (trans9 _ _ _ _).mono ?_; rintro e w1 ⟨rfl, hbb⟩; have b0 := b0.trans (hbb.mono b0.size); obtain ⟨hc1, hf1⟩ := bcellN hbb (n := w.heap.size + 1) (by first | (simp; done) | (simp; omega) | omega); (first | rw [h1] | rw [h2] | rw [h3] | rw [h4] | rw [h5] | skip)))
            all_goals
              go_ret
              exact ⟨by first | rfl | simp_all, by first | exact b0 | exact b0.trans (hbb.mono b0.size)⟩
          | true =>
            cases h6 : inB (-80) i.sy 80 with
            | false =>
              have e0 : instB i k = false := by simp [instB, h1, h2, h3, h4, h5, h6]
              rw [e0]
              clear e0
              have HB : ∀ w9, Below w.heap.size w w9 → True := fun _ _ => trivial
              clear HB
              go_enter Tryz.func81, Tryz.ntmps81
              go_wp2_with (first
                | (go_at_call 69; refine (l09In_any _ _ _ _).mono ?_; rintro e w0 ⟨rfl, rfl⟩; (first | rw [h1] | rw [h2] | rw [h3] | rw [h4] | rw [h5] | rw [h6] | skip))
                | (go_at_call 49; refine (trans9 _ _ _ _).mono ?_; rintro e w1 ⟨rfl, hbb⟩; have b0 := b0.trans (hbb.mono b0.size); obtain ⟨hc1, hf1⟩ := bcellN hbb (n := w.heap.size + 1) (by first | (simp; done) | (simp; omega) | omega); (first | rw [h1] | rw [h2] | rw [h3] | rw [h4] | rw [h5] | rw [h6] | skip)))
              all_goals
                go_ret
                exact ⟨by first | rfl | simp_all, by first | exact b0 | exact b0.trans (hbb.mono b0.size)⟩
            | true =>
              cases h7 : stepB i.sx i.cols with
              | false =>
                obtain ⟨n1, n2⟩ := stepB_no h7
                have e0 : instB i k = false := by simp [instB, h1, h2, h3, h4, h5, h6, h7]
                rw [e0]
                clear e0
                have HB : ∀ w9, Below w.heap.size w w9 → True := fun _ _ => trivial
                clear HB
                go_enter Tryz.func81, Tryz.ntmps81
                go_wp2_with (first
                  | (go_at_call 69; refine (l09In_any _ _ _ _).mono ?_; rintro e w0 ⟨rfl, rfl⟩; (first | rw [h1] | rw [h2] | rw [h3] | rw [h4] | rw [h5] | rw [h6] | rw [h7] | skip))
                  | (go_at_call 49; refine (trans9 _ _ _ _).mono ?_; rintro e w1 ⟨rfl, hbb⟩; have b0 := b0.trans (hbb.mono b0.size); obtain ⟨hc1, hf1⟩ := bcellN hbb (n := w.heap.size + 1) (by first | (simp; done) | (simp; omega) | omega); (first | rw [h1] | rw [h2] | rw [h3] | rw [h4] | rw [h5] | rw [h6] | rw [h7] | skip)))
                all_goals
                  go_ret
                  exact ⟨by first | rfl | simp_all, by first | exact b0 | exact b0.trans (hbb.mono b0.size)⟩
              | true =>
                rcases stepB_yes h7 with n1 | ⟨n1, n2⟩
                all_goals
                  cases h8 : stepB i.sy i.rows with
                  | false =>
                    obtain ⟨n3, n4⟩ := stepB_no h8
                    have e0 : instB i k = false := by simp [instB, h1, h2, h3, h4, h5, h6, h7, h8]
                    rw [e0]
                    clear e0
                    have HB : ∀ w9, Below w.heap.size w w9 → True := fun _ _ => trivial
                    clear HB
                    go_enter Tryz.func81, Tryz.ntmps81
                    go_wp2_with (first
                      | (go_at_call 69; refine (l09In_any _ _ _ _).mono ?_; rintro e w0 ⟨rfl, rfl⟩; (first | rw [h1] | rw [h2] | rw [h3] | rw [h4] | rw [h5] | rw [h6] | rw [h7] | rw [h8] | skip))
                      | (go_at_call 49; refine (trans9 _ _ _ _).mono ?_; rintro e w1 ⟨rfl, hbb⟩; have b0 := b0.trans (hbb.mono b0.size); obtain ⟨hc1, hf1⟩ := bcellN hbb (n := w.heap.size + 1) (by first | (simp; done) | (simp; omega) | omega); (first | rw [h1] | rw [h2] | rw [h3] | rw [h4] | rw [h5] | rw [h6] | rw [h7] | rw [h8] | skip)))
                    all_goals
                      go_ret
                      exact ⟨by first | rfl | simp_all, by first | exact b0 | exact b0.trans (hbb.mono b0.size)⟩
                  | true =>
                    rcases stepB_yes h8 with n3 | ⟨n3, n4⟩
                    all_goals
                      have e0 : instB i k = true := by simp [instB, h1, h2, h3, h4, h5, h6, h7, h8]
                      rw [e0]
                      clear e0
                      have HB : ∀ w9, Below w.heap.size w w9 → True := fun _ _ => trivial
                      clear HB
                      go_enter Tryz.func81, Tryz.ntmps81
                      go_wp2_with (first
                        | (go_at_call 69; refine (l09In_any _ _ _ _).mono ?_; rintro e w0 ⟨rfl, rfl⟩; (first | rw [h1] | rw [h2] | rw [h3] | rw [h4] | rw [h5] | rw [h6] | rw [h7] | rw [h8] | skip))
                        | (go_at_call 49; refine (trans9 _ _ _ _).mono ?_; rintro e w1 ⟨rfl, hbb⟩; have b0 := b0.trans (hbb.mono b0.size); obtain ⟨hc1, hf1⟩ := bcellN hbb (n := w.heap.size + 1) (by first | (simp; done) | (simp; omega) | omega); (first | rw [h1] | rw [h2] | rw [h3] | rw [h4] | rw [h5] | rw [h6] | rw [h7] | rw [h8] | skip)))
                      all_goals
                        go_ret
                        exact ⟨by first | rfl | simp_all, by first | exact b0 | exact b0.trans (hbb.mono b0.size)⟩

end Go.Proofs.YtgegbgkokkdmpaaGreat
