/- The laws' own helpers on rectangles: two equal lists are found equal; a list that is marked reads back as marked. -/
import Derived.Test.YtemeegpmdhgocaaGreatMemA
namespace Go.Proofs.YtemeegpmdhgocaaGreat
open Go.RowKit

/-- eqRect of two equal rectangles. -/
theorem eqRect_same (r : Rc) (w : World) : Calls Tryz.prog 75 #[r.val, r.val] w fun e w' => e = .returned (.bool true) ∧ Below w.heap.size w w' := by
  obtain ⟨x0, y0, x1, y1⟩ := r
  unfold Rc.val
  go_enter Tryz.func75, Tryz.ntmps75
  go_wp2
  go_ret
  exact ⟨rfl, (((Below.refl _ _).alloc (Nat.le_refl _) _).alloc (by simp) _)⟩

set_option maxHeartbeats 400000 in
set_option maxRecDepth 100000 in
theorem eqRectS_same (v u : Value) (rs : List Rc) (w : World) (hv : RL w 0 v rs) (hu : RL w 0 u rs) :
    Calls Tryz.prog 41 #[v, u] w fun e w' => e = .returned (.bool true) ∧ Below w.heap.size w w' := by
  obtain ⟨A, c1, rfl, hc1, hm1, -⟩ := hv.form
  obtain ⟨A2, c2, rfl, hc2, hm2, -⟩ := hu.form
  have hlen : rs.length ≤ 9223372036854775807 := by unfold maxLen at hm1; omega
  go_enter Tryz.func41, Tryz.ntmps41
  go_wp2
  go_loopw [5] (fun i wr => ∃ k : Nat, k ≤ rs.length ∧ i = .int .i64 k ∧ Below w.heap.size w wr) (fun i _ => rs.length - (intOf i).toNat)
  case atStart => exact ⟨0, Nat.zero_le _, rfl, Below.refl _ _⟩
  case round =>
    obtain ⟨k, hk, rfl, hb⟩ := hrel
    by_cases hlt : k < rs.length
    · obtain ⟨g, x0, y0, x1, y1, hA, hr, hg, f0, f1, f2, f3⟩ := (hv.on hb).elem hlt
      obtain ⟨g', x0', y0', x1', y1', hA', hr', hg', f0', f1', f2', f3'⟩ := (hu.on hb).elem hlt
      have hrr := hr.symm.trans hr'
      simp only [Option.some.injEq, Rc.mk.injEq] at hrr
      obtain ⟨rfl, rfl, rfl, rfl⟩ := hrr
      clear hr' hr
      subst hA
      subst hA'
      clear hv hu
      go_wp2
      go_still_tail 8, (by kernel_rfl)
      change wpList _ _ _ _ _ wr.drew
      have hb2 : Below w.heap.size w wr.drew := hb.drew
      have hsz : wr.drew.heap.size = wr.heap.size := rfl
      generalize wr.drew = w2 at *
      go_wp2_with (go_at_call 75; refine (eqRect_same ⟨x0, y0, x1, y1⟩ _).mono ?_; rintro e w1 ⟨rfl, hb1⟩)
      exact ⟨⟨k + 1, by omega, by go_num, hb2.trans (hb1.mono hb2.size)⟩, by simp [intOf]; omega⟩
    · go_wp2
      go_ret
      exact ⟨rfl, hb⟩

/-- The mark of the element i. -/
def mark (k : Int) (i : Nat) : Rc := ⟨k + 4 * i, k + 4 * i + 1, k + 4 * i + 2, k + 4 * i + 3⟩
def marks (k : Int) (n : Nat) : List Rc := (List.range n).map (mark k)
theorem marks_length (k : Int) (n : Nat) : (marks k n).length = n := by simp [marks]
theorem marks_get (k : Int) (n i : Nat) (h : i < n) : (marks k n)[i]? = some (mark k i) := by simp [marks, h]
/-- The first j elements are marked. -/
def mixed (k : Int) (rs : List Rc) (j : Nat) : List Rc := marks k j ++ rs.drop j
theorem mixed_length (k : Int) (rs : List Rc) (j : Nat) (h : j ≤ rs.length) : (mixed k rs j).length = rs.length := by
  simp only [mixed, List.length_append, marks_length, List.length_drop]; omega
theorem mixed_step (k : Int) (rs : List Rc) (j : Nat) (h : j < rs.length) : (mixed k rs j).set j (mark k j) = mixed k rs (j + 1) := by
  have e : rs.drop j = rs[j] :: rs.drop (j + 1) := List.drop_eq_getElem_cons h
  have e2 : marks k (j + 1) = marks k j ++ [mark k j] := by simp [marks, List.range_succ]
  unfold mixed
  rw [List.set_append_right _ _ (by rw [marks_length]; exact Nat.le_refl _), marks_length, Nat.sub_self, e, List.set_cons_zero, e2, List.append_assoc]
  rfl
theorem mixed_end (k : Int) (rs : List Rc) : mixed k rs rs.length = marks k rs.length := by simp [mixed]

set_option maxHeartbeats 400000 in
set_option maxRecDepth 100000 in
theorem markRectS_any (v : Value) (rs : List Rc) (w : World) (B : Nat) (hv : RL w B v rs) (k0 : Int) (h0 : 0 ≤ k0) (h1 : k0 ≤ 10000000) (hn : rs.length ≤ 1048576) :
    Calls Tryz.prog 43 #[v, .int .i64 k0] w fun e w' => e = .returned (.int .i64 (k0 + 4 * rs.length)) ∧ RL w' B v (marks k0 rs.length) ∧ w.grownBy w' v.ownBlock := by
  obtain ⟨A, c1, rfl, hc1, hm1, -⟩ := hv.form
  go_enter Tryz.func43, Tryz.ntmps43
  go_wp2
  go_loopw [1, 5] (fun kv i wr => ∃ j : Nat, j ≤ rs.length ∧ i = .int .i64 j ∧ kv = .int .i64 (k0 + 4 * j) ∧ RL wr B (.slice A rs.length c1) (mixed k0 rs j) ∧ w.grownBy wr (Value.slice A rs.length c1).ownBlock) (fun _ i _ => rs.length - (intOf i).toNat)
  case atStart => exact ⟨0, Nat.zero_le _, rfl, by simp, by simpa [mixed, marks] using hv, only_refl _ _⟩
  case round =>
    obtain ⟨j, hj, rfl, rfl, hR, hg⟩ := hrel
    by_cases hlt : j < rs.length
    · have hjl : j < (mixed k0 rs j).length := by rw [mixed_length k0 rs j hj]; exact hlt
      obtain ⟨g, x0, y0, x1, y1, rfl, _, hgs, f0, f1, f2, f3⟩ := hR.elem hjl
      have z := hR.frozen
      have z0 := z (j * 4)
      have z1 := z (j * 4 + 1)
      have z2 := z (j * 4 + 2)
      have z3 := z (j * 4 + 3)
      clear z hv
      have hS := hR.set4 hjl (k0 + 4 * j) (k0 + 4 * j + 1) (k0 + 4 * j + 1 + 1) (k0 + 4 * j + 1 + 1 + 1)
      have hG := only_store (only_store (only_store (only_store hg (j * 4) (.int .i64 (k0 + 4 * j))) (j * 4 + 1) (.int .i64 (k0 + 4 * j + 1))) (j * 4 + 2) (.int .i64 (k0 + 4 * j + 1 + 1))) (j * 4 + 3) (.int .i64 (k0 + 4 * j + 1 + 1 + 1))
      have HS := Lib.hid hS
      have HG := Lib.hid hG
      clear hS hG hR hg
      go_wp2
      refine ⟨⟨j + 1, by omega, by go_num, by go_num, ?_, HG.out⟩, by simp [intOf]; omega⟩
      rw [← mixed_step k0 rs j hlt]
      have e : mark k0 j = ⟨k0 + 4 * j, k0 + 4 * j + 1, k0 + 4 * j + 1 + 1, k0 + 4 * j + 1 + 1 + 1⟩ := by unfold mark; congr 1 <;> omega
      rw [e]
      exact HS.out
    · go_wp2
      go_ret
      have : j = rs.length := by omega
      subst this
      rw [mixed_end] at hR
      exact ⟨rfl, hR, hg⟩

end Go.Proofs.YtemeegpmdhgocaaGreat
