/- Lists of integers in rows of the call's own, and the laws' helpers on them. No conditions. -/
import Derived.Test.YtbljapihmkmolaaLawKit
import Derived.Test.YtbljapihmkmolaaCanonA
namespace Go.Proofs.Ytbljapihmkmolaa
open Go.RowKit

theorem valsI_length (xs : List Int) : (valsI xs).length = xs.length := by simp [valsI]
theorem valsI_get (xs : List Int) (k : Nat) : (valsI xs)[k]? = (xs[k]?).map (Value.int .i64) := by simp [valsI]
theorem valsI_set (xs : List Int) (k : Nat) (x : Int) : (valsI xs).set k (.int .i64 x) = valsI (xs.set k x) := by simp [valsI]
section
variable {w w' : World} {B B' : Nat} {v : Value} {xs : List Int}
theorem IL.nil (w : World) (B : Nat) : IL w B (.slice none 0 0) [] := World.ownsRow_nil w B _ _
theorem IL.lt (h : IL w B v xs) : ∀ g, v.ownBlock = some g → B ≤ g ∧ g < w.heap.size := own_lt h
theorem IL.set {g n c : Nat} (h : IL w B (.slice (some ⟨g, 0, none⟩) n c) xs) (j : Nat) (x : Int) : IL (w.setCell ⟨g, j, none⟩ (.int .i64 x)) B (.slice (some ⟨g, 0, none⟩) n c) (xs.set j x) := by
  obtain ⟨A, c', e, _, _⟩ := h.form
  simp only [Value.slice.injEq] at e
  obtain ⟨_, rfl, _⟩ := e
  unfold IL at h ⊢
  rw [← valsI_set, List.length_set]
  exact (World.ownsRow.stored h j (.int .i64 x)).1
theorem IL.frozen {g n c : Nat} (h : IL w B (.slice (some ⟨g, 0, none⟩) n c) xs) (j : Nat) : w.frozen? ⟨g, j, none⟩ = false := by
  obtain ⟨A, c', e, _, _⟩ := h.form
  simp only [Value.slice.injEq] at e
  obtain ⟨_, rfl, _⟩ := e
  exact World.ownsRow.frozenAt h j
theorem IL.far {N : Nat} {u : Value} (h : IL w B v xs) (hN : ∀ g, v.ownBlock = some g → g < N) (hg : w.grownBy w' u.ownBlock) (hu : ∀ g, u.ownBlock = some g → N ≤ g) : IL w' B v xs := own_far h hN hg hu
theorem IL.near {N : Nat} {u : Value} (h : IL w B v xs) (hN : ∀ g, v.ownBlock = some g → N ≤ g) (hg : w.grownBy w' u.ownBlock) (hu : ∀ g, u.ownBlock = some g → g < N) : IL w' B v xs := own_near h hN hg hu
end

set_option maxHeartbeats 400000 in
set_option maxRecDepth 100000 in
theorem eqInt64S_same (v u : Value) (xs : List Int) (w : World) (hv : IL w 0 v xs) (hu : IL w 0 u xs) :
    Calls Try.prog 24 #[v, u] w fun e w' => e = .returned (.bool true) ∧ Below w.heap.size w w' := by
  obtain ⟨A, c1, rfl, hc1, hm1⟩ := hv.form
  obtain ⟨A2, c2, rfl, hc2, hm2⟩ := hu.form
  have hlen : xs.length ≤ 9223372036854775807 := by unfold maxLen at hm1; omega
  go_enter Try.func24, Try.ntmps24
  go_wp2
  go_loopw [5] (fun i wr => ∃ k : Nat, k ≤ xs.length ∧ i = .int .i64 k ∧ Below w.heap.size w wr) (fun i _ => xs.length - (intOf i).toNat)
  case atStart => exact ⟨0, Nat.zero_le _, rfl, Below.refl _ _⟩
  case round =>
    obtain ⟨k, hk, rfl, hb⟩ := hrel
    by_cases hlt : k < xs.length
    · obtain ⟨g, x, rfl, hr, -, hg, f0⟩ := (hv.on hb).elem hlt
      obtain ⟨g', x', rfl, hr', -, hg', f0'⟩ := (hu.on hb).elem hlt
      have hrr := hr.symm.trans hr'
      simp only [Option.some.injEq] at hrr
      subst hrr
      clear hr hr' hv hu
      go_wp2
      go_region
      all_goals
        go_wp2
        exact ⟨⟨k + 1, by omega, by go_num, hb.drew⟩, by simp [intOf]; omega⟩
    · go_wp2
      go_ret
      exact ⟨rfl, hb⟩

/-- The first j elements are marked. -/
def marksI (k : Int) (n : Nat) : List Int := (List.range n).map fun i : Nat => k + i
theorem marksI_length (k : Int) (n : Nat) : (marksI k n).length = n := by simp [marksI]
theorem marksI_get (k : Int) (n i : Nat) (h : i < n) : (marksI k n)[i]? = some (k + i) := by simp [marksI, h]
def mixedI (k : Int) (xs : List Int) (j : Nat) : List Int := marksI k j ++ xs.drop j
theorem mixedI_length (k : Int) (xs : List Int) (j : Nat) (h : j ≤ xs.length) : (mixedI k xs j).length = xs.length := by
  simp only [mixedI, List.length_append, marksI_length, List.length_drop]; omega
theorem mixedI_step (k : Int) (xs : List Int) (j : Nat) (h : j < xs.length) : (mixedI k xs j).set j (k + j) = mixedI k xs (j + 1) := by
  have e : xs.drop j = xs[j] :: xs.drop (j + 1) := List.drop_eq_getElem_cons h
  have e2 : marksI k (j + 1) = marksI k j ++ [k + j] := by simp [marksI, List.range_succ]
  unfold mixedI
  rw [List.set_append_right _ _ (by rw [marksI_length]; exact Nat.le_refl _), marksI_length, Nat.sub_self, e, List.set_cons_zero, e2, List.append_assoc]
  rfl
theorem mixedI_end (k : Int) (xs : List Int) : mixedI k xs xs.length = marksI k xs.length := by simp [mixedI]

set_option maxHeartbeats 400000 in
set_option maxRecDepth 100000 in
theorem markInt64S_any (v : Value) (xs : List Int) (w : World) (B : Nat) (hv : IL w B v xs) (k0 : Int) (h0 : 0 ≤ k0) (h1 : k0 ≤ 10000000) (hn : xs.length ≤ 1048576) :
    Calls Try.prog 26 #[v, .int .i64 k0] w fun e w' => e = .returned (.int .i64 (k0 + xs.length)) ∧ IL w' B v (marksI k0 xs.length) ∧ w.grownBy w' v.ownBlock := by
  obtain ⟨A, c1, rfl, hc1, hm1⟩ := hv.form
  go_enter Try.func26, Try.ntmps26
  go_wp2
  go_loopw [1, 5] (fun kv i wr => ∃ j : Nat, j ≤ xs.length ∧ i = .int .i64 j ∧ kv = .int .i64 (k0 + j) ∧ IL wr B (.slice A xs.length c1) (mixedI k0 xs j) ∧ w.grownBy wr (Value.slice A xs.length c1).ownBlock) (fun _ i _ => xs.length - (intOf i).toNat)
  case atStart => exact ⟨0, Nat.zero_le _, rfl, by simp, by simpa [mixedI, marksI] using hv, only_refl _ _⟩
  case round =>
    obtain ⟨j, hj, rfl, rfl, hR, hg⟩ := hrel
    by_cases hlt : j < xs.length
    · have hjl : j < (mixedI k0 xs j).length := by rw [mixedI_length k0 xs j hj]; exact hlt
      obtain ⟨g, x, rfl, _, -, hgs, f0⟩ := hR.elem hjl
      have z0 := hR.frozen j
      clear hv
      have HS := Lib.hid (hR.set j (k0 + j))
      have HG := Lib.hid (only_store hg j (.int .i64 (k0 + j)))
      clear hR hg
      go_wp2
      refine ⟨⟨j + 1, by omega, by go_num, by go_num, ?_, HG.out⟩, by simp [intOf]; omega⟩
      rw [← mixedI_step k0 xs j hlt]
      exact HS.out
    · go_wp2
      go_ret
      have : j = xs.length := by omega
      subst this
      rw [mixedI_end] at hR
      exact ⟨rfl, hR, hg⟩

set_option maxHeartbeats 400000 in
set_option maxRecDepth 100000 in
theorem heldInt64S_any (v : Value) (n : Nat) (w : World) (k0 : Int) (hv : IL w 0 v (marksI k0 n)) (h0 : 0 ≤ k0) (h1 : k0 ≤ 10000000) (hn : n ≤ 1048576) :
    Calls Try.prog 27 #[v, .int .i64 k0] w fun e w' => e = .returned (.int .i64 (k0 + n)) ∧ w = w' := by
  obtain ⟨A, c1, rfl, hc1, hm1⟩ := hv.form
  have hl := marksI_length k0 n
  rw [hl] at hc1
  have Hv := Lib.hid hv
  have Hl := Lib.hid hl
  rw [hl]
  clear hl hv
  go_enter Try.func27, Try.ntmps27
  go_wp2
  go_loop [1, 5] (fun kv i => ∃ j : Nat, j ≤ n ∧ i = .int .i64 j ∧ kv = .int .i64 (k0 + j)) (fun _ i => n - (intOf i).toNat)
  case atStart => exact ⟨0, Nat.zero_le _, rfl, by simp⟩
  case round =>
    obtain ⟨j, hj, rfl, rfl⟩ := hrel
    by_cases hlt : j < n
    · obtain ⟨g, x, rfl, hr, -, hgs, f0⟩ := Hv.out.elem (k := j) (by rw [Hl.out]; exact hlt)
      rw [marksI_get k0 n j hlt] at hr
      simp only [Option.some.injEq] at hr
      subst hr
      go_wp2
      go_round
      case rel => exact ⟨j + 1, by omega, by go_num, by go_num⟩
      case measure => simp [intOf]; omega
    · go_wp2
      go_ret
      have : j = n := by omega
      subst this
      exact ⟨rfl, rfl⟩

end Go.Proofs.Ytbljapihmkmolaa
