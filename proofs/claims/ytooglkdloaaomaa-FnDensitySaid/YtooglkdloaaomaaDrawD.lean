/- Contracts: the regions and distances that the laws draw: l17DrawAny, l17DrawDistance. Condition: a well-formed source. -/
import Derived.Test.YtooglkdloaaomaaDrawC
namespace Go.Proofs.Ytooglkdloaaomaa
open Go.RowKit

theorem RL.lit (w : World) {B : Nat} (hB : B ≤ w.heap.size) (x0 y0 x1 y1 : Int) : RL (w.alloc (.cells #[.int .i64 x0, .int .i64 y0, .int .i64 x1, .int .i64 y1] 32)) B (.slice (some ⟨w.heap.size, 0, none⟩) 1 1) [⟨x0, y0, x1, y1⟩] := World.ownsRow_lit w #[.int .i64 x0, .int .i64 y0, .int .i64 x1, .int .i64 y1] 1 hB (by simp [maxLen]) rfl

set_option maxHeartbeats 800000 in
set_option maxRecDepth 100000 in
/-- l17DrawAny. -/
theorem drawAny_any (g : Nat) (w : World) (hD : Dice w g) : Calls Try.prog 69 #[.pointer (some ⟨g, 0, none⟩)] w fun e w' => ∃ v rs, e = .returned v ∧ RL w' w.heap.size v rs ∧ rs.length ≤ 8000 ∧ Dice w' g ∧ w.grownBy w' (some g) := by
  have hg := hD.lt
  go_enter Try.func69, Try.ntmps69
  go_wp2_with fail
  refine (drawRegion17_any g _ hD).mono ?_
  rintro e w1 ⟨v1, rs, rfl, hR1, hl1, hD1, hG1⟩
  go_wp2_with fail
  refine (next_any g 20 _ hD1 (by omega)).mono ?_
  rintro e w2 ⟨k, rfl, hk, hD2, hG2⟩
  have hR2 := hR1.keptG hG2 hg
  have hA2 := only_trans hG1 hG2
  clear hD hD1 hR1 hG1 hG2
  obtain ⟨A, c, rfl, hc, hm, -⟩ := hR2.form
  have hm' : rs.length ≤ 9223372036854775807 := by omega
  by_cases hk0 : k = 0
  · subst hk0
    by_cases hl0 : rs.length = 0
    · obtain rfl : rs = [] := List.length_eq_zero_iff.1 hl0
      clear hl0
      go_wp2
      go_ret
      exact ⟨_, _, rfl, hR2, by simp, hD2, hA2⟩
    · obtain ⟨m, hm1⟩ : ∃ m, rs.length = m + 1 := ⟨rs.length - 1, by omega⟩
      have hlz : (rs.length : Int) > 0 := by omega
      have hml : m < rs.length := by omega
      have en := Go.IntWalk.i64_in ((rs.length : Int) - 1) (by omega)
      have em : (rs.length : Int) - 1 = (m : Int) := by omega
      rw [em] at en
      have hmz : (0 : Int) ≤ (m : Int) ∧ (m : Int) < rs.length := by omega
      obtain ⟨gr, x0, y0, x1, y1, rfl, hr, hgr, f0, f1, f2, f3⟩ := hR2.elem hml
      have r1 := RL.lit w2 hA2.size x0 y0 x1 y1
      have hD3 := hD2.alloc (.cells #[.int .i64 x0, .int .i64 y0, .int .i64 x1, .int .i64 y1] 32)
      have hA3 := only_alloc hA2 (.cells #[.int .i64 x0, .int .i64 y0, .int .i64 x1, .int .i64 y1] 32)
      have hR3 := RL.alloc hR2 (.cells #[.int .i64 x0, .int .i64 y0, .int .i64 x1, .int .i64 y1] 32)
      have hs3 := hA3.size
      have hlen : ([(⟨x0, y0, x1, y1⟩ : Rc)]).length + rs.length ≤ 1000000 := by rw [List.length_singleton]; omega
      clear hr hm1 hD2 hA2 hR2
      go_wp2_with (at_builtin; refine wpList_append_RR rfl (.tmp 20) (.tmp 21) rfl w.heap.size w.heap.size _ _ _ _ rfl r1 rfl hR3 hlen hs3 ?_; intro v' w3 hR4 hb4)
      go_ret
      exact ⟨_, _, rfl, hR4, by rw [List.length_append, List.length_singleton]; omega, hD3.below hb4 hg, only_above hA3 hb4⟩
  · go_wp2
    go_ret
    exact ⟨_, _, rfl, hR2, by omega, hD2, hA2⟩

end Go.Proofs.Ytooglkdloaaomaa
