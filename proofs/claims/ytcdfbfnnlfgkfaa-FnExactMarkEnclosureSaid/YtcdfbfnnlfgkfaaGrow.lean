/- Contracts: the program's grown and grow. Conditions: rectangles of the chip, 0 ≤ k ≤ 1000. -/
import Derived.Test.YtcdfbfnnlfgkfaaNearMath
import Derived.Test.YtcdfbfnnlfgkfaaPut
import Derived.Test.YtcdfbfnnlfgkfaaRegion
namespace Go.Proofs.Ytcdfbfnnlfgkfaa
open Go.RowKit

theorem cellsG_map_succ {rs : List Rc} {f : Rc → Rc} {k : Nat} {r : Rc} (h : rs[k]? = some r) : cellsG ((rs.take (k + 1)).map f) = orR (cellsG ((rs.take k).map f)) (f r) := by
  rw [List.take_add_one, h, Option.toList, List.map_append, List.map_cons, List.map_nil, cellsG_snoc]

set_option maxHeartbeats 400000 in
set_option maxRecDepth 100000 in
/-- grown. -/
theorem grown_any (v : Value) (rs : List Rc) (k : Int) (w : World) (hv : RL w 0 v rs) (hok : okAll rs = true) (hk : 0 ≤ k ∧ k ≤ 1000) : Calls Try.prog 108 #[v, .int .i64 k] w fun e w' => ∃ g, e = .returned (.pointer (some ⟨g, 0, none⟩)) ∧ w.heap.size ≤ g ∧ GB w' g 84 (grownG rs k) ∧ Below w.heap.size w w' := by
  obtain ⟨A, c, rfl, hc, hm, -⟩ := hv.form
  have hm' : rs.length ≤ 9223372036854775807 := by unfold maxLen at hm; omega
  have Hok := Lib.hid hok
  clear hok
  have g0 := GB.zero w 84
  have b0 : Below w.heap.size w (w.alloc (.cells Try.zeroCells84 84)) := (Below.refl _ _).alloc (Nat.le_refl _) _
  go_enter Try.func108, Try.ntmps108
  go_wp2
  go_loopw [12] (fun i wr => ∃ j : Nat, j ≤ rs.length ∧ i = .int .i64 j ∧ GB wr w.heap.size 84 (cellsG ((rs.take j).map (growR k))) ∧ Below w.heap.size w wr) (fun i _ => rs.length - (intOf i).toNat)
  case atStart => exact ⟨0, Nat.zero_le _, rfl, g0, b0⟩
  case round =>
    obtain ⟨j, hj, rfl, hG, hb⟩ := hrel
    clear g0 b0
    by_cases hlt : j < rs.length
    · obtain ⟨g, x0, y0, x1, y1, rfl, hr, hg, f0, f1, f2, f3⟩ := (hv.on hb).elem hlt
      have hrok := (okRc_iff _).1 (okAll_get Hok.out hr)
      dsimp only at hrok
      have Hr := Lib.hid (cellsG_map_succ (f := growR k) hr)
      clear hr
      go_wp2_with (go_at_call 93; refine (put_any _ _ ⟨x0 - k, y0 - k, x1 + k, y1 + k⟩ _ (hG.alloc _)).mono ?_; rintro e w1 ⟨rfl, hG1, hO1⟩)
      refine ⟨⟨j + 1, by omega, by go_num, hG1.cong Hr.out.symm, only_far (hb.alloc hb.size _) hO1 (by simp; have := hb.size; omega) (Nat.le_refl _)⟩, by simp [intOf]; omega⟩
    · go_wp2
      go_ret
      have : j = rs.length := by omega
      subst this
      rw [List.take_length] at hG
      exact ⟨_, rfl, Nat.le_refl _, hG, hb⟩

/-- grow. -/
theorem grow_any (v : Value) (rs : List Rc) (k : Int) (w : World) (hv : RL w 0 v rs) (hok : okAll rs = true) (hk : 0 ≤ k ∧ k ≤ 1000) : Calls Try.prog 95 #[v, .int .i64 k] w fun e w' => ∃ u, e = .returned u ∧ RL w' w.heap.size u (canon (grownG rs k)) ∧ Below w.heap.size w w' := by
  go_enter Try.func95, Try.ntmps95
  go_wp2_with (first | (go_at_call 108; refine (grown_any v rs k _ hv hok hk).mono ?_; rintro e w1 ⟨g, rfl, hg, hG, hb1⟩)
                     | (go_at_call 86; refine (region_any g _ _ hG).mono ?_; rintro e w2 ⟨u, rfl, hR, hb2⟩))
  go_ret
  exact ⟨_, rfl, hR.less hb1.size, hb1.trans (hb2.mono hb1.size)⟩

end Go.Proofs.Ytcdfbfnnlfgkfaa
