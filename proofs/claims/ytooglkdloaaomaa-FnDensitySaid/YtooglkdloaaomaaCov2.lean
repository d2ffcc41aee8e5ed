/- Contracts: coveredCells; CoveredCells of the reference and of the program. No conditions. -/
import Derived.Test.YtooglkdloaaomaaCov
import Derived.Deep.RegionHeld3
namespace Go.Proofs.Ytooglkdloaaomaa
open Go.RowKit

set_option maxHeartbeats 800000 in
set_option maxRecDepth 100000 in
/-- coveredCells. -/
theorem coveredCells_any (v : Value) (rs : List Rc) (b : Rc) (w : World) (hv : RL w 0 v rs) (hlen : rs.length ≤ 100000) : Calls Try.prog 73 #[v, b.val] w fun e w' => e = .returned (.int .i64 (sumC rs b)) ∧ Below w.heap.size w w' := by
  obtain ⟨A, c, rfl, hc, hm, -⟩ := hv.form
  have hm' : rs.length ≤ 9223372036854775807 := by omega
  have z0 := Bk.new w 32 #[.int .i64 b.x0, .int .i64 b.y0, .int .i64 b.x1, .int .i64 b.y1]
  have b0 : Below w.heap.size w (w.alloc (.cells #[.int .i64 b.x0, .int .i64 b.y0, .int .i64 b.x1, .int .i64 b.y1] 32)) := (Below.refl _ _).alloc (Nat.le_refl _) _
  unfold Rc.val
  go_enter Try.func73, Try.ntmps73
  go_wp2
  go_loopw [5, 11] (fun sv i wr => ∃ k : Nat, k ≤ rs.length ∧ i = .int .i64 k ∧ sv = .int .i64 (sumC (rs.take k) b) ∧ Bk wr w.heap.size 32 #[.int .i64 b.x0, .int .i64 b.y0, .int .i64 b.x1, .int .i64 b.y1] ∧ Below w.heap.size w wr) (fun _ i _ => rs.length - (intOf i).toNat)
  case atStart => exact ⟨0, Nat.zero_le _, rfl, rfl, z0, b0⟩
  case round =>
    obtain ⟨k, hk, rfl, rfl, hz, hb⟩ := hrel
    clear z0 b0
    by_cases hlt : k < rs.length
    · obtain ⟨g, x0, y0, x1, y1, rfl, hr, hg, f0, f1, f2, f3⟩ := (hv.on hb).elem hlt
      have Hr := Lib.hid (sumC_take_succ b hr)
      clear hr
      have hbd := sumC_bounds (rs.take k) b
      rw [List.length_take] at hbd
      have hbd2 := partC_bounds ⟨x0, y0, x1, y1⟩ b
      have hzA := hz.alloc (.cells #[.int .i64 x0, .int .i64 y0, .int .i64 x1, .int .i64 y1] 32)
      have hbA := hb.alloc hb.size (.cells #[.int .i64 x0, .int .i64 y0, .int .i64 x1, .int .i64 y1] 32)
      obtain ⟨e0, e1, e2, e3⟩ := box4 hzA
      have hbound : 0 ≤ sumC (rs.take k) b ∧ sumC (rs.take k) b ≤ 640000000 := by omega
      clear hbd
      by_cases hok : okRc (commonR ⟨x0, y0, x1, y1⟩ b) = true
      · have hp : partC ⟨x0, y0, x1, y1⟩ b = areaR (commonR ⟨x0, y0, x1, y1⟩ b) := if_pos hok
        rw [hp] at hbd2
        rw [hp] at Hr
        clear hp
        go_wp2_with (first | (go_at_call 128; refine (common_any ⟨x0, y0, x1, y1⟩ b _).mono ?_; rintro e w1 ⟨rfl, hb1⟩; have hz1 := hzA.on hb1; have t1 := hbA.trans (hb1.mono hbA.size); have hN := Bk.new w1 32 #[.int .i64 (commonR ⟨x0, y0, x1, y1⟩ b).x0, .int .i64 (commonR ⟨x0, y0, x1, y1⟩ b).y0, .int .i64 (commonR ⟨x0, y0, x1, y1⟩ b).x1, .int .i64 (commonR ⟨x0, y0, x1, y1⟩ b).y1]; have t2 := t1.alloc t1.size (.cells #[.int .i64 (commonR ⟨x0, y0, x1, y1⟩ b).x0, .int .i64 (commonR ⟨x0, y0, x1, y1⟩ b).y0, .int .i64 (commonR ⟨x0, y0, x1, y1⟩ b).x1, .int .i64 (commonR ⟨x0, y0, x1, y1⟩ b).y1] 32); have hz2 := hz1.alloc (.cells #[.int .i64 (commonR ⟨x0, y0, x1, y1⟩ b).x0, .int .i64 (commonR ⟨x0, y0, x1, y1⟩ b).y0, .int .i64 (commonR ⟨x0, y0, x1, y1⟩ b).x1, .int .i64 (commonR ⟨x0, y0, x1, y1⟩ b).y1] 32))
                           | (go_at_call 79; refine (valid_impl (commonR ⟨x0, y0, x1, y1⟩ b) _).mono ?_; rintro e w3 ⟨rfl, hb3⟩; obtain ⟨n0, n1, n2, n3⟩ := box4 (hN.on hb3))
                           | (go_at_call 74; refine (area_impl (commonR ⟨x0, y0, x1, y1⟩ b) hok _).mono ?_; rintro e w4 ⟨rfl, hb4⟩))
        have t3 := t2.trans (hb3.mono t2.size)
        exact ⟨⟨k + 1, by omega, by go_num, by rw [Hr.out], (hz2.on hb3).on hb4, t3.trans (hb4.mono t3.size)⟩, by simp [intOf]; omega⟩
      · have hp : partC ⟨x0, y0, x1, y1⟩ b = 0 := if_neg hok
        have hok' : okRc (commonR ⟨x0, y0, x1, y1⟩ b) = false := by simpa using hok
        clear hok
        rw [hp, Int.add_zero] at Hr
        clear hp hbd2
        go_wp2_with (first | (go_at_call 128; refine (common_any ⟨x0, y0, x1, y1⟩ b _).mono ?_; rintro e w1 ⟨rfl, hb1⟩; have hz1 := hzA.on hb1; have t1 := hbA.trans (hb1.mono hbA.size); have t2 := t1.alloc t1.size (.cells #[.int .i64 (commonR ⟨x0, y0, x1, y1⟩ b).x0, .int .i64 (commonR ⟨x0, y0, x1, y1⟩ b).y0, .int .i64 (commonR ⟨x0, y0, x1, y1⟩ b).x1, .int .i64 (commonR ⟨x0, y0, x1, y1⟩ b).y1] 32); have hz2 := hz1.alloc (.cells #[.int .i64 (commonR ⟨x0, y0, x1, y1⟩ b).x0, .int .i64 (commonR ⟨x0, y0, x1, y1⟩ b).y0, .int .i64 (commonR ⟨x0, y0, x1, y1⟩ b).x1, .int .i64 (commonR ⟨x0, y0, x1, y1⟩ b).y1] 32))
                           | (go_at_call 79; refine (valid_impl (commonR ⟨x0, y0, x1, y1⟩ b) _).mono ?_; rintro e w3 ⟨rfl, hb3⟩))
        exact ⟨⟨k + 1, by omega, by go_num, by rw [Hr.out], hz2.on hb3, t2.trans (hb3.mono t2.size)⟩, by simp [intOf]; omega⟩
    · go_wp2
      go_ret
      have : k = rs.length := by omega
      subst this
      rw [List.take_length]
      exact ⟨rfl, hb⟩

end Go.Proofs.Ytooglkdloaaomaa
