/- Contracts: what the laws over drawn inputs share. No conditions. -/
import Derived.Test.YtooglkdloaaomaaDraw
import Derived.Test.YtooglkdloaaomaaOk
import Derived.Test.YtooglkdloaaomaaCov
import Derived.StillTailTactics
namespace Go.Proofs.Ytooglkdloaaomaa
open Go.RowKit

set_option maxHeartbeats 400000 in
theorem big_any (A : Option Addr) (n c : Nat) (w : World) (hn : n ≤ maxLen) : Calls Try.prog 15 #[.slice A n c] w fun e w' => e = .returned (.bool (decide (4096 < n))) ∧ w = w' := by
  have hm : n ≤ 9223372036854775807 := by unfold maxLen at hn; omega
  by_cases h : 4096 < n
  · have hz : (n : Int) > 4096 := by omega
    rw [decide_eq_true h]
    go_enter Try.func15, Try.ntmps15
    go_wp2
    go_ret
    exact ⟨rfl, rfl⟩
  · have hz : ¬ (n : Int) > 4096 := by omega
    rw [decide_eq_false h]
    go_enter Try.func15, Try.ntmps15
    go_wp2
    go_ret
    exact ⟨rfl, rfl⟩
set_option maxHeartbeats 400000 in
theorem isReg_spec (v : Value) (rs : List Rc) (w : World) (hv : RL w 0 v rs) : Calls Try.prog 19 #[v] w fun e w' => e = .returned (.bool (isReg rs)) ∧ Below w.heap.size w w' := by
  go_enter Try.func19, Try.ntmps19
  go_wp2_with (go_at_call 78; refine (l03Ok_any v rs _ hv).mono ?_; rintro e w1 ⟨rfl, hb1⟩)
  go_ret
  exact ⟨rfl, hb1⟩
set_option maxHeartbeats 400000 in
set_option maxRecDepth 100000 in
/-- w9Long of a valid rectangle. -/
theorem long_any (r : Rc) (h : okRc r = true) (w : World) : Calls Try.prog 21 #[r.val] w fun e w' => e = .returned (.int .i64 (areaR r)) ∧ Below w.heap.size w w' := by
  have hb := areaR_bounds h
  have hh := (okRc_iff r).1 h
  obtain ⟨x0, y0, x1, y1⟩ := r
  unfold areaR at hb ⊢
  dsimp only at hb hh ⊢
  have z0 := Bk.new w 32 #[.int .i64 x0, .int .i64 y0, .int .i64 x1, .int .i64 y1]
  obtain ⟨p0, p1, p2, p3⟩ := box4 z0
  have t0 : Below w.heap.size w (w.alloc (.cells #[.int .i64 x0, .int .i64 y0, .int .i64 x1, .int .i64 y1] 32)) := (Below.refl _ _).alloc (Nat.le_refl _) _
  have e1 := Go.IntWalk.i64_in (x1 - x0) (by omega)
  have e2 := Go.IntWalk.i64_in (y1 - y0) (by omega)
  have e3 := Go.IntWalk.i64_in ((x1 - x0) * (y1 - y0)) (by omega)
  clear z0
  unfold Rc.val
  go_enter Try.func21, Try.ntmps21
  go_wp2
  go_ret
  exact ⟨rfl, t0⟩
set_option maxHeartbeats 1600000 in
set_option maxRecDepth 100000 in
/-- l01From. -/
theorem from_any (A : Option Addr) (n c : Nat) (w : World) (hA : ArgB w A n) (hn : n ≤ 4096) : Calls Try.prog 68 #[.slice A n c] w fun e w' => ∃ g, e = .returned (.pointer (some ⟨g, 0, none⟩)) ∧ w.heap.size ≤ g ∧ Dice w' g ∧ Below w.heap.size w w' := by
  have hm : n ≤ 9223372036854775807 := by omega
  have z0 := Bk.new w 107 #[.slice A n c, .int .i64 0, .int .i64 12345]
  have t0 : Below w.heap.size w (w.alloc (.cells #[.slice A n c, .int .i64 0, .int .i64 12345] 107)) := (Below.refl _ _).alloc (Nat.le_refl _) _
  go_enter Try.func68, Try.ntmps68
  go_wp2
  go_loopw [4] (fun iv wr => ∃ (k : Nat) (s : Int), k ≤ n ∧ iv = .int .i64 k ∧ 0 ≤ s ∧ s ≤ 2147483646 ∧ Bk wr w.heap.size 107 #[.slice A n c, .int .i64 0, .int .i64 s] ∧ Below w.heap.size w wr) (fun iv _ => n - (intOf iv).toNat)
  case atStart => exact ⟨0, 12345, Nat.zero_le _, rfl, by omega, by omega, z0, t0⟩
  case round =>
    obtain ⟨k, s, hk, rfl, hs0, hs1, hB, hb⟩ := hrel
    clear z0 t0
    by_cases hc : k < n ∧ k < 64
    · obtain ⟨hlt, h64⟩ := hc
      have h64z : (k : Int) < 64 := by omega
      obtain ⟨b, off, x, rfl, hbl, f0, hx0, hx1⟩ := (hA.on hb).elem k hlt
      obtain ⟨d0, d1, d2⟩ := box3 hB
      have z2 := hB.frozen 2
      have e1 := Go.IntWalk.i64_in (s * 31) (by omega)
      have e2 := Go.IntWalk.i64_in (s * 31 + x) (by omega)
      have ex := Go.IntWalk.i64_in x (by omega)
      have hr := emod_in (x := s * 31 + x) (n := 2147483647) (by omega)
      have hst := Lib.hid (hB.store 2 (.int .i64 ((s * 31 + x) % 2147483647)))
      have hbz := hb.setCell (p := ⟨w.heap.size, 2, none⟩) (Nat.le_refl _) (.int .i64 ((s * 31 + x) % 2147483647))
      clear hB
      go_wp2
      go_still_tail 15, (by kernel_rfl)
      change wpList _ _ _ _ _ wr.drew
      go_wp2
      exact ⟨⟨k + 1, (s * 31 + x) % 2147483647, by omega, by go_num, hr.1, by omega, hst.out, hbz.drew⟩, by simp [intOf]; omega⟩
    · by_cases hlt : k < n
      · have h64z : ¬ (k : Int) < 64 := by omega
        go_wp2
        go_ret
        exact ⟨_, rfl, Nat.le_refl _, ⟨A, n, c, 0, s, hB, Nat.zero_le _, by omega, hs0, hs1, hA.on hb, hA.at_⟩, hb⟩
      · go_wp2
        go_ret
        exact ⟨_, rfl, Nat.le_refl _, ⟨A, n, c, 0, s, hB, Nat.zero_le _, by omega, hs0, hs1, hA.on hb, hA.at_⟩, hb⟩

end Go.Proofs.Ytooglkdloaaomaa
