/- Contracts: the dice of the laws: roll, below. Conditions: a code of at most 4096 bytes; a bound between 1 and 1000000. -/
import Derived.Test.YtcckamhokdodnaaGreatDoorDrawK
import Derived.Laws.Closers25b
import Derived.Laws.BitsLemmas
import Derived.StillTailTactics
namespace Go.Proofs.YtcckamhokdodnaaGreatDoor
open Go.RowKit

/-- The dice of a law in the block g. -/
structure DiceL (w : World) (g : Nat) : Prop where
  blk : ∃ (A : Option Addr) (n c i : Nat) (h : Int), Bk w g 90 #[.slice A n c, .int .i64 i, .int .u64 h] ∧ i ≤ n ∧ n ≤ 1000000 ∧ (0 ≤ h ∧ h ≤ 18446744073709551615) ∧ ArgB w A n ∧ (∀ p, A = some p → 0 < n → p.block < g)
section
variable {w w' : World} {g : Nat}
theorem DiceL.lt (h : DiceL w g) : g < w.heap.size := let ⟨_, _, _, _, _, hb, _⟩ := h.blk; hb.lt
theorem DiceL.below {B : Nat} (h : DiceL w g) (hb : Below B w w') (hg : g < B) : DiceL w' g := by
  obtain ⟨A, n, c, i, s, h1, h2, h3, h4, h6, h7⟩ := h.blk
  exact ⟨A, n, c, i, s, h1.below hb hg, h2, h3, h4, h6.low (fun p hp hn => by have := h7 p hp hn; omega) hb, h7⟩
theorem DiceL.on (h : DiceL w g) (hb : Below w.heap.size w w') : DiceL w' g := h.below hb h.lt
theorem DiceL.alloc (h : DiceL w g) (o : Obj) : DiceL (w.alloc o) g := h.on ((Below.refl _ _).alloc (Nat.le_refl _) o)
theorem DiceL.drew (h : DiceL w g) : DiceL w.drew g := h.on (Below.refl _ _).drew
end
theorem u64_in (n : Int) : 0 ≤ IntKind.u64.wrap n ∧ IntKind.u64.wrap n ≤ 18446744073709551615 := wrap_within .u64 n

theorem wraps_u64 (n : Int) (h0 : 0 ≤ n) (h1 : n < 2 ^ 64) : IntKind.u64.wrap n = n := by
  have e : IntKind.u64.wrap n = n % 18446744073709551616 := by simp [IntKind.wrap, IntKind.bits, IntKind.signed]
  rw [e]; omega
theorem mask_in (y : Int) (h : 0 ≤ y ∧ y ≤ 18446744073709551615) : 0 ≤ bits .and .u64 y 16777215 ∧ bits .and .u64 y 16777215 ≤ 16777215 := by
  have e : bits .and .u64 y (2 ^ 24 - 1) = y % 2 ^ 24 := bits_mask .u64 64 (by decide) wraps_u64 24 (by decide) y h.1 (by omega)
  have e2 : bits .and .u64 y 16777215 = y % 16777216 := e
  rw [e2]
  omega
theorem diceL_put {w w1 : World} {g : Nat} {A : Option Addr} {n c i : Nat} {s : Int} (hB : Bk w1 g 90 #[.slice A n c, .int .i64 i, .int .u64 s]) (hG : w.grownBy w1 (some g)) (h2 : i ≤ n) (h3 : n ≤ 1000000) (h4 : 0 ≤ s ∧ s ≤ 18446744073709551615) (h6 : ArgB w1 A n) (h7 : ∀ p, A = some p → 0 < n → p.block < g) :
    (∀ k : Nat, DiceL (w1.drewN k) g ∧ w.grownBy (w1.drewN k) (some g)) ∧
    (∀ k : Nat, i + 1 ≤ n → DiceL ((w1.drewN k).setCell ⟨g, 1, none⟩ (.int .i64 ((i : Int) + 1))) g ∧ w.grownBy ((w1.drewN k).setCell ⟨g, 1, none⟩ (.int .i64 ((i : Int) + 1))) (some g)) := by
  have ei : (i : Int) + 1 = ((i + 1 : Nat) : Int) := by omega
  have hl : ∀ {w' : World}, Below g w1 w' → ArgB w' A n := fun hb => h6.low (B := g) (fun p hp hn => h7 p hp hn) hb
  have hr : ∀ k, Below g w1 (w1.drewN k) := fun k => below_drewN (Below.refl g w1) k
  rw [ei]
  exact ⟨fun k => ⟨⟨A, n, c, i, s, hB.drewN k, h2, h3, h4, hl (hr k), h7⟩, only_drewN hG k⟩,
    fun k h1 => ⟨⟨A, n, c, i + 1, s, (hB.drewN k).store 1 _, h1, h3, h4, hl ((hr k).setCell (p := ⟨g, 1, none⟩) (Nat.le_refl _) _), h7⟩, only_store (only_drewN hG k) 1 _⟩⟩

set_option maxHeartbeats 1600000 in
set_option maxRecDepth 100000 in
/-- roll. -/
theorem roll_any (A : Option Addr) (n c : Nat) (s : Int) (w : World) (hA : ArgB w A n) (hn : n ≤ 4096) (hs : 0 ≤ s ∧ s ≤ 100000) : Calls Tryz.prog 14 #[.slice A n c, .int .u64 s] w fun e w' => ∃ g, e = .returned (.pointer (some ⟨g, 0, none⟩)) ∧ w.heap.size ≤ g ∧ DiceL w' g ∧ Below w.heap.size w w' := by
  have hm : n ≤ 9223372036854775807 := by omega
  have z0 := Bk.new w 90 #[.slice A n c, .int .i64 0, .int .u64 (s * 7919 + (n : Int))]
  have t0 : Below w.heap.size w (w.alloc (.cells #[.slice A n c, .int .i64 0, .int .u64 (s * 7919 + (n : Int))] 90)) := (Below.refl _ _).alloc (Nat.le_refl _) _
  have hs0 : 0 ≤ s * 7919 + (n : Int) ∧ s * 7919 + (n : Int) ≤ 18446744073709551615 := by omega
  go_enter Tryz.func14, Tryz.ntmps14
  go_wp2
  generalize s * 7919 + (n : Int) = s0 at *
  go_loopw [6] (fun iv wr => ∃ (k : Nat) (h : Int), k ≤ n ∧ iv = .int .i64 k ∧ (0 ≤ h ∧ h ≤ 18446744073709551615) ∧ Bk wr w.heap.size 90 #[.slice A n c, .int .i64 0, .int .u64 h] ∧ Below w.heap.size w wr) (fun iv _ => n - (intOf iv).toNat)
  case atStart => exact ⟨0, s0, Nat.zero_le _, rfl, hs0, z0, t0⟩
  case round =>
    obtain ⟨k, h, hk, rfl, hh, hB, hb⟩ := hrel
    clear z0 t0 hs0
    by_cases hlt : k < n
    · obtain ⟨b, off, x, rfl, hbl, f0, hx0, hx1⟩ := (hA.on hb).elem k hlt
      obtain ⟨d0, d1, d2⟩ := box3 hB
      have z2 := hB.frozen 2
      have hst := Lib.hid (fun t : Int => hB.store 2 (.int .u64 t))
      have hbz := Lib.hid (fun t : Int => hb.setCell (p := ⟨w.heap.size, 2, none⟩) (Nat.le_refl _) (.int .u64 t))
      clear hB
      go_wp2
      go_still_tail 15, (by kernel_rfl)
      change wpList _ _ _ _ _ wr.drew
      go_wp2
      exact ⟨⟨k + 1, _, by omega, by go_num, u64_in _, hst.out _, (hbz.out _).drew⟩, by simp [intOf]; omega⟩
    · go_wp2
      go_ret
      exact ⟨_, rfl, Nat.le_refl _, ⟨A, n, c, 0, h, hB, Nat.zero_le _, by omega, hh, hA.on hb, hA.at_⟩, hb⟩

set_option maxHeartbeats 1600000 in
set_option maxRecDepth 100000 in
/-- below. -/
theorem below_any (g : Nat) (n : Int) (w : World) (hD : DiceL w g) (hn : 1 ≤ n ∧ n ≤ 1000000) : Calls Tryz.prog 15 #[.pointer (some ⟨g, 0, none⟩), .int .i64 n] w fun e w' => ∃ k : Int, e = .returned (.int .i64 k) ∧ (0 ≤ k ∧ k < n) ∧ DiceL w' g ∧ w.grownBy w' (some g) := by
  obtain ⟨A, m, c, i, h, hB, h2, h3, h4, h6, h7⟩ := hD.blk
  obtain ⟨d0, d1, d2⟩ := box3 hB
  have z1 := hB.frozen 1
  have z2 := hB.frozen 2
  have hg := hB.lt
  have hn0 : n ≠ 0 := by omega
  clear hD
  go_enter Tryz.func15, Tryz.ntmps15
  go_wp2
  generalize hH : IntKind.u64.wrap (IntKind.u64.wrap (h * 6364136223846793005) + 1442695040888963407) = H
  have hHb : 0 ≤ H ∧ H ≤ 18446744073709551615 := by rw [← hH]; exact u64_in _
  have hMb := mask_in (H / 8589934592) (by omega)
  generalize hM0 : bits BinOp.and IntKind.u64 (H / 8589934592) 16777215 = M0 at *
  have hM1 : wrap64 M0 = M0 := Go.IntWalk.wrap64_in M0 (by omega)
  rw [hM1]
  have hB1 : Bk (w.setCell ⟨g, 2, none⟩ (.int .u64 H)) g 90 #[.slice A m c, .int .i64 i, .int .u64 H] := hB.store 2 _
  have hG1 : w.grownBy (w.setCell ⟨g, 2, none⟩ (.int .u64 H)) (some g) := only_store (only_refl w _) 2 _
  have hA1 : ArgB (w.setCell ⟨g, 2, none⟩ (.int .u64 H)) A m := h6.low (B := g) (fun p hp hn => h7 p hp hn) ((Below.refl g w).setCell (p := ⟨g, 2, none⟩) (Nat.le_refl _) _)
  obtain ⟨k1, k2⟩ := diceL_put hB1 hG1 h2 h3 hHb hA1 h7
  have K1 := Lib.hid k1
  have K2 := Lib.hid k2
  clear k1 k2 hB h4 h6 d0 d1 d2 z1 z2 hH hM0 hM1
  generalize w.setCell ⟨g, 2, none⟩ (.int .u64 H) = w1 at *
  obtain ⟨d0, d1, d2⟩ := box3 hB1
  have z1 := hB1.frozen 1
  clear hG1
  by_cases hlt : i < m
  · have hltz : (i : Int) < m := by omega
    obtain ⟨b, off, x, rfl, hb, f0, hx0, hx1⟩ := hA1.elem i hlt
    have e0 := Go.IntWalk.i64_in ((i : Int) + 1) (by omega)
    have e1 := Go.IntWalk.i64_in (M0 + x) (by omega)
    have ex := Go.IntWalk.i64_in x (by omega)
    clear hB1 hA1
    go_quiet (fail)
    go_wp2
    go_quiet (fail)
    go_wp2
    go_ret
    exact ⟨_, rfl, emod_in (by omega), (K2.out _ (by omega)).1, (K2.out _ (by omega)).2⟩
  · have hlz : ¬ (i : Int) < m := by omega
    clear hB1 hA1
    go_quiet (fail)
    go_wp2
    go_ret
    exact ⟨_, rfl, emod_in (by omega), (K1.out _).1, (K1.out _).2⟩

end Go.Proofs.YtcckamhokdodnaaGreatDoor
