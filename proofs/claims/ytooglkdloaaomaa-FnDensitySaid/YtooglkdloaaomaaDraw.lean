/- Contracts: the source of numbers that the laws draw from. Condition: a well-formed source. -/
import Derived.Test.YtooglkdloaaomaaBytes
import Derived.Test.YtooglkdloaaomaaCanon
import Derived.Test.YtooglkdloaaomaaBits
import Derived.Deep.RegionHeld3
namespace Go.Proofs.Ytooglkdloaaomaa
open Go.RowKit

/-- The source of numbers in block g. -/
structure Dice (w : World) (g : Nat) : Prop where
  blk : ∃ (A : Option Addr) (n c i : Nat) (s : Int), Bk w g 107 #[.slice A n c, .int .i64 i, .int .i64 s] ∧ i ≤ n ∧ n ≤ 1000000 ∧ 0 ≤ s ∧ s ≤ 2147483646 ∧ ArgB w A n ∧ (∀ p, A = some p → 0 < n → p.block < g)
section
variable {w w' : World} {g : Nat}
theorem Dice.lt (h : Dice w g) : g < w.heap.size := let ⟨_, _, _, _, _, hb, _⟩ := h.blk; hb.lt
theorem Dice.below {B : Nat} (h : Dice w g) (hb : Below B w w') (hg : g < B) : Dice w' g := by
  obtain ⟨A, n, c, i, s, h1, h2, h3, h4, h5, h6, h7⟩ := h.blk
  exact ⟨A, n, c, i, s, h1.below hb hg, h2, h3, h4, h5, h6.low (fun p hp hn => by have := h7 p hp hn; omega) hb, h7⟩
theorem Dice.on (h : Dice w g) (hb : Below w.heap.size w w') : Dice w' g := h.below hb h.lt
theorem grown_below {row : Option Nat} {B : Nat} (hg : w.grownBy w' row) (hr : ∀ q, row = some q → B ≤ q) (hB : B ≤ w.heap.size) : Below B w w' :=
  ⟨hg.os, hg.tape, hg.output, hg.size, fun i hi => hg.block i (by omega) (fun e => by have := hr i e.symm; omega)⟩
theorem Dice.grown {row : Option Nat} (h : Dice w g) (hg : w.grownBy w' row) (hr : ∀ q, row = some q → g < q) : Dice w' g :=
  h.below (B := g + 1) (grown_below hg (fun q hq => hr q hq) h.lt) (by omega)
theorem Dice.alloc (h : Dice w g) (o : Obj) : Dice (w.alloc o) g := h.on ((Below.refl _ _).alloc (Nat.le_refl _) o)
theorem Dice.other (h : Dice w g) {p : Addr} (hp : g < p.block) (x : Value) : Dice (w.setCell p x) g := h.below (B := g + 1) ((Below.refl _ _).setCell (p := p) hp x) (by omega)
theorem Dice.drew (h : Dice w g) : Dice w.drew g := h.on (Below.refl _ _).drew
theorem box3 {t : TypeId} {a b c : Value} (h : Bk w g t #[a, b, c]) : w.cell? ⟨g, 0, none⟩ = some a ∧ w.cell? ⟨g, 1, none⟩ = some b ∧ w.cell? ⟨g, 2, none⟩ = some c := ⟨h.cell 0, h.cell 1, h.cell 2⟩
end
theorem emod_in {x n : Int} (hn : 0 < n) : 0 ≤ x % n ∧ x % n < n := ⟨Int.emod_nonneg x (by omega), Int.emod_lt_of_pos x hn⟩
theorem dice_put {w : World} {g : Nat} {A : Option Addr} {n c i : Nat} {s : Int} (hB : Bk w g 107 #[.slice A n c, .int .i64 i, .int .i64 s]) (h3 : n ≤ 1000000) (h6 : ArgB w A n) (h7 : ∀ p, A = some p → 0 < n → p.block < g) :
    (∀ (k : Nat) (t : Int), 0 ≤ t → t ≤ 2147483646 → i ≤ n → Dice ((w.drewN k).setCell ⟨g, 2, none⟩ (.int .i64 t)) g ∧ w.grownBy ((w.drewN k).setCell ⟨g, 2, none⟩ (.int .i64 t)) (some g)) ∧
    (∀ k : Nat, 0 ≤ s → s ≤ 2147483646 → i + 1 ≤ n → Dice ((w.drewN k).setCell ⟨g, 1, none⟩ (.int .i64 ((i : Int) + 1))) g ∧ w.grownBy ((w.drewN k).setCell ⟨g, 1, none⟩ (.int .i64 ((i : Int) + 1))) (some g)) ∧
    (∀ (k : Nat) (t : Int), 0 ≤ t → t ≤ 2147483646 → i + 1 ≤ n → Dice (((w.drewN k).setCell ⟨g, 1, none⟩ (.int .i64 ((i : Int) + 1))).setCell ⟨g, 2, none⟩ (.int .i64 t)) g ∧ w.grownBy (((w.drewN k).setCell ⟨g, 1, none⟩ (.int .i64 ((i : Int) + 1))).setCell ⟨g, 2, none⟩ (.int .i64 t)) (some g)) := by
  have ei : (i : Int) + 1 = ((i + 1 : Nat) : Int) := by omega
  have hl : ∀ {w' : World}, Below g w w' → ArgB w' A n := fun hb => h6.low (B := g) (fun p hp hn => h7 p hp hn) hb
  have hr : ∀ k, Below g w (w.drewN k) := fun k => below_drewN (Below.refl g w) k
  rw [ei]
  refine ⟨fun k t h0 h1 h2 => ⟨⟨A, n, c, i, t, (hB.drewN k).store 2 _, h2, h3, h0, h1, hl ((hr k).setCell (p := ⟨g, 2, none⟩) (Nat.le_refl _) _), h7⟩, only_store (only_drewN (only_refl w _) k) 2 _⟩,
    fun k h0 h1 h2 => ⟨⟨A, n, c, i + 1, s, (hB.drewN k).store 1 _, h2, h3, h0, h1, hl ((hr k).setCell (p := ⟨g, 1, none⟩) (Nat.le_refl _) _), h7⟩, only_store (only_drewN (only_refl w _) k) 1 _⟩,
    fun k t h0 h1 h2 => ⟨⟨A, n, c, i + 1, t, ((hB.drewN k).store 1 _).store 2 _, h2, h3, h0, h1, hl (((hr k).setCell (p := ⟨g, 1, none⟩) (Nat.le_refl _) _).setCell (p := ⟨g, 2, none⟩) (Nat.le_refl _) _), h7⟩, only_store (only_store (only_drewN (only_refl w _) k) 1 _) 2 _⟩⟩

set_option maxHeartbeats 1600000 in
set_option maxRecDepth 100000 in
/-- l01Next. -/
theorem next_any (g : Nat) (n : Int) (w : World) (hD : Dice w g) (hn : 2 ≤ n ∧ n ≤ 1000000) : Calls Try.prog 70 #[.pointer (some ⟨g, 0, none⟩), .int .i64 n] w fun e w' => ∃ k : Int, e = .returned (.int .i64 k) ∧ (0 ≤ k ∧ k < n) ∧ Dice w' g ∧ w.grownBy w' (some g) := by
  obtain ⟨A, m, c, i, s, hB, h2, h3, h4, h5, h6, h7⟩ := hD.blk
  obtain ⟨d0, d1, d2⟩ := box3 hB
  have z1 := hB.frozen 1
  have z2 := hB.frozen 2
  have hg := hB.lt
  have hn1 : ¬ n ≤ 1 := by omega
  have hn0 : n ≠ 0 := by omega
  clear hD
  obtain ⟨k1, k2, k3⟩ := dice_put hB h3 h6 h7
  have K1 := Lib.hid k1
  have K2 := Lib.hid k2
  have K3 := Lib.hid k3
  clear k1 k2 k3
  by_cases hlt : i < m
  · have hltz : (i : Int) < m := by omega
    obtain ⟨b, off, x, rfl, hb, f0, hx0, hx1⟩ := h6.elem i hlt
    have hbg : b < g := h7 _ rfl (by omega)
    have e0 := Go.IntWalk.i64_in ((i : Int) + 1) (by omega)
    have ex := Go.IntWalk.i64_in x (by omega)
    by_cases hbig : n > 256
    · have e1 := Go.IntWalk.i64_in (s * 48271) (by omega)
      have e2 := Go.IntWalk.i64_in (s * 48271 + x) (by omega)
      have e3 := Go.IntWalk.i64_in (s * 48271 + x + 1) (by omega)
      have hr := emod_in (x := s * 48271 + x + 1) (n := 2147483647) (by omega)
      clear hB h6 h7 hn
      go_enter Try.func70, Try.ntmps70
      go_wp2
      go_quiet (fail)
      go_wp2
      go_quiet (fail)
      go_wp2
      go_ret
      exact ⟨_, rfl, emod_in (by omega), (K3.out _ _ hr.1 (by omega) (by omega)).1, (K3.out _ _ hr.1 (by omega) (by omega)).2⟩
    · clear hB h6 h7 hn
      go_enter Try.func70, Try.ntmps70
      go_wp2
      go_quiet (fail)
      go_wp2
      go_quiet (fail)
      go_wp2
      go_ret
      exact ⟨_, rfl, emod_in (by omega), (K2.out _ h4 h5 (by omega)).1, (K2.out _ h4 h5 (by omega)).2⟩
  · have hlz : ¬ (i : Int) < m := by omega
    have e1 := Go.IntWalk.i64_in (s * 48271) (by omega)
    have e2 := Go.IntWalk.i64_in (s * 48271 + 11) (by omega)
    have hr := emod_in (x := s * 48271 + 11) (n := 2147483647) (by omega)
    clear hB h6 h7 hn
    go_enter Try.func70, Try.ntmps70
    go_wp2
    go_quiet (fail)
    go_wp2
    go_ret
    exact ⟨_, rfl, emod_in (by omega), (K1.out _ _ hr.1 (by omega) h2).1, (K1.out _ _ hr.1 (by omega) h2).2⟩

end Go.Proofs.Ytooglkdloaaomaa
