/- Contracts: the complement of a set: the program's not, the reference's l18Outside. No conditions. -/
import Derived.Test.YthifinolgbjekaaCombine
import Derived.Test.YthifinolgbjekaaRun17
namespace Go.Proofs.Ythifinolgbjekaa
open Go.RowKit

/-- The cells that a set does not have. -/
def notG (G : Gr) : Gr := fun i => !G i

set_option maxHeartbeats 800000 in
set_option maxRecDepth 100000 in
/-- not. -/
theorem not_any (g : Nat) (G : Gr) (w : World) (hG : GB w g 62 G) : Calls Try.prog 106 #[.pointer (some ⟨g, 0, none⟩)] w fun e w' => ∃ q, e = .returned (.pointer (some ⟨q, 0, none⟩)) ∧ w.heap.size ≤ q ∧ GB w' q 62 (notG G) ∧ Below w.heap.size w w' := by
  have hgl := hG.lt
  have hG0 := hG.alloc (.cells Try.zeroCells62 62)
  have g0 := GB.zero w 62
  have b0 : Below w.heap.size w (w.alloc (.cells Try.zeroCells62 62)) := (Below.refl _ _).alloc (Nat.le_refl _) _
  go_enter Try.func106, Try.ntmps106
  go_wp2
  go_loopw [8] (fun iv wr => ∃ a : Nat, a ≤ 80 ∧ iv = .int .i64 a ∧ GB wr w.heap.size 62 (partG (notG G) (a * 80)) ∧ GB wr g 62 G ∧ Below w.heap.size w wr) (fun iv _ => 80 - (intOf iv).toNat)
  case atStart => exact ⟨0, by omega, rfl, by rw [Nat.zero_mul, partG_zero]; exact g0, hG0, b0⟩
  case round =>
    obtain ⟨a, ha, rfl, hO, hG5, hb⟩ := hrel
    clear g0 hG0 b0
    by_cases hlt : a < 80
    · have hd : decide ((a : Int) < 80) = true := decide_eq_true (by omega)
      go_wp2
      try rw [hd]
      go_loopw [11] (fun kv wi => ∃ b : Nat, b ≤ 80 ∧ kv = .int .i64 b ∧ GB wi w.heap.size 62 (partG (notG G) (a * 80 + b)) ∧ GB wi g 62 G ∧ Below w.heap.size w wi) (fun kv _ => 80 - (intOf kv).toNat)
      case atStart => exact ⟨0, by omega, rfl, hO, hG5, hb⟩
      case round =>
        obtain ⟨b, hb8, rfl, hO6, hG6, hb6⟩ := hrel
        clear hO hG5 hb
        by_cases hltb : b < 80
        · have ha0 : (0 : Int) ≤ (a : Int) ∧ (a : Int) < 80 ∧ (0 : Int) ≤ (b : Int) ∧ (b : Int) < 80 := by omega
          have cx := hG6.cell (i := a * 80 + b) (by omega)
          have co := hO6.cell (i := a * 80 + b) (by omega)
          have hz := hO6.frozen (a * 80 + b)
          have hst := (hO6.store (j := a * 80 + b) (by omega) (notG G (a * 80 + b)))
          rw [partG_step] at hst
          go_wp2
          go_region
          all_goals
            go_wp2
            refine ⟨⟨b + 1, by omega, by go_num, hst, hG6.other (p := ⟨w.heap.size, _, none⟩) (show g ≠ w.heap.size by omega) _, (hb6.setCell (p := ⟨w.heap.size, _, none⟩) (Nat.le_refl _) _).drew⟩, by simp [intOf]; omega⟩
        · have hbe : b = 80 := by omega
          rw [hbe] at hO6
          go_wp2
          refine ⟨⟨a + 1, by omega, by go_num, ?_, hG6, hb6⟩, by simp [intOf]; omega⟩
          rw [Nat.succ_mul]
          exact hO6
    · have hae : a = 80 := by omega
      rw [hae] at hO
      go_wp2
      go_ret
      exact ⟨_, rfl, Nat.le_refl _, hO.same (partG_all _), hb⟩

set_option maxHeartbeats 400000 in
set_option maxRecDepth 100000 in
/-- l18Outside. -/
theorem l18Outside_any (v : Value) (G : Gr) (w : World) (hG : GS w 0 v G) : Calls Try.prog 103 #[v] w fun e w' => ∃ u, e = .returned u ∧ GS w' w.heap.size u (notG G) ∧ Below w.heap.size w w' := by
  obtain ⟨g, c, rfl, -, hg⟩ := hG
  have hgl := hg.lt
  have hmk := run_make_6400
  have g0 := GB.made w 4
  have hg0 := hg.alloc (.cells noCells 4)
  have b0 : Below w.heap.size w (w.alloc (.cells noCells 4)) := (Below.refl _ _).alloc (Nat.le_refl _) _
  go_enter Try.func103, Try.ntmps103
  go_wp2
  clear hmk
  go_loopw [4] (fun iv wr => ∃ i : Nat, i ≤ 6400 ∧ iv = .int .i64 i ∧ GB wr w.heap.size 4 (partG (notG G) i) ∧ GB wr g 4 G ∧ Below w.heap.size w wr) (fun iv _ => 6400 - (intOf iv).toNat)
  case atStart => exact ⟨0, by omega, rfl, by rw [partG_zero]; exact g0, hg0, b0⟩
  case round =>
    obtain ⟨i, hi, rfl, hO, hG1, hb⟩ := hrel
    clear g0 hg0 b0
    by_cases hlt : i < 6400
    · have hi0 : (0 : Int) ≤ (i : Int) ∧ (i : Int) < 6400 := by omega
      have cx := hG1.cell hlt
      have co := hO.cell hlt
      have hz := hO.frozen i
      have hst := hO.store hlt (notG G i)
      rw [partG_step] at hst
      go_wp2
      exact ⟨⟨i + 1, by omega, by go_num, hst, hG1.other (p := ⟨w.heap.size, _, none⟩) (show g ≠ w.heap.size by omega) _, hb.setCell (p := ⟨w.heap.size, _, none⟩) (Nat.le_refl _) _⟩, by simp [intOf]; omega⟩
    · have hie : i = 6400 := by omega
      rw [hie] at hO
      go_wp2
      go_ret
      exact ⟨_, rfl, ⟨_, _, rfl, Nat.le_refl _, hO.same (partG_all _)⟩, hb⟩

end Go.Proofs.Ythifinolgbjekaa
