/- Contracts: the reference's small operations on sets: l19Count, l19Or, l18Meet. No conditions. -/
import Derived.Test.YtbljapihmkmolaaGreatMathA
import Derived.Test.YtbljapihmkmolaaGreatCombA
import Derived.Test.YtbljapihmkmolaaGreatAllRuns
namespace Go.Proofs.YtbljapihmkmolaaGreat
open Go.RowKit

theorem ret_intS {a b : Int} (h : a = b) : Ending.returned (.int .i64 a) = .returned (.int .i64 b) := by rw [h]
set_option maxHeartbeats 400000 in
set_option maxRecDepth 100000 in
/-- l19Count. -/
theorem l19Count_any (v : Value) (G : Gr) (w : World) (hG : GS w 0 v G) : Calls Tryz.prog 110 #[v] w fun e w' => e = .returned (.int .i64 (countG G)) ∧ w = w' := by
  obtain ⟨g, c, rfl, -, hg⟩ := hG
  have Hall := Lib.hid (flatC_all G)
  go_enter Tryz.func110, Tryz.ntmps110
  go_wp2
  go_loop [3, 4] (fun nv iv => ∃ i : Nat, i ≤ 6400 ∧ iv = .int .i64 i ∧ nv = .int .i64 (flatC G i)) (fun _ iv => 6400 - (intOf iv).toNat)
  case atStart => exact ⟨0, by omega, rfl, rfl⟩
  case round =>
    obtain ⟨i, hi, rfl, rfl⟩ := hrel
    by_cases hlt : i < 6400
    · have cx := hg.cell hlt
      have hbd := flatC_bounds G i
      by_cases hb : G i = true
      · have He := Lib.hid (flatC_yes hb)
        rw [hb] at cx
        clear hb
        go_wp2
        exact ⟨⟨i + 1, by omega, by go_num, by rw [He.out]⟩, by simp [intOf]; omega⟩
      · have hb' : G i = false := by simpa using hb
        have He := Lib.hid (flatC_no hb')
        rw [hb'] at cx
        clear hb hb'
        go_wp2
        exact ⟨⟨i + 1, by omega, by go_num, by rw [He.out]⟩, by simp [intOf]; omega⟩
    · have hie : i = 6400 := by omega
      subst hie
      go_wp2
      go_ret
      exact ⟨ret_intS Hall.out, rfl⟩

set_option maxHeartbeats 400000 in
set_option maxRecDepth 100000 in
/-- l19Or. -/
theorem l19Or_any (v u : Value) (G H : Gr) (w : World) (hG : GS w 0 v G) (hH : GS w 0 u H) : Calls Tryz.prog 111 #[v, u] w fun e w' => ∃ z, e = .returned z ∧ GS w' w.heap.size z (unionG G H) ∧ Below w.heap.size w w' := by
  obtain ⟨g, c, rfl, -, hg⟩ := hG
  obtain ⟨h, d, rfl, -, hh⟩ := hH
  have hgl := hg.lt
  have hhl := hh.lt
  have hmk := run_make_6400
  have g0 := GB.made w 4
  have hg0 := hg.alloc (.cells noCells 4)
  have hh0 := hh.alloc (.cells noCells 4)
  have b0 : Below w.heap.size w (w.alloc (.cells noCells 4)) := (Below.refl _ _).alloc (Nat.le_refl _) _
  go_enter Tryz.func111, Tryz.ntmps111
  go_wp2
  clear hmk
  go_loopw [6] (fun iv wr => ∃ i : Nat, i ≤ 6400 ∧ iv = .int .i64 i ∧ GB wr w.heap.size 4 (partG (unionG G H) i) ∧ GB wr g 4 G ∧ GB wr h 4 H ∧ Below w.heap.size w wr) (fun iv _ => 6400 - (intOf iv).toNat)
  case atStart => exact ⟨0, by omega, rfl, by rw [partG_zero]; exact g0, hg0, hh0, b0⟩
  case round =>
    obtain ⟨i, hi, rfl, hO, hG1, hH1, hb⟩ := hrel
    clear g0 hg0 hh0 b0
    by_cases hlt : i < 6400
    · have hi0 : (0 : Int) ≤ (i : Int) ∧ (i : Int) < 6400 := by omega
      have cx := hG1.cell hlt
      have cy := hH1.cell hlt
      have co := hO.cell hlt
      have hz := hO.frozen i
      have hst := hO.store hlt (unionG G H i)
      rw [partG_step] at hst
      have Hst := Lib.hid hst
      clear hst
      by_cases hb0 : G i = true
      · have hd : unionG G H i = true := by unfold unionG; rw [hb0]; rfl
        rw [hd] at Hst
        rw [hb0] at cx
        clear hd hb0
        go_wp2
        exact ⟨⟨i + 1, by omega, by go_num, Hst.out, hG1.other (p := ⟨w.heap.size, _, none⟩) (show g ≠ w.heap.size by omega) _, hH1.other (p := ⟨w.heap.size, _, none⟩) (show h ≠ w.heap.size by omega) _, hb.setCell (p := ⟨w.heap.size, _, none⟩) (Nat.le_refl _) _⟩, by simp [intOf]; omega⟩
      · have hb1 : G i = false := by simpa using hb0
        have hd : unionG G H i = H i := by unfold unionG; rw [hb1]; rfl
        rw [hd] at Hst
        rw [hb1] at cx
        clear hd hb0 hb1
        go_wp2
        exact ⟨⟨i + 1, by omega, by go_num, Hst.out, hG1.other (p := ⟨w.heap.size, _, none⟩) (show g ≠ w.heap.size by omega) _, hH1.other (p := ⟨w.heap.size, _, none⟩) (show h ≠ w.heap.size by omega) _, hb.setCell (p := ⟨w.heap.size, _, none⟩) (Nat.le_refl _) _⟩, by simp [intOf]; omega⟩
    · have hie : i = 6400 := by omega
      rw [hie] at hO
      go_wp2
      go_ret
      exact ⟨_, rfl, ⟨_, _, rfl, Nat.le_refl _, hO.same (partG_all _)⟩, hb⟩

/-- Two sets have a common cell. -/
def meetG (G H : Gr) : Bool := (List.range 6400).any fun i => G i && H i
theorem meet_yes {G H : Gr} {i : Nat} (hi : i < 6400) (h1 : G i = true) (h2 : H i = true) : meetG G H = true := by
  unfold meetG
  rw [List.any_eq_true]
  exact ⟨i, List.mem_range.2 hi, by rw [h1, h2]; rfl⟩
theorem meet_no {G H : Gr} (h : ∀ i, i < 6400 → (G i && H i) = false) : meetG G H = false := by
  unfold meetG
  rw [Bool.eq_false_iff]
  intro hc
  rw [List.any_eq_true] at hc
  obtain ⟨i, hi, hc⟩ := hc
  rw [h i (List.mem_range.1 hi)] at hc
  cases hc

end Go.Proofs.YtbljapihmkmolaaGreat
