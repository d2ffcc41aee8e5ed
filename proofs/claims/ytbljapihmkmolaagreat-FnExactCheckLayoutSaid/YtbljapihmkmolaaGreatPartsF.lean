/- Contracts: the reference's l04Combine and l07Flood (over sides). Condition: a cell of the chip. -/
import Derived.Test.YtbljapihmkmolaaGreatVisit
import Derived.Test.YtbljapihmkmolaaGreatRepMath
import Derived.StillTailTactics
namespace Go.Proofs.YtbljapihmkmolaaGreat
open Go.RowKit

/-- What a truth table tells of two sets. -/
def tabG (op : Int) (G H : Gr) : Gr := fun i => if op = 14 then G i || H i else G i && H i
theorem tab14 (G H : Gr) : tabG 14 G H = unionG G H := rfl
theorem tab8 (G H : Gr) : tabG 8 G H = interG G H := rfl

set_option maxHeartbeats 800000 in
set_option maxRecDepth 100000 in
theorem combine_any (v u : Value) (op : Int) (hop : op = 14 ∨ op = 8) (G H : Gr) (w : World) (hG : GS w 0 v G) (hH : GS w 0 u H) : Calls Tryz.prog 180 #[v, u, .int .i64 op] w fun e w' => ∃ z, e = .returned z ∧ GS w' w.heap.size z (tabG op G H) ∧ Below w.heap.size w w' := by
  obtain ⟨g, c, rfl, -, hg⟩ := hG
  obtain ⟨h, d, rfl, -, hh⟩ := hH
  have hgl := hg.lt
  have hhl := hh.lt
  have hmk := run_make_6400
  have g0 := GB.made w 4
  have hg0 := hg.alloc (.cells noCells 4)
  have hh0 := hh.alloc (.cells noCells 4)
  have b0 : Below w.heap.size w (w.alloc (.cells noCells 4)) := (Below.refl _ _).alloc (Nat.le_refl _) _
  rcases hop with rfl | rfl
  · go_enter Tryz.func180, Tryz.ntmps180
    go_wp2
    clear hmk
    go_loopw [8] (fun iv wr => ∃ i : Nat, i ≤ 6400 ∧ iv = .int .i64 i ∧ GB wr w.heap.size 4 (partG (tabG 14 G H) i) ∧ GB wr g 4 G ∧ GB wr h 4 H ∧ Below w.heap.size w wr) (fun iv _ => 6400 - (intOf iv).toNat)
    case atStart => exact ⟨0, by omega, rfl, by rw [partG_zero]; exact g0, hg0, hh0, b0⟩
    case round =>
      obtain ⟨i, hi, rfl, hO, hG1, hH1, hb⟩ := hrel
      clear g0 hg0 hh0 b0
      by_cases hlt : i < 6400
      · have hi0 : (0 : Int) ≤ (i : Int) ∧ (i : Int) < 6400 := by omega
        have cx := hG1.cell hlt
        have cy := hH1.cell hlt
        have co := hO.cell hlt
        have hz := hO.frozen i
        have hst := hO.store hlt (tabG 14 G H i)
        rw [partG_step] at hst
        have hd : tabG 14 G H i = (G i || H i) := rfl
        rw [hd] at hst
        clear hd
        have Hst := Lib.hid hst
        clear hst
        cases h1 : G i with
        | true =>
          cases h2 : H i with
          | true =>
            rw [h1, h2] at Hst
            rw [h1] at cx
            rw [h2] at cy
            clear h1 h2
            go_wp2
            exact ⟨⟨i + 1, by omega, by go_num, Hst.out, hG1.other (p := ⟨w.heap.size, _, none⟩) (show g ≠ w.heap.size by omega) _, hH1.other (p := ⟨w.heap.size, _, none⟩) (show h ≠ w.heap.size by omega) _, hb.setCell (p := ⟨w.heap.size, _, none⟩) (Nat.le_refl _) _⟩, by simp [intOf]; omega⟩
          | false =>
            rw [h1, h2] at Hst
            rw [h1] at cx
            rw [h2] at cy
            clear h1 h2
            go_wp2
            exact ⟨⟨i + 1, by omega, by go_num, Hst.out, hG1.other (p := ⟨w.heap.size, _, none⟩) (show g ≠ w.heap.size by omega) _, hH1.other (p := ⟨w.heap.size, _, none⟩) (show h ≠ w.heap.size by omega) _, hb.setCell (p := ⟨w.heap.size, _, none⟩) (Nat.le_refl _) _⟩, by simp [intOf]; omega⟩
        | false =>
          cases h2 : H i with
          | true =>
            rw [h1, h2] at Hst
            rw [h1] at cx
            rw [h2] at cy
            clear h1 h2
            go_wp2
            exact ⟨⟨i + 1, by omega, by go_num, Hst.out, hG1.other (p := ⟨w.heap.size, _, none⟩) (show g ≠ w.heap.size by omega) _, hH1.other (p := ⟨w.heap.size, _, none⟩) (show h ≠ w.heap.size by omega) _, hb.setCell (p := ⟨w.heap.size, _, none⟩) (Nat.le_refl _) _⟩, by simp [intOf]; omega⟩
          | false =>
            rw [h1, h2] at Hst
            rw [h1] at cx
            rw [h2] at cy
            clear h1 h2
            go_wp2
            exact ⟨⟨i + 1, by omega, by go_num, Hst.out, hG1.other (p := ⟨w.heap.size, _, none⟩) (show g ≠ w.heap.size by omega) _, hH1.other (p := ⟨w.heap.size, _, none⟩) (show h ≠ w.heap.size by omega) _, hb.setCell (p := ⟨w.heap.size, _, none⟩) (Nat.le_refl _) _⟩, by simp [intOf]; omega⟩
      · have hie : i = 6400 := by omega
        rw [hie] at hO
        go_wp2
        go_ret
        exact ⟨_, rfl, ⟨_, _, rfl, Nat.le_refl _, hO.same (partG_all _)⟩, hb⟩
  · go_enter Tryz.func180, Tryz.ntmps180
    go_wp2
    clear hmk
    go_loopw [8] (fun iv wr => ∃ i : Nat, i ≤ 6400 ∧ iv = .int .i64 i ∧ GB wr w.heap.size 4 (partG (tabG 8 G H) i) ∧ GB wr g 4 G ∧ GB wr h 4 H ∧ Below w.heap.size w wr) (fun iv _ => 6400 - (intOf iv).toNat)
    case atStart => exact ⟨0, by omega, rfl, by rw [partG_zero]; exact g0, hg0, hh0, b0⟩
    case round =>
      obtain ⟨i, hi, rfl, hO, hG1, hH1, hb⟩ := hrel
      clear g0 hg0 hh0 b0
      by_cases hlt : i < 6400
      · have hi0 : (0 : Int) ≤ (i : Int) ∧ (i : Int) < 6400 := by omega
        have cx := hG1.cell hlt
        have cy := hH1.cell hlt
        have co := hO.cell hlt
        have hz := hO.frozen i
        have hst := hO.store hlt (tabG 8 G H i)
        rw [partG_step] at hst
        have hd : tabG 8 G H i = (G i && H i) := rfl
        rw [hd] at hst
        clear hd
        have Hst := Lib.hid hst
        clear hst
        cases h1 : G i with
        | true =>
          cases h2 : H i with
          | true =>
            rw [h1, h2] at Hst
            rw [h1] at cx
            rw [h2] at cy
            clear h1 h2
            go_wp2
            exact ⟨⟨i + 1, by omega, by go_num, Hst.out, hG1.other (p := ⟨w.heap.size, _, none⟩) (show g ≠ w.heap.size by omega) _, hH1.other (p := ⟨w.heap.size, _, none⟩) (show h ≠ w.heap.size by omega) _, hb.setCell (p := ⟨w.heap.size, _, none⟩) (Nat.le_refl _) _⟩, by simp [intOf]; omega⟩
          | false =>
            rw [h1, h2] at Hst
            rw [h1] at cx
            rw [h2] at cy
            clear h1 h2
            go_wp2
            exact ⟨⟨i + 1, by omega, by go_num, Hst.out, hG1.other (p := ⟨w.heap.size, _, none⟩) (show g ≠ w.heap.size by omega) _, hH1.other (p := ⟨w.heap.size, _, none⟩) (show h ≠ w.heap.size by omega) _, hb.setCell (p := ⟨w.heap.size, _, none⟩) (Nat.le_refl _) _⟩, by simp [intOf]; omega⟩
        | false =>
          cases h2 : H i with
          | true =>
            rw [h1, h2] at Hst
            rw [h1] at cx
            rw [h2] at cy
            clear h1 h2
            go_wp2
            exact ⟨⟨i + 1, by omega, by go_num, Hst.out, hG1.other (p := ⟨w.heap.size, _, none⟩) (show g ≠ w.heap.size by omega) _, hH1.other (p := ⟨w.heap.size, _, none⟩) (show h ≠ w.heap.size by omega) _, hb.setCell (p := ⟨w.heap.size, _, none⟩) (Nat.le_refl _) _⟩, by simp [intOf]; omega⟩
          | false =>
            rw [h1, h2] at Hst
            rw [h1] at cx
            rw [h2] at cy
            clear h1 h2
            go_wp2
            exact ⟨⟨i + 1, by omega, by go_num, Hst.out, hG1.other (p := ⟨w.heap.size, _, none⟩) (show g ≠ w.heap.size by omega) _, hH1.other (p := ⟨w.heap.size, _, none⟩) (show h ≠ w.heap.size by omega) _, hb.setCell (p := ⟨w.heap.size, _, none⟩) (Nat.le_refl _) _⟩, by simp [intOf]; omega⟩
      · have hie : i = 6400 := by omega
        rw [hie] at hO
        go_wp2
        go_ret
        exact ⟨_, rfl, ⟨_, _, rfl, Nat.le_refl _, hO.same (partG_all _)⟩, hb⟩

end Go.Proofs.YtbljapihmkmolaaGreat
