/- Contracts: l04Combine and l04Op of the reference (union, difference, symmetric difference): what they return is a set, a region; l22DrawEdit, l22DrawRule, DrawRecheckArea. Condition: a well-formed source. -/
import Derived.Test.YtbljapihmkmolaaGreatDrawR
import Derived.Deep.RegionLaw
namespace Go.Proofs.YtbljapihmkmolaaGreat
open Go.RowKit

def tabX (op : Int) (G H : Gr) : Gr := fun i => if op = 14 then G i || H i else if op = 4 then G i && !H i else (G i ^^ H i)

set_option maxHeartbeats 3200000 in
set_option maxRecDepth 100000 in
theorem combineX_any (v u : Value) (op : Int) (hop : op = 14 ∨ op = 4 ∨ op = 6) (G H : Gr) (w : World) (hG : GS w 0 v G) (hH : GS w 0 u H) : Calls Tryz.prog 180 #[v, u, .int .i64 op] w fun e w' => ∃ z, e = .returned z ∧ GS w' w.heap.size z (tabX op G H) ∧ Below w.heap.size w w' := by
  obtain ⟨g, c, rfl, -, hg⟩ := hG
  obtain ⟨h, d, rfl, -, hh⟩ := hH
  have hgl := hg.lt
  have hhl := hh.lt
  have hmk := run_make_6400
  have g0 := GB.made w 4
  have hg0 := hg.alloc (.cells noCells 4)
  have hh0 := hh.alloc (.cells noCells 4)
  have b0 : Below w.heap.size w (w.alloc (.cells noCells 4)) := (Below.refl _ _).alloc (Nat.le_refl _) _
  rcases hop with rfl | rfl | rfl
  · go_enter Tryz.func180, Tryz.ntmps180
    go_wp2
    clear hmk
    go_loopw [8] (fun iv wr => ∃ i : Nat, i ≤ 6400 ∧ iv = .int .i64 i ∧ GB wr w.heap.size 4 (partG (tabX 14 G H) i) ∧ GB wr g 4 G ∧ GB wr h 4 H ∧ Below w.heap.size w wr) (fun iv _ => 6400 - (intOf iv).toNat)
    case atStart => exact ⟨0, by omega, rfl, by rw [partG_zero]; exact g0, hg0, hh0, b0⟩
    case round =>
      obtain ⟨i, hi, rfl, hO, hG1, hH1, hb⟩ := hrel
      clear g0 hg0 hh0 b0
      by_cases hlt : i < 6400
      · have hi0 : (0 : Int) ≤ (i : Int) ∧ (i : Int) < 6400 := by omega
        have cx := hG1.cell hlt
        have cy := hH1.cell hlt
        have co := hO.cell hlt
        have hz := hO.frozen i
        have hst := hO.store hlt (tabX 14 G H i)
        rw [partG_step] at hst
        have hd : tabX 14 G H i = (G i || H i) := rfl
        rw [hd] at hst
        clear hd
        have Hst := Lib.hid hst
        clear hst
        have hG2 := fun x : Value => hG1.other (p := ⟨w.heap.size, i, none⟩) (show g ≠ w.heap.size by omega) x
        have hH2 := fun x : Value => hH1.other (p := ⟨w.heap.size, i, none⟩) (show h ≠ w.heap.size by omega) x
        have hb2 := fun x : Value => hb.setCell (p := ⟨w.heap.size, i, none⟩) (Nat.le_refl _) x
        have HG2 := Lib.hid hG2
        have HH2 := Lib.hid hH2
        have HB2 := Lib.hid hb2
        clear hG2 hH2 hb2 hG1 hH1 hO hb
        cases h1 : G i <;> cases h2 : H i <;> rw [h1, h2] at Hst <;> rw [h1] at cx <;> rw [h2] at cy <;> clear h1 h2
        all_goals
          go_wp2
          exact ⟨⟨i + 1, by omega, by go_num, Hst.out, HG2.out _, HH2.out _, HB2.out _⟩, by simp [intOf]; omega⟩
      · have hie : i = 6400 := by omega
        rw [hie] at hO
        go_wp2
        go_ret
        exact ⟨_, rfl, ⟨_, _, rfl, Nat.le_refl _, hO.same (partG_all _)⟩, hb⟩
  · go_enter Tryz.func180, Tryz.ntmps180
    go_wp2
    clear hmk
    go_loopw [8] (fun iv wr => ∃ i : Nat, i ≤ 6400 ∧ iv = .int .i64 i ∧ GB wr w.heap.size 4 (partG (tabX 4 G H) i) ∧ GB wr g 4 G ∧ GB wr h 4 H ∧ Below w.heap.size w wr) (fun iv _ => 6400 - (intOf iv).toNat)
    case atStart => exact ⟨0, by omega, rfl, by rw [partG_zero]; exact g0, hg0, hh0, b0⟩
    case round =>
      obtain ⟨i, hi, rfl, hO, hG1, hH1, hb⟩ := hrel
      clear g0 hg0 hh0 b0
      by_cases hlt : i < 6400
      · have hi0 : (0 : Int) ≤ (i : Int) ∧ (i : Int) < 6400 := by omega
        have cx := hG1.cell hlt
        have cy := hH1.cell hlt
        have co := hO.cell hlt
        have hz := hO.frozen i
        have hst := hO.store hlt (tabX 4 G H i)
        rw [partG_step] at hst
        have hd : tabX 4 G H i = (G i && !H i) := rfl
        rw [hd] at hst
        clear hd
        have Hst := Lib.hid hst
        clear hst
        have hG2 := fun x : Value => hG1.other (p := ⟨w.heap.size, i, none⟩) (show g ≠ w.heap.size by omega) x
        have hH2 := fun x : Value => hH1.other (p := ⟨w.heap.size, i, none⟩) (show h ≠ w.heap.size by omega) x
        have hb2 := fun x : Value => hb.setCell (p := ⟨w.heap.size, i, none⟩) (Nat.le_refl _) x
        have HG2 := Lib.hid hG2
        have HH2 := Lib.hid hH2
        have HB2 := Lib.hid hb2
        clear hG2 hH2 hb2 hG1 hH1 hO hb
        cases h1 : G i <;> cases h2 : H i <;> rw [h1, h2] at Hst <;> rw [h1] at cx <;> rw [h2] at cy <;> clear h1 h2
        all_goals
          go_wp2
          exact ⟨⟨i + 1, by omega, by go_num, Hst.out, HG2.out _, HH2.out _, HB2.out _⟩, by simp [intOf]; omega⟩
      · have hie : i = 6400 := by omega
        rw [hie] at hO
        go_wp2
        go_ret
        exact ⟨_, rfl, ⟨_, _, rfl, Nat.le_refl _, hO.same (partG_all _)⟩, hb⟩
  · go_enter Tryz.func180, Tryz.ntmps180
    go_wp2
    clear hmk
    go_loopw [8] (fun iv wr => ∃ i : Nat, i ≤ 6400 ∧ iv = .int .i64 i ∧ GB wr w.heap.size 4 (partG (tabX 6 G H) i) ∧ GB wr g 4 G ∧ GB wr h 4 H ∧ Below w.heap.size w wr) (fun iv _ => 6400 - (intOf iv).toNat)
    case atStart => exact ⟨0, by omega, rfl, by rw [partG_zero]; exact g0, hg0, hh0, b0⟩
    case round =>
      obtain ⟨i, hi, rfl, hO, hG1, hH1, hb⟩ := hrel
      clear g0 hg0 hh0 b0
      by_cases hlt : i < 6400
      · have hi0 : (0 : Int) ≤ (i : Int) ∧ (i : Int) < 6400 := by omega
        have cx := hG1.cell hlt
        have cy := hH1.cell hlt
        have co := hO.cell hlt
        have hz := hO.frozen i
        have hst := hO.store hlt (tabX 6 G H i)
        rw [partG_step] at hst
        have hd : tabX 6 G H i = (G i ^^ H i) := rfl
        rw [hd] at hst
        clear hd
        have Hst := Lib.hid hst
        clear hst
        have hG2 := fun x : Value => hG1.other (p := ⟨w.heap.size, i, none⟩) (show g ≠ w.heap.size by omega) x
        have hH2 := fun x : Value => hH1.other (p := ⟨w.heap.size, i, none⟩) (show h ≠ w.heap.size by omega) x
        have hb2 := fun x : Value => hb.setCell (p := ⟨w.heap.size, i, none⟩) (Nat.le_refl _) x
        have HG2 := Lib.hid hG2
        have HH2 := Lib.hid hH2
        have HB2 := Lib.hid hb2
        clear hG2 hH2 hb2 hG1 hH1 hO hb
        cases h1 : G i <;> cases h2 : H i <;> rw [h1, h2] at Hst <;> rw [h1] at cx <;> rw [h2] at cy <;> clear h1 h2
        all_goals
          go_wp2
          exact ⟨⟨i + 1, by omega, by go_num, Hst.out, HG2.out _, HH2.out _, HB2.out _⟩, by simp [intOf]; omega⟩
      · have hie : i = 6400 := by omega
        rw [hie] at hO
        go_wp2
        go_ret
        exact ⟨_, rfl, ⟨_, _, rfl, Nat.le_refl _, hO.same (partG_all _)⟩, hb⟩

set_option maxHeartbeats 400000 in
/-- l04Op: a region, whichever. -/
theorem opX_any (v u : Value) (a b : List Rc) (op : Int) (hop : op = 14 ∨ op = 4 ∨ op = 6) (w : World) (hv : RL w 0 v a) (hu : RL w 0 u b) (ha : okAll a = true) (hb : okAll b = true) : Calls Tryz.prog 147 #[v, u, .int .i64 op] w fun e w' => ∃ z rs, e = .returned z ∧ RL w' w.heap.size z rs ∧ rs.length ≤ 7000 ∧ okAll rs = true ∧ Below w.heap.size w w' := by
  go_enter Tryz.func147, Tryz.ntmps147
  go_wp2_with fail
  refine (l03Bits_any _ a _ hv ha).mono ?_
  rintro e w1 ⟨x, rfl, hX, hb1⟩
  go_wp2_with fail
  refine (l03Bits_any _ b _ (hu.on hb1) hb).mono ?_
  rintro e w2 ⟨y, rfl, hY, hb2⟩
  have hX2 := (hX.less (Nat.zero_le _)).on hb2
  have hY2 := hY.less (Nat.zero_le _)
  have b2 := hb1.trans (hb2.mono hb1.size)
  clear hX hY hb1 hb2 hv hu
  go_wp2_with fail
  refine (combineX_any _ _ op hop _ _ _ hX2 hY2).mono ?_
  rintro e w3 ⟨z, rfl, hZ, hb3⟩
  have b3 := b2.trans (hb3.mono b2.size)
  have hZ3 := hZ.less (Nat.zero_le _)
  clear hX2 hY2 hb3 hZ
  go_wp2_with fail
  refine (l03Canon_any z _ _ hZ3).mono ?_
  rintro e w4 ⟨t, rfl, hR, hb4⟩
  go_wp2
  go_ret
  exact ⟨_, _, rfl, hR.less b3.size, Nat.le_trans (canon_few _) (by omega), canon_ok _, b3.trans (hb4.mono b3.size)⟩

end Go.Proofs.YtbljapihmkmolaaGreat
