/- Contracts: the laws' helpers on shapes, labels, instances, cells and libraries: what is left, copies, comparisons of equal ones. Conditions: few elements. -/
import Derived.Test.YtfgpkhifbflnbaaGreatDoorLibO
import Derived.Test.YtfgpkhifbflnbaaGreatDoorCmp
import Derived.Test.YtfgpkhifbflnbaaGreatDoorTo
import Derived.StillTailTactics
namespace Go.Proofs.YtfgpkhifbflnbaaGreatDoor
open Go.RowKit

theorem bcell {W w1 : World} (hb : Below W.heap.size W w1) : (∀ b o, b < W.heap.size → w1.cell? ⟨b, o, none⟩ = W.cell? ⟨b, o, none⟩) ∧ (∀ b o, b < W.heap.size → w1.frozen? ⟨b, o, none⟩ = W.frozen? ⟨b, o, none⟩) :=
  ⟨fun b o h => hb.cell (p := ⟨b, o, none⟩) h, fun b o h => hb.frozen (p := ⟨b, o, none⟩) h⟩

/-! ## What is left -/
def szV (left : Int) (total : Nat) : Int := if (total : Int) ≤ left then left - total else -1
theorem szV_yes {left : Int} {total : Nat} (h : (total : Int) ≤ left) : szV left total = left - total := if_pos h
theorem szV_no {left : Int} {total : Nat} (h : ¬ (total : Int) ≤ left) : szV left total = -1 := if_neg h
def sumN {α : Type} (f : α → Nat) (xs : List α) : Nat := (xs.map f).sum
theorem sumN_succ {α : Type} (f : α → Nat) {xs : List α} {k : Nat} {x : α} (h : xs[k]? = some x) : sumN f (xs.take (k + 1)) = sumN f (xs.take k) + f x := by
  unfold sumN
  rw [List.take_add_one, h]
  simp
theorem sumN_le {α : Type} (f : α → Nat) (xs : List α) (k : Nat) : sumN f (xs.take k) ≤ sumN f xs := by
  have e : sumN f xs = sumN f (xs.take k) + sumN f (xs.drop k) := by
    unfold sumN
    rw [← List.sum_append, ← List.map_append, List.take_append_drop]
  omega
def labTot (ls : List LabelD) : Nat := ls.length + sumN (fun l => l.name.size) ls
def cellTot (c : CellD) : Nat := c.name.size + c.shapes.length + labTot c.labels + c.insts.length
def libTot (cs : List CellD) : Nat := cs.length + sumN cellTot cs


theorem szShapeS_any (A : Option Addr) (n c : Nat) (left : Int) (w : World) (h0 : 0 ≤ left) (h1 : left ≤ 1048576) (hn : n ≤ maxLen) :
    Calls Tryz.prog 37 #[.slice A n c, .int .i64 left] w fun e w' => e = .returned (.int .i64 (szV left n)) ∧ w = w' := by
  unfold maxLen at hn
  by_cases h : (n : Int) ≤ left
  · rw [szV_yes h]
    have hs : ¬ (left - (n : Int) < 0) := by omega
    go_enter Tryz.func37, Tryz.ntmps37
    go_wp2
    go_ret
    exact ⟨rfl, rfl⟩
  · rw [szV_no h]
    have hs : left - (n : Int) < 0 := by omega
    go_enter Tryz.func37, Tryz.ntmps37
    go_wp2
    go_ret
    exact ⟨rfl, rfl⟩

theorem szInstanceS_any (A : Option Addr) (n c : Nat) (left : Int) (w : World) (h0 : 0 ≤ left) (h1 : left ≤ 1048576) (hn : n ≤ maxLen) :
    Calls Tryz.prog 39 #[.slice A n c, .int .i64 left] w fun e w' => e = .returned (.int .i64 (szV left n)) ∧ w = w' := by
  unfold maxLen at hn
  by_cases h : (n : Int) ≤ left
  · rw [szV_yes h]
    have hs : ¬ (left - (n : Int) < 0) := by omega
    go_enter Tryz.func39, Tryz.ntmps39
    go_wp2
    go_ret
    exact ⟨rfl, rfl⟩
  · rw [szV_no h]
    have hs : left - (n : Int) < 0 := by omega
    go_enter Tryz.func39, Tryz.ntmps39
    go_wp2
    go_ret
    exact ⟨rfl, rfl⟩

theorem szLabel_any (l : LabelD) (left : Int) (w : World) (h0 : 0 ≤ left) (h1 : left ≤ 1048576) (hn : l.name.size ≤ maxLen) :
    Calls Tryz.prog 71 #[.agg #[.int .i64 l.layer, .int .i64 l.x, .int .i64 l.y, .string l.name], .int .i64 left] w fun e w' => e = .returned (.int .i64 (szV left l.name.size)) ∧ Below w.heap.size w w' := by
  unfold maxLen at hn
  by_cases h : (l.name.size : Int) ≤ left
  · rw [szV_yes h]
    have hs : ¬ (left - (l.name.size : Int) < 0) := by omega
    go_enter Tryz.func71, Tryz.ntmps71
    go_wp2
    go_ret
    exact ⟨rfl, (Below.refl _ _).alloc (Nat.le_refl _) _⟩
  · rw [szV_no h]
    have hs : left - (l.name.size : Int) < 0 := by omega
    go_enter Tryz.func71, Tryz.ntmps71
    go_wp2
    go_ret
    exact ⟨rfl, (Below.refl _ _).alloc (Nat.le_refl _) _⟩

set_option maxHeartbeats 800000 in
set_option maxRecDepth 100000 in
theorem szLabelS_any (A : Option Addr) (n c : Nat) (ls : List LabelD) (left : Int) (w : World) (hA : LaA w A n ls) (hN : ∀ l ∈ ls, l.name.size ≤ maxLen) (h0 : 0 ≤ left) (h1 : left ≤ 1048576) (hn : n ≤ maxLen) :
    Calls Tryz.prog 38 #[.slice A n c, .int .i64 left] w fun e w' => e = .returned (.int .i64 (szV left (labTot ls))) ∧ Below w.heap.size w w' := by
  obtain rfl := hA.len
  unfold maxLen at hn
  by_cases h : (ls.length : Int) ≤ left
  · have hs : ¬ (left - (ls.length : Int) < 0) := by omega
    have HN := Lib.hid hN
    clear hN
    go_enter Tryz.func38, Tryz.ntmps38
    go_wp2
    clear hs
    go_loopw [1, 5] (fun lv iv wr => ∃ k : Nat, k ≤ ls.length ∧ iv = .int .i64 k ∧ lv = .int .i64 (left - ls.length - (sumN (fun l : LabelD => l.name.size) (ls.take k) : Nat)) ∧ (sumN (fun l : LabelD => l.name.size) (ls.take k) : Nat) ≤ left - ls.length ∧ Below w.heap.size w wr) (fun _ iv _ => ls.length - (intOf iv).toNat)
    case atStart => exact ⟨0, Nat.zero_le _, rfl, by simp [sumN], by simp [sumN]; omega, Below.refl _ _⟩
    case round =>
      obtain ⟨k, hk, rfl, rfl, hle, hb⟩ := hrel
      by_cases hlt : k < ls.length
      · obtain ⟨l, hl⟩ : ∃ l, ls[k]? = some l := ⟨_, List.getElem?_eq_getElem hlt⟩
        obtain ⟨b, off, rfl, hbl, hc⟩ := (hA.on hb).elem k l hl
        have f0 : wr.cell? ⟨b, off + k * 4, none⟩ = some (.int .i64 l.layer) := hc 0 _ rfl
        have f1 : wr.cell? ⟨b, off + k * 4 + 1, none⟩ = some (.int .i64 l.x) := hc 1 _ rfl
        have f2 : wr.cell? ⟨b, off + k * 4 + 2, none⟩ = some (.int .i64 l.y) := hc 2 _ rfl
        have f3 : wr.cell? ⟨b, off + k * 4 + 3, none⟩ = some (.string l.name) := hc 3 _ rfl
        have hsz := HN.out l (List.mem_of_getElem? hl)
        have hst : sumN (fun l : LabelD => l.name.size) (ls.take (k + 1)) = sumN (fun l : LabelD => l.name.size) (ls.take k) + l.name.size := sumN_succ _ hl
        have htot := sumN_le (fun l : LabelD => l.name.size) ls (k + 1)
        obtain ⟨z, hz⟩ : ∃ z, z = (sumN (fun l : LabelD => l.name.size) (ls.take k)) := ⟨_, rfl⟩
        rw [← hz] at hst hle ⊢
        have Hst := Lib.hid hst
        have Htot := Lib.hid htot
        have hl0 : 0 ≤ left - (ls.length : Int) - (z : Int) := by omega
        have hl1 : left - (ls.length : Int) - (z : Int) ≤ 1048576 := by omega
        clear hst htot hl hc hz
        by_cases hfit : (l.name.size : Int) ≤ left - (ls.length : Int) - (z : Int)
        · have hnn : ¬ (left - (ls.length : Int) - (z : Int) - (l.name.size : Int) < 0) := by omega
          go_wp2_with (go_at_call 71; refine (szLabel_any l _ _ hl0 hl1 hsz).mono ?_; rintro e w2 ⟨rfl, hb2⟩; rw [szV_yes hfit])
          exact ⟨⟨k + 1, by omega, by go_num, by rw [Hst.out]; exact congrArg (Value.int .i64) (by omega), by rw [Hst.out]; omega, hb.trans (hb2.mono hb.size)⟩, by simp [intOf]; omega⟩
        · go_wp2_with (go_at_call 71; refine (szLabel_any l _ _ hl0 hl1 hsz).mono ?_; rintro e w2 ⟨rfl, hb2⟩; rw [szV_no hfit])
          go_ret
          exact ⟨by rw [szV_no (by unfold labTot; have := Hst.out; have := Htot.out; omega)]; rfl, hb.trans (hb2.mono hb.size)⟩
      · obtain rfl : k = ls.length := by omega
        rw [List.take_length] at hle ⊢
        go_wp2
        go_ret
        exact ⟨by rw [szV_yes (by unfold labTot; omega)]; unfold labTot; simp; omega, hb⟩
  · rw [szV_no (by unfold labTot; omega)]
    have hs : left - (ls.length : Int) < 0 := by omega
    go_enter Tryz.func38, Tryz.ntmps38
    go_wp2
    go_ret
    exact ⟨rfl, Below.refl _ _⟩


set_option maxHeartbeats 800000 in
set_option maxRecDepth 100000 in
theorem szCell_any (c : CellD) (A1 : Option Addr) (n1 c1 : Nat) (A2 : Option Addr) (n2 c2 : Nat) (A3 : Option Addr) (n3 c3 : Nat) (left : Int) (w : World) (s1 : ShA w A1 n1 c.shapes) (s2 : LaA w A2 n2 c.labels) (s3 : InA w A3 n3 c.insts)
    (m1 : n1 ≤ maxLen) (m2 : n2 ≤ maxLen) (m3 : n3 ≤ maxLen) (h0 : 0 ≤ left) (h1 : left ≤ 1048576) (hn : c.name.size ≤ maxLen) (hN : ∀ l ∈ c.labels, l.name.size ≤ maxLen) :
    Calls Tryz.prog 23 #[.agg #[.string c.name, .slice A1 n1 c1, .slice A2 n2 c2, .slice A3 n3 c3], .int .i64 left] w fun e w' => e = .returned (.int .i64 (szV left (cellTot c))) ∧ Below w.heap.size w w' := by
  obtain rfl := s1.len
  obtain rfl := s2.len
  obtain rfl := s3.len
  have b0 := (Below.refl w.heap.size w).alloc (Nat.le_refl _) (.cells #[.string c.name, .slice A1 c.shapes.length c1, .slice A2 c.labels.length c2, .slice A3 c.insts.length c3] 72)
  have x0 := Bk.new w 72 #[.string c.name, .slice A1 c.shapes.length c1, .slice A2 c.labels.length c2, .slice A3 c.insts.length c3]
  have S2 := Lib.hid (s2.on b0)
  have HN := Lib.hid hN
  have hnm := hn
  unfold maxLen at hnm
  clear s1 s2 s3 hN
  have tot : cellTot c = c.name.size + c.shapes.length + labTot c.labels + c.insts.length := rfl
  by_cases k1 : (c.name.size : Int) ≤ left
  · have q1 : ¬ (left - (c.name.size : Int) < 0) := by omega
    by_cases k2 : (c.shapes.length : Int) ≤ left - c.name.size
    · have q2 : ¬ (left - (c.name.size : Int) - (c.shapes.length : Int) < 0) := by omega
      by_cases k3 : (labTot c.labels : Int) ≤ left - c.name.size - c.shapes.length
      · have q3 : ¬ (left - (c.name.size : Int) - (c.shapes.length : Int) - (labTot c.labels : Int) < 0) := by omega
        by_cases k4 : (c.insts.length : Int) ≤ left - c.name.size - c.shapes.length - labTot c.labels
        · have q4 : ¬ (left - (c.name.size : Int) - (c.shapes.length : Int) - (labTot c.labels : Int) - (c.insts.length : Int) < 0) := by omega
          rw [szV_yes (by omega), show left - (cellTot c : Int) = left - (c.name.size : Int) - (c.shapes.length : Int) - (labTot c.labels : Int) - (c.insts.length : Int) by rw [tot]; omega]
          clear tot
          go_enter Tryz.func23, Tryz.ntmps23
          go_wp2_with (first
            | (go_at_call 37; refine (szShapeS_any _ _ _ _ _ (by omega) (by omega) m1).mono ?_; rintro e w1 ⟨rfl, rfl⟩; first | rw [szV_yes k2] | rw [szV_no (by omega)])
            | (go_at_call 38; refine (szLabelS_any _ _ _ c.labels _ _ S2.out HN.out (by omega) (by omega) m2).mono ?_; rintro e w2 ⟨rfl, hb2⟩; obtain ⟨d0, d1⟩ := bcell hb2; first | rw [szV_yes k3] | rw [szV_no (by omega)])
            | (go_at_call 39; refine (szInstanceS_any _ _ _ _ _ (by omega) (by omega) m3).mono ?_; rintro e w3 ⟨rfl, rfl⟩; first | rw [szV_yes k4] | rw [szV_no (by omega)]))
          go_ret
          exact ⟨rfl, b0.trans (hb2.mono (by simp))⟩
        · have q4 : left - (c.name.size : Int) - (c.shapes.length : Int) - (labTot c.labels : Int) - (c.insts.length : Int) < 0 := by omega
          rw [szV_no (by rw [tot]; omega)]
          clear tot
          go_enter Tryz.func23, Tryz.ntmps23
          go_wp2_with (first
            | (go_at_call 37; refine (szShapeS_any _ _ _ _ _ (by omega) (by omega) m1).mono ?_; rintro e w1 ⟨rfl, rfl⟩; first | rw [szV_yes k2] | rw [szV_no (by omega)])
            | (go_at_call 38; refine (szLabelS_any _ _ _ c.labels _ _ S2.out HN.out (by omega) (by omega) m2).mono ?_; rintro e w2 ⟨rfl, hb2⟩; obtain ⟨d0, d1⟩ := bcell hb2; first | rw [szV_yes k3] | rw [szV_no (by omega)])
            | (go_at_call 39; refine (szInstanceS_any _ _ _ _ _ (by omega) (by omega) m3).mono ?_; rintro e w3 ⟨rfl, rfl⟩; first | rw [szV_yes k4] | rw [szV_no (by omega)]))
          go_ret
          exact ⟨rfl, b0.trans (hb2.mono (by simp))⟩
      · rw [szV_no (by rw [tot]; omega)]
        clear tot
        go_enter Tryz.func23, Tryz.ntmps23
        go_wp2_with (first
          | (go_at_call 37; refine (szShapeS_any _ _ _ _ _ (by omega) (by omega) m1).mono ?_; rintro e w1 ⟨rfl, rfl⟩; first | rw [szV_yes k2] | rw [szV_no (by omega)])
          | (go_at_call 38; refine (szLabelS_any _ _ _ c.labels _ _ S2.out HN.out (by omega) (by omega) m2).mono ?_; rintro e w2 ⟨rfl, hb2⟩; obtain ⟨d0, d1⟩ := bcell hb2; first | rw [szV_yes k3] | rw [szV_no (by omega)])
          | (go_at_call 39; refine (szInstanceS_any _ _ _ _ _ (by omega) (by omega) m3).mono ?_; rintro e w3 ⟨rfl, rfl⟩; first | rw [szV_yes k4] | rw [szV_no (by omega)]))
        go_ret
        exact ⟨rfl, b0.trans (hb2.mono (by simp))⟩
    · rw [szV_no (by rw [tot]; omega)]
      clear tot
      go_enter Tryz.func23, Tryz.ntmps23
      go_wp2_with (first
        | (go_at_call 37; refine (szShapeS_any _ _ _ _ _ (by omega) (by omega) m1).mono ?_; rintro e w1 ⟨rfl, rfl⟩; first | rw [szV_yes k2] | rw [szV_no (by omega)])
        | (go_at_call 38; refine (szLabelS_any _ _ _ c.labels _ _ S2.out HN.out (by omega) (by omega) m2).mono ?_; rintro e w2 ⟨rfl, hb2⟩; obtain ⟨d0, d1⟩ := bcell hb2; first | rw [szV_yes k3] | rw [szV_no (by omega)])
        | (go_at_call 39; refine (szInstanceS_any _ _ _ _ _ (by omega) (by omega) m3).mono ?_; rintro e w3 ⟨rfl, rfl⟩; first | rw [szV_yes k4] | rw [szV_no (by omega)]))
      go_ret
      exact ⟨rfl, b0⟩
  · have q1 : left - (c.name.size : Int) < 0 := by omega
    rw [szV_no (by rw [tot]; omega)]
    clear tot
    go_enter Tryz.func23, Tryz.ntmps23
    go_wp2_with (first
      | (go_at_call 37; refine (szShapeS_any _ _ _ _ _ (by omega) (by omega) m1).mono ?_; rintro e w1 ⟨rfl, rfl⟩; first | rw [szV_yes k2] | rw [szV_no (by omega)])
      | (go_at_call 38; refine (szLabelS_any _ _ _ c.labels _ _ S2.out HN.out (by omega) (by omega) m2).mono ?_; rintro e w2 ⟨rfl, hb2⟩; obtain ⟨d0, d1⟩ := bcell hb2; first | rw [szV_yes k3] | rw [szV_no (by omega)])
      | (go_at_call 39; refine (szInstanceS_any _ _ _ _ _ (by omega) (by omega) m3).mono ?_; rintro e w3 ⟨rfl, rfl⟩; first | rw [szV_yes k4] | rw [szV_no (by omega)]))
    go_ret
    exact ⟨rfl, b0⟩


set_option maxHeartbeats 800000 in
set_option maxRecDepth 100000 in
theorem szCellS_any (A : Option Addr) (n c : Nat) (cs : List CellD) (left : Int) (w : World) (hA : CA w A n cs) (hN : NamesOk cs) (h0 : 0 ≤ left) (h1 : left ≤ 1048576) (hn : n ≤ maxLen) :
    Calls Tryz.prog 9 #[.slice A n c, .int .i64 left] w fun e w' => e = .returned (.int .i64 (szV left (libTot cs))) ∧ Below w.heap.size w w' := by
  obtain rfl := hA.len
  unfold maxLen at hn
  by_cases h : (cs.length : Int) ≤ left
  · have hs : ¬ (left - (cs.length : Int) < 0) := by omega
    have HN := Lib.hid hN
    clear hN
    go_enter Tryz.func9, Tryz.ntmps9
    go_wp2
    clear hs
    go_loopw [1, 5] (fun lv iv wr => ∃ k : Nat, k ≤ cs.length ∧ iv = .int .i64 k ∧ lv = .int .i64 (left - cs.length - (sumN cellTot (cs.take k) : Nat)) ∧ (sumN cellTot (cs.take k) : Nat) ≤ left - cs.length ∧ Below w.heap.size w wr) (fun _ iv _ => cs.length - (intOf iv).toNat)
    case atStart => exact ⟨0, Nat.zero_le _, rfl, by simp [sumN], by simp [sumN]; omega, Below.refl _ _⟩
    case round =>
      obtain ⟨k, hk, rfl, rfl, hle, hb⟩ := hrel
      by_cases hlt : k < cs.length
      · obtain ⟨l, hl⟩ : ∃ l, cs[k]? = some l := ⟨_, List.getElem?_eq_getElem hlt⟩
        obtain ⟨b, off, A1, n1, c1, A2, n2, c2, A3, n3, c3, rfl, hbl, f0, f1, f2, f3, ⟨i1, m1⟩, ⟨i2, m2⟩, ⟨i3, m3⟩, s1, s2, s3⟩ := (hA.on hb).elem k l hl
        replace m1 := Nat.le_trans i1 m1
        replace m2 := Nat.le_trans i2 m2
        replace m3 := Nat.le_trans i3 m3
        clear i1 i2 i3
        obtain ⟨hsz, hszl⟩ := HN.out l (List.mem_of_getElem? hl)
        have hst := sumN_succ cellTot hl
        have htot := sumN_le cellTot cs (k + 1)
        obtain ⟨z, hz⟩ : ∃ z, z = (sumN cellTot (cs.take k)) := ⟨_, rfl⟩
        rw [← hz] at hst hle ⊢
        have Hst := Lib.hid hst
        have Htot := Lib.hid htot
        have M1 := Lib.hid m1
        have M2 := Lib.hid m2
        have M3 := Lib.hid m3
        have SZ := Lib.hid hsz
        have SL := Lib.hid hszl
        have S1 := Lib.hid s1
        have S2 := Lib.hid s2
        have S3 := Lib.hid s3
        have hl0 : 0 ≤ left - (cs.length : Int) - (z : Int) := by omega
        have hl1 : left - (cs.length : Int) - (z : Int) ≤ 1048576 := by omega
        clear hst htot hl hz m1 m2 m3 hsz hszl s1 s2 s3
        by_cases hfit : (cellTot l : Int) ≤ left - (cs.length : Int) - (z : Int)
        · have hnn : ¬ (left - (cs.length : Int) - (z : Int) - (cellTot l : Int) < 0) := by omega
          go_wp2_with (go_at_call 23; refine (szCell_any l _ _ _ _ _ _ _ _ _ _ _ S1.out S2.out S3.out M1.out M2.out M3.out hl0 hl1 SZ.out SL.out).mono ?_; rintro e w2 ⟨rfl, hb2⟩; rw [szV_yes hfit])
          exact ⟨⟨k + 1, by omega, by go_num, by rw [Hst.out]; exact congrArg (Value.int .i64) (by omega), by rw [Hst.out]; omega, hb.trans (hb2.mono hb.size)⟩, by simp [intOf]; omega⟩
        · have hnn : (-1 : Int) < 0 := by decide
          go_wp2_with (go_at_call 23; refine (szCell_any l _ _ _ _ _ _ _ _ _ _ _ S1.out S2.out S3.out M1.out M2.out M3.out hl0 hl1 SZ.out SL.out).mono ?_; rintro e w2 ⟨rfl, hb2⟩; rw [szV_no (by omega)])
          go_ret
          exact ⟨by rw [szV_no (by unfold libTot; have := Hst.out; have := Htot.out; omega)]; rfl, hb.trans (hb2.mono hb.size)⟩
      · obtain rfl : k = cs.length := by omega
        rw [List.take_length] at hle ⊢
        go_wp2
        go_ret
        exact ⟨by rw [szV_yes (by unfold libTot; omega)]; unfold libTot; simp; omega, hb⟩
  · rw [szV_no (by unfold libTot; omega)]
    have hs : left - (cs.length : Int) < 0 := by omega
    go_enter Tryz.func9, Tryz.ntmps9
    go_wp2
    go_ret
    exact ⟨rfl, Below.refl _ _⟩

theorem szLib_any (A : Option Addr) (n c : Nat) (cs : List CellD) (left : Int) (w : World) (hA : CA w A n cs) (hN : NamesOk cs) (h0 : 0 ≤ left) (h1 : left ≤ 1048576) (hn : n ≤ maxLen) :
    Calls Tryz.prog 4 #[.agg #[.slice A n c], .int .i64 left] w fun e w' => e = .returned (.int .i64 (szV left (libTot cs))) ∧ Below w.heap.size w w' := by
  have b0 := (Below.refl w.heap.size w).alloc (Nat.le_refl _) (.cells #[.slice A n c] 24)
  have C0 := Lib.hid (hA.on b0)
  have HN := Lib.hid hN
  clear hA hN
  by_cases h : (libTot cs : Int) ≤ left
  · have hs : ¬ (left - (libTot cs : Int) < 0) := by omega
    rw [szV_yes h]
    go_enter Tryz.func4, Tryz.ntmps4
    go_wp2_with (go_at_call 9; refine (szCellS_any _ _ _ cs _ _ C0.out HN.out h0 h1 hn).mono ?_; rintro e w2 ⟨rfl, hb2⟩; rw [szV_yes h])
    go_ret
    exact ⟨rfl, b0.trans (hb2.mono (by simp))⟩
  · rw [szV_no h]
    go_enter Tryz.func4, Tryz.ntmps4
    go_wp2_with (go_at_call 9; refine (szCellS_any _ _ _ cs _ _ C0.out HN.out h0 h1 hn).mono ?_; rintro e w2 ⟨rfl, hb2⟩; rw [szV_no (by omega)])
    go_ret
    exact ⟨rfl, b0.trans (hb2.mono (by simp))⟩


theorem toTrans_any (a b c : Int) (w : World) : Calls Tryz.prog 91 #[.agg #[.int .i64 a, .int .i64 b, .int .i64 c]] w fun e w' => e = .returned (.agg #[.int .i64 a, .int .i64 b, .int .i64 c]) ∧ Below w.heap.size w w' := by
  go_enter Tryz.func91, Tryz.ntmps91
  go_wp2
  refine bodyPost_ret (v := .agg #[.int .i64 a, .int .i64 b, .int .i64 c]) (by simp [results, Tryz.results91, go_sem]) rfl ⟨rfl, ?_⟩
  exact ((((Below.refl _ _).alloc (Nat.le_refl _) _).alloc (by simp) _).alloc (by simp; omega) _)
theorem eqTrans_same (a b c : Int) (w : World) : Calls Tryz.prog 96 #[.agg #[.int .i64 a, .int .i64 b, .int .i64 c], .agg #[.int .i64 a, .int .i64 b, .int .i64 c]] w fun e w' => e = .returned (.bool true) ∧ Below w.heap.size w w' := by
  go_enter Tryz.func96, Tryz.ntmps96
  go_wp2
  go_ret
  exact ⟨rfl, (((Below.refl _ _).alloc (Nat.le_refl _) _).alloc (by simp) _)⟩
theorem eqPoint_same (a b : Int) (w : World) : Calls Tryz.prog 95 #[.agg #[.int .i64 a, .int .i64 b], .agg #[.int .i64 a, .int .i64 b]] w fun e w' => e = .returned (.bool true) ∧ Below w.heap.size w w' := by
  go_enter Tryz.func95, Tryz.ntmps95
  go_wp2
  go_ret
  exact ⟨rfl, (((Below.refl _ _).alloc (Nat.le_refl _) _).alloc (by simp) _)⟩


set_option maxHeartbeats 800000 in
set_option maxRecDepth 100000 in
theorem toShape_any (a0 : Int) (a1 : Int) (a2 : Int) (a3 : Int) (a4 : Int) (w : World) : Calls Tryz.prog 76 #[.agg #[.int .i64 a0, .int .i64 a1, .int .i64 a2, .int .i64 a3, .int .i64 a4]] w fun e w' => e = .returned (.agg #[.int .i64 a0, .int .i64 a1, .int .i64 a2, .int .i64 a3, .int .i64 a4]) ∧ Below w.heap.size w w' := by
  go_enter Tryz.func76, Tryz.ntmps76
  go_wp2_with (go_at_call 89; refine (toRect_any _ _ _ _ _).mono ?_; rintro e w1 ⟨rfl, hb1⟩; obtain ⟨hc1, hf1⟩ := bcell hb1; have hz1 : w.heap.size + 2 < w1.heap.size := (by have := hb1.size; simp at this; omega))
  refine bodyPost_ret (v := .agg #[.int .i64 a0, .int .i64 a1, .int .i64 a2, .int .i64 a3, .int .i64 a4]) (by simp [results, Tryz.results76, go_sem, hc1]) rfl ⟨rfl, ?_⟩
  have b3 := (((Below.refl w.heap.size w).alloc (Nat.le_refl _) (.cells #[.int .i64 a0, .int .i64 a1, .int .i64 a2, .int .i64 a3, .int .i64 a4] 119)).alloc (by simp) (.cells #[.int .i64 0, .int .i64 0, .int .i64 0, .int .i64 0, .int .i64 0] 44)).alloc (by simp; omega) (.cells #[.int .i64 a0, .int .i64 0, .int .i64 0, .int .i64 0, .int .i64 0] 44)
  have b4 := b3.trans (hb1.mono (by simp; omega))
  iterate 9 refine Below.setCell ?_ (by dsimp only; omega) _
  exact b4


set_option maxHeartbeats 800000 in
set_option maxRecDepth 100000 in
theorem toLabel_any (a0 : Int) (a1 : Int) (a2 : Int) (a3 : ByteArray) (w : World) : Calls Tryz.prog 77 #[.agg #[.int .i64 a0, .int .i64 a1, .int .i64 a2, .string a3]] w fun e w' => e = .returned (.agg #[.int .i64 a0, .int .i64 a1, .int .i64 a2, .string a3]) ∧ Below w.heap.size w w' := by
  go_enter Tryz.func77, Tryz.ntmps77
  go_wp2_with (go_at_call 90; refine (toPoint_any _ _ _).mono ?_; rintro e w1 ⟨rfl, hb1⟩; obtain ⟨hc1, hf1⟩ := bcell hb1; have hz1 : w.heap.size + 2 < w1.heap.size := (by have := hb1.size; simp at this; omega))
  refine bodyPost_ret (v := .agg #[.int .i64 a0, .int .i64 a1, .int .i64 a2, .string a3]) (by simp [results, Tryz.results77, go_sem, hc1]) rfl ⟨rfl, ?_⟩
  have b3 := (((Below.refl w.heap.size w).alloc (Nat.le_refl _) (.cells #[.int .i64 a0, .int .i64 a1, .int .i64 a2, .string a3] 112)).alloc (by simp) (.cells #[.int .i64 0, .int .i64 0, .int .i64 0, .string ⟨#[]⟩] 49)).alloc (by simp; omega) (.cells #[.int .i64 a0, .int .i64 0, .int .i64 0, .string ⟨#[]⟩] 49)
  have b4 := b3.trans (hb1.mono (by simp; omega))
  iterate 7 refine Below.setCell ?_ (by dsimp only; omega) _
  exact b4


set_option maxHeartbeats 800000 in
set_option maxRecDepth 100000 in
theorem toInstance_any (a0 : Int) (a1 : Int) (a2 : Int) (a3 : Int) (a4 : Int) (a5 : Int) (a6 : Int) (a7 : Int) (w : World) : Calls Tryz.prog 78 #[.agg #[.int .i64 a0, .int .i64 a1, .int .i64 a2, .int .i64 a3, .int .i64 a4, .int .i64 a5, .int .i64 a6, .int .i64 a7]] w fun e w' => e = .returned (.agg #[.int .i64 a0, .int .i64 a1, .int .i64 a2, .int .i64 a3, .int .i64 a4, .int .i64 a5, .int .i64 a6, .int .i64 a7]) ∧ Below w.heap.size w w' := by
  go_enter Tryz.func78, Tryz.ntmps78
  go_wp2_with (go_at_call 91; refine (toTrans_any _ _ _ _).mono ?_; rintro e w1 ⟨rfl, hb1⟩; obtain ⟨hc1, hf1⟩ := bcell hb1; have hz1 : w.heap.size + 2 < w1.heap.size := (by have := hb1.size; simp at this; omega))
  refine bodyPost_ret (v := .agg #[.int .i64 a0, .int .i64 a1, .int .i64 a2, .int .i64 a3, .int .i64 a4, .int .i64 a5, .int .i64 a6, .int .i64 a7]) (by simp [results, Tryz.results78, go_sem, hc1]) rfl ⟨rfl, ?_⟩
  have b3 := (((Below.refl w.heap.size w).alloc (Nat.le_refl _) (.cells #[.int .i64 a0, .int .i64 a1, .int .i64 a2, .int .i64 a3, .int .i64 a4, .int .i64 a5, .int .i64 a6, .int .i64 a7] 124)).alloc (by simp) (.cells #[.int .i64 0, .int .i64 0, .int .i64 0, .int .i64 0, .int .i64 0, .int .i64 0, .int .i64 0, .int .i64 0] 54)).alloc (by simp; omega) (.cells #[.int .i64 a0, .int .i64 0, .int .i64 0, .int .i64 0, .int .i64 0, .int .i64 0, .int .i64 0, .int .i64 0] 54)
  have b4 := b3.trans (hb1.mono (by simp; omega))
  iterate 15 refine Below.setCell ?_ (by dsimp only; omega) _
  exact b4


theorem flat_zeros {α : Type} {enc : α → List Value} (z : α) (cs : Array Value) (hz : enc z = cs.toList) (hpos : 0 < cs.size) (he : ∀ x, (enc x).length = cs.size) (n : Nat) : (madeCells cs (n * cs.size)).toList = (List.replicate n z).flatMap enc := by
  apply List.ext_getElem?
  intro j
  simp only [madeCells, Array.toList_map, Array.toList_range, List.getElem?_map]
  by_cases hj : j < n * cs.size
  · rw [List.getElem?_range hj]
    have hk : j / cs.size < n := Nat.div_lt_of_lt_mul (by rw [Nat.mul_comm]; exact hj)
    have hm : j % cs.size < cs.size := Nat.mod_lt _ hpos
    have h1 : (List.replicate n z)[j / cs.size]? = some z := by rw [List.getElem?_replicate, if_pos hk]
    have h2 : (enc z)[j % cs.size]? = some cs[j % cs.size] := by rw [hz, Array.getElem?_toList, Array.getElem?_eq_getElem hm]
    have := flat_get he _ _ _ h1 _ _ h2
    rw [Nat.mul_comm, Nat.div_add_mod] at this
    rw [this]
    simp [hm]
  · rw [List.getElem?_eq_none (by simp; omega), List.getElem?_eq_none (by rw [flat_len he, List.length_replicate]; omega)]
    rfl
/-- The first k elements are laid. -/
def laidG {α : Type} (z : α) (xs : List α) (k : Nat) : List α := xs.take k ++ List.replicate (xs.length - k) z
theorem laidG_length {α : Type} (z : α) (xs : List α) (k : Nat) (h : k ≤ xs.length) : (laidG z xs k).length = xs.length := by simp [laidG]; omega
theorem laidG_step {α : Type} (z : α) {xs : List α} {k : Nat} {r : α} (h : xs[k]? = some r) : (laidG z xs k).set k r = laidG z xs (k + 1) := by
  have hk : k < xs.length := (List.getElem?_eq_some_iff.1 h).1
  have hl : (xs.take k).length = k := by rw [List.length_take]; omega
  have e : xs.length - k = (xs.length - (k + 1)) + 1 := by omega
  unfold laidG
  rw [List.set_append_right _ _ (by omega), hl, Nat.sub_self, e, List.replicate_succ, List.set_cons_zero, List.take_add_one, h, List.append_assoc]
  rfl
theorem laidG_end {α : Type} (z : α) (xs : List α) : laidG z xs xs.length = xs := by simp [laidG]
theorem laidG_zero {α : Type} (z : α) (xs : List α) : laidG z xs 0 = List.replicate xs.length z := by simp [laidG]


theorem infoShape : (Tryz.prog.info? 44).map (fun i => (i.zero, i.size, i.bytes)) = some (some (.agg #[.int .i64 0, .int .i64 0, .int .i64 0, .int .i64 0, .int .i64 0]), 5, 40) := by kernel_rfl
set_option maxHeartbeats 800000 in
set_option maxRecDepth 100000 in
theorem toShapeS_any (A : Option Addr) (n c : Nat) (xs : List ShapeD) (w : World) (hA : ShA w A n xs) (hn : n ≤ 1048576) :
    Calls Tryz.prog 49 #[.slice A n c] w fun e w' => ∃ u, e = .returned u ∧ ShL w' w.heap.size u xs ∧ Below w.heap.size w w' := by
  obtain rfl := hA.len
  obtain ⟨i0, hi0, hz0, hsz0, hby0⟩ := info_parts infoShape
  go_enter Tryz.func49, Tryz.ntmps49
  go_wp2_with (at_make; refine wpList_make_full _ rfl _ _ 35 rfl w.heap.size 44 i0 _ 5 Tryz.underlying35 hi0 hz0 hsz0 _ _ _ _ xs.length rfl rfl rfl rfl (by rw [hby0]; omega) (by simp only [maxLen]; omega) (Nat.le_refl _) ?_)
  intro w1 ho1 hg1
  have hb1 : Below w.heap.size w w1 := (Below.refl _ _).grown hg1 (Nat.le_refl _) (fun k hk => by cases hk)
  have hR1 : ShL w1 w.heap.size (.slice (some ⟨w.heap.size, 0, none⟩) xs.length xs.length) (laidG (⟨0, ⟨0, 0, 0, 0⟩⟩ : ShapeD) xs 0) := by
    show w1.ownsRow _ _ _ _ _ _
    rw [laidG_zero, List.length_replicate, ← flat_zeros (enc := ShapeD.vals) (⟨0, ⟨0, 0, 0, 0⟩⟩ : ShapeD) #[.int .i64 0, .int .i64 0, .int .i64 0, .int .i64 0, .int .i64 0] rfl (by decide) ShapeD.len]
    exact ho1
  clear ho1 hg1 hi0 hz0 hsz0 hby0
  go_wp2
  go_loopw [4] (fun iv wr => ∃ k : Nat, k ≤ xs.length ∧ iv = .int .i64 k ∧ ShL wr w.heap.size (.slice (some ⟨w.heap.size, 0, none⟩) xs.length xs.length) (laidG (⟨0, ⟨0, 0, 0, 0⟩⟩ : ShapeD) xs k) ∧ Below w.heap.size w wr) (fun iv _ => xs.length - (intOf iv).toNat)
  case atStart => exact ⟨0, Nat.zero_le _, rfl, hR1, hb1⟩
  case round =>
    obtain ⟨k, hk, rfl, hR, hb⟩ := hrel
    clear hR1 hb1
    by_cases hlt : k < xs.length
    · obtain ⟨x, hx⟩ : ∃ x, xs[k]? = some x := ⟨_, List.getElem?_eq_getElem hlt⟩
      obtain ⟨b, off, rfl, hbl, hc⟩ := (hA.on hb).elem k x hx
      have Hst := Lib.hid (laidG_step (⟨0, ⟨0, 0, 0, 0⟩⟩ : ShapeD) hx)
      have hkl : k < (laidG (⟨0, ⟨0, 0, 0, 0⟩⟩ : ShapeD) xs k).length := by rw [laidG_length _ _ _ hk]; exact hlt
      obtain ⟨x, hx9⟩ : ∃ y : ShapeD, y = x := ⟨x, rfl⟩
      subst hx9
      obtain ⟨a0, ⟨a1, a2, a3, a4⟩⟩ := x
      have f0 : wr.cell? ⟨b, off + k * 5, none⟩ = some (.int .i64 a0) := hc 0 _ rfl
      have f1 : wr.cell? ⟨b, off + k * 5 + 1, none⟩ = some (.int .i64 a1) := hc 1 _ rfl
      have f2 : wr.cell? ⟨b, off + k * 5 + 2, none⟩ = some (.int .i64 a2) := hc 2 _ rfl
      have f3 : wr.cell? ⟨b, off + k * 5 + 3, none⟩ = some (.int .i64 a3) := hc 3 _ rfl
      have f4 : wr.cell? ⟨b, off + k * 5 + 4, none⟩ = some (.int .i64 a4) := hc 4 _ rfl
      clear hx hc
      go_wp2_with (go_at_call 76; refine (toShape_any a0 a1 a2 a3 a4 _).mono ?_; rintro e w2 ⟨rfl, hb2⟩; obtain ⟨g9, y, hg9, -, -, -, hcy⟩ := FL.elem ShapeD.len (hR.on hb2) hkl; cases hg9; obtain ⟨b0, ⟨b1, b2, b3, b4⟩⟩ := y; have z0 : w2.cell? ⟨w.heap.size, k * 5, none⟩ = some (.int .i64 b0) := hcy 0 _ rfl; have t0 := (hR.on hb2).frozen (k * 5); have z1 : w2.cell? ⟨w.heap.size, k * 5 + 1, none⟩ = some (.int .i64 b1) := hcy 1 _ rfl; have t1 := (hR.on hb2).frozen (k * 5 + 1); have z2 : w2.cell? ⟨w.heap.size, k * 5 + 2, none⟩ = some (.int .i64 b2) := hcy 2 _ rfl; have t2 := (hR.on hb2).frozen (k * 5 + 2); have z3 : w2.cell? ⟨w.heap.size, k * 5 + 3, none⟩ = some (.int .i64 b3) := hcy 3 _ rfl; have t3 := (hR.on hb2).frozen (k * 5 + 3); have z4 : w2.cell? ⟨w.heap.size, k * 5 + 4, none⟩ = some (.int .i64 b4) := hcy 4 _ rfl; have t4 := (hR.on hb2).frozen (k * 5 + 4); clear hcy)
      refine ⟨⟨k + 1, by omega, by go_num, ?_, ?_⟩, by simp [intOf]; omega⟩
      · rw [← Hst.out]
        exact FL.put ShapeD.len (hR.on hb2) hkl ⟨a0, ⟨a1, a2, a3, a4⟩⟩
      · exact below_put (ShapeD.vals ⟨a0, ⟨a1, a2, a3, a4⟩⟩) (k * 5) (hb.trans (hb2.mono hb.size)) (Nat.le_refl _)
    · go_wp2
      go_ret
      obtain rfl : k = xs.length := by omega
      rw [laidG_end] at hR
      exact ⟨_, rfl, hR, hb⟩

theorem eqShape_same (x : ShapeD) (w : World) : Calls Tryz.prog 86 #[.agg x.vals.toArray, .agg x.vals.toArray] w fun e w' => e = .returned (.bool true) ∧ Below w.heap.size w w' := by
  obtain ⟨a0, ⟨a1, a2, a3, a4⟩⟩ := x
  show Calls Tryz.prog 86 #[.agg #[.int .i64 a0, .int .i64 a1, .int .i64 a2, .int .i64 a3, .int .i64 a4], .agg #[.int .i64 a0, .int .i64 a1, .int .i64 a2, .int .i64 a3, .int .i64 a4]] w fun e w' => e = .returned (.bool true) ∧ Below w.heap.size w w'
  have b2 := ((Below.refl w.heap.size w).alloc (Nat.le_refl _) (.cells #[.int .i64 a0, .int .i64 a1, .int .i64 a2, .int .i64 a3, .int .i64 a4] 44)).alloc (by simp) (.cells #[.int .i64 a0, .int .i64 a1, .int .i64 a2, .int .i64 a3, .int .i64 a4] 44)
  go_enter Tryz.func86, Tryz.ntmps86
  go_wp2_with (go_at_call 94; refine (eqRect_same ⟨a1, a2, a3, a4⟩ _).mono ?_; rintro e w1 ⟨rfl, hb1⟩; obtain ⟨hc1, hf1⟩ := bcell hb1)
  go_ret
  exact ⟨rfl, b2.trans (hb1.mono (by simp; omega))⟩

set_option maxHeartbeats 800000 in
set_option maxRecDepth 100000 in
theorem eqShapeS_same (v u : Value) (xs : List ShapeD) (w : World) (hv : ShL w 0 v xs) (hu : ShL w 0 u xs) :
    Calls Tryz.prog 68 #[v, u] w fun e w' => e = .returned (.bool true) ∧ Below w.heap.size w w' := by
  obtain ⟨A, c1, rfl, hc1, hm1⟩ := hv.form
  obtain ⟨A2, c2, rfl, hc2, hm2⟩ := hu.form
  have hlen : xs.length ≤ 9223372036854775807 := by unfold maxLen at hm1; omega
  go_enter Tryz.func68, Tryz.ntmps68
  go_wp2
  go_loopw [5] (fun i wr => ∃ k : Nat, k ≤ xs.length ∧ i = .int .i64 k ∧ Below w.heap.size w wr) (fun i _ => xs.length - (intOf i).toNat)
  case atStart => exact ⟨0, Nat.zero_le _, rfl, Below.refl _ _⟩
  case round =>
    obtain ⟨k, hk, rfl, hb⟩ := hrel
    by_cases hlt : k < xs.length
    · obtain ⟨g, x, rfl, hx, -, -, hc⟩ := FL.elem ShapeD.len (hv.on hb) hlt
      obtain ⟨g', x', rfl, hx', -, -, hc'⟩ := FL.elem ShapeD.len (hu.on hb) hlt
      obtain rfl : x' = x := Option.some.inj (hx'.symm.trans hx)
      obtain ⟨a0, ⟨a1, a2, a3, a4⟩⟩ := x'
      have f0 : wr.cell? ⟨g, k * 5, none⟩ = some (.int .i64 a0) := hc 0 _ rfl
      have f1 : wr.cell? ⟨g, k * 5 + 1, none⟩ = some (.int .i64 a1) := hc 1 _ rfl
      have f2 : wr.cell? ⟨g, k * 5 + 2, none⟩ = some (.int .i64 a2) := hc 2 _ rfl
      have f3 : wr.cell? ⟨g, k * 5 + 3, none⟩ = some (.int .i64 a3) := hc 3 _ rfl
      have f4 : wr.cell? ⟨g, k * 5 + 4, none⟩ = some (.int .i64 a4) := hc 4 _ rfl
      have e0 : wr.cell? ⟨g', k * 5, none⟩ = some (.int .i64 a0) := hc' 0 _ rfl
      have e1 : wr.cell? ⟨g', k * 5 + 1, none⟩ = some (.int .i64 a1) := hc' 1 _ rfl
      have e2 : wr.cell? ⟨g', k * 5 + 2, none⟩ = some (.int .i64 a2) := hc' 2 _ rfl
      have e3 : wr.cell? ⟨g', k * 5 + 3, none⟩ = some (.int .i64 a3) := hc' 3 _ rfl
      have e4 : wr.cell? ⟨g', k * 5 + 4, none⟩ = some (.int .i64 a4) := hc' 4 _ rfl
      clear hx hx' hv hu hc hc'
      go_wp2
      go_still_tail 8, (by kernel_rfl)
      change wpList _ _ _ _ _ wr.drew
      have hb2 : Below w.heap.size w wr.drew := hb.drew
      generalize wr.drew = w2 at *
      go_wp2_with (go_at_call 86; refine (eqShape_same ⟨a0, ⟨a1, a2, a3, a4⟩⟩ _).mono ?_; rintro e w1 ⟨rfl, hb1⟩)
      exact ⟨⟨k + 1, by omega, by go_num, hb2.trans (hb1.mono hb2.size)⟩, by simp [intOf]; omega⟩
    · go_wp2
      go_ret
      exact ⟨rfl, hb⟩


theorem infoLabel : (Tryz.prog.info? 49).map (fun i => (i.zero, i.size, i.bytes)) = some (some (.agg #[.int .i64 0, .int .i64 0, .int .i64 0, .string ⟨#[]⟩]), 4, 40) := by kernel_rfl
set_option maxHeartbeats 800000 in
set_option maxRecDepth 100000 in
theorem toLabelS_any (A : Option Addr) (n c : Nat) (xs : List LabelD) (w : World) (hA : LaA w A n xs) (hn : n ≤ 1048576) :
    Calls Tryz.prog 50 #[.slice A n c] w fun e w' => ∃ u, e = .returned u ∧ LaL w' w.heap.size u xs ∧ Below w.heap.size w w' := by
  obtain rfl := hA.len
  obtain ⟨i0, hi0, hz0, hsz0, hby0⟩ := info_parts infoLabel
  go_enter Tryz.func50, Tryz.ntmps50
  go_wp2_with (at_make; refine wpList_make_full _ rfl _ _ 36 rfl w.heap.size 49 i0 _ 4 Tryz.underlying36 hi0 hz0 hsz0 _ _ _ _ xs.length rfl rfl rfl rfl (by rw [hby0]; omega) (by simp only [maxLen]; omega) (Nat.le_refl _) ?_)
  intro w1 ho1 hg1
  have hb1 : Below w.heap.size w w1 := (Below.refl _ _).grown hg1 (Nat.le_refl _) (fun k hk => by cases hk)
  have hR1 : LaL w1 w.heap.size (.slice (some ⟨w.heap.size, 0, none⟩) xs.length xs.length) (laidG (⟨0, 0, 0, ⟨#[]⟩⟩ : LabelD) xs 0) := by
    show w1.ownsRow _ _ _ _ _ _
    rw [laidG_zero, List.length_replicate, ← flat_zeros (enc := LabelD.vals) (⟨0, 0, 0, ⟨#[]⟩⟩ : LabelD) #[.int .i64 0, .int .i64 0, .int .i64 0, .string ⟨#[]⟩] rfl (by decide) LabelD.len]
    exact ho1
  clear ho1 hg1 hi0 hz0 hsz0 hby0
  go_wp2
  go_loopw [4] (fun iv wr => ∃ k : Nat, k ≤ xs.length ∧ iv = .int .i64 k ∧ LaL wr w.heap.size (.slice (some ⟨w.heap.size, 0, none⟩) xs.length xs.length) (laidG (⟨0, 0, 0, ⟨#[]⟩⟩ : LabelD) xs k) ∧ Below w.heap.size w wr) (fun iv _ => xs.length - (intOf iv).toNat)
  case atStart => exact ⟨0, Nat.zero_le _, rfl, hR1, hb1⟩
  case round =>
    obtain ⟨k, hk, rfl, hR, hb⟩ := hrel
    clear hR1 hb1
    by_cases hlt : k < xs.length
    · obtain ⟨x, hx⟩ : ∃ x, xs[k]? = some x := ⟨_, List.getElem?_eq_getElem hlt⟩
      obtain ⟨b, off, rfl, hbl, hc⟩ := (hA.on hb).elem k x hx
      have Hst := Lib.hid (laidG_step (⟨0, 0, 0, ⟨#[]⟩⟩ : LabelD) hx)
      have hkl : k < (laidG (⟨0, 0, 0, ⟨#[]⟩⟩ : LabelD) xs k).length := by rw [laidG_length _ _ _ hk]; exact hlt
      obtain ⟨x, hx9⟩ : ∃ y : LabelD, y = x := ⟨x, rfl⟩
      subst hx9
      obtain ⟨a0, a1, a2, a3⟩ := x
      have f0 : wr.cell? ⟨b, off + k * 4, none⟩ = some (.int .i64 a0) := hc 0 _ rfl
      have f1 : wr.cell? ⟨b, off + k * 4 + 1, none⟩ = some (.int .i64 a1) := hc 1 _ rfl
      have f2 : wr.cell? ⟨b, off + k * 4 + 2, none⟩ = some (.int .i64 a2) := hc 2 _ rfl
      have f3 : wr.cell? ⟨b, off + k * 4 + 3, none⟩ = some (.string a3) := hc 3 _ rfl
      clear hx hc
      go_wp2_with (go_at_call 77; refine (toLabel_any a0 a1 a2 a3 _).mono ?_; rintro e w2 ⟨rfl, hb2⟩; obtain ⟨g9, y, hg9, -, -, -, hcy⟩ := FL.elem LabelD.len (hR.on hb2) hkl; cases hg9; obtain ⟨b0, b1, b2, b3⟩ := y; have z0 : w2.cell? ⟨w.heap.size, k * 4, none⟩ = some (.int .i64 b0) := hcy 0 _ rfl; have t0 := (hR.on hb2).frozen (k * 4); have z1 : w2.cell? ⟨w.heap.size, k * 4 + 1, none⟩ = some (.int .i64 b1) := hcy 1 _ rfl; have t1 := (hR.on hb2).frozen (k * 4 + 1); have z2 : w2.cell? ⟨w.heap.size, k * 4 + 2, none⟩ = some (.int .i64 b2) := hcy 2 _ rfl; have t2 := (hR.on hb2).frozen (k * 4 + 2); have z3 : w2.cell? ⟨w.heap.size, k * 4 + 3, none⟩ = some (.string b3) := hcy 3 _ rfl; have t3 := (hR.on hb2).frozen (k * 4 + 3); clear hcy)
      refine ⟨⟨k + 1, by omega, by go_num, ?_, ?_⟩, by simp [intOf]; omega⟩
      · rw [← Hst.out]
        exact FL.put LabelD.len (hR.on hb2) hkl ⟨a0, a1, a2, a3⟩
      · exact below_put (LabelD.vals ⟨a0, a1, a2, a3⟩) (k * 4) (hb.trans (hb2.mono hb.size)) (Nat.le_refl _)
    · go_wp2
      go_ret
      obtain rfl : k = xs.length := by omega
      rw [laidG_end] at hR
      exact ⟨_, rfl, hR, hb⟩

theorem eqLabel_same (x : LabelD) (w : World) : Calls Tryz.prog 87 #[.agg x.vals.toArray, .agg x.vals.toArray] w fun e w' => e = .returned (.bool true) ∧ Below w.heap.size w w' := by
  obtain ⟨a0, a1, a2, a3⟩ := x
  show Calls Tryz.prog 87 #[.agg #[.int .i64 a0, .int .i64 a1, .int .i64 a2, .string a3], .agg #[.int .i64 a0, .int .i64 a1, .int .i64 a2, .string a3]] w fun e w' => e = .returned (.bool true) ∧ Below w.heap.size w w'
  have b2 := ((Below.refl w.heap.size w).alloc (Nat.le_refl _) (.cells #[.int .i64 a0, .int .i64 a1, .int .i64 a2, .string a3] 49)).alloc (by simp) (.cells #[.int .i64 a0, .int .i64 a1, .int .i64 a2, .string a3] 49)
  go_enter Tryz.func87, Tryz.ntmps87
  go_wp2_with (go_at_call 95; refine (eqPoint_same a1 a2 _).mono ?_; rintro e w1 ⟨rfl, hb1⟩; obtain ⟨hc1, hf1⟩ := bcell hb1)
  go_ret
  exact ⟨rfl, b2.trans (hb1.mono (by simp; omega))⟩

set_option maxHeartbeats 800000 in
set_option maxRecDepth 100000 in
theorem eqLabelS_same (v u : Value) (xs : List LabelD) (w : World) (hv : LaL w 0 v xs) (hu : LaL w 0 u xs) :
    Calls Tryz.prog 69 #[v, u] w fun e w' => e = .returned (.bool true) ∧ Below w.heap.size w w' := by
  obtain ⟨A, c1, rfl, hc1, hm1⟩ := hv.form
  obtain ⟨A2, c2, rfl, hc2, hm2⟩ := hu.form
  have hlen : xs.length ≤ 9223372036854775807 := by unfold maxLen at hm1; omega
  go_enter Tryz.func69, Tryz.ntmps69
  go_wp2
  go_loopw [5] (fun i wr => ∃ k : Nat, k ≤ xs.length ∧ i = .int .i64 k ∧ Below w.heap.size w wr) (fun i _ => xs.length - (intOf i).toNat)
  case atStart => exact ⟨0, Nat.zero_le _, rfl, Below.refl _ _⟩
  case round =>
    obtain ⟨k, hk, rfl, hb⟩ := hrel
    by_cases hlt : k < xs.length
    · obtain ⟨g, x, rfl, hx, -, -, hc⟩ := FL.elem LabelD.len (hv.on hb) hlt
      obtain ⟨g', x', rfl, hx', -, -, hc'⟩ := FL.elem LabelD.len (hu.on hb) hlt
      obtain rfl : x' = x := Option.some.inj (hx'.symm.trans hx)
      obtain ⟨a0, a1, a2, a3⟩ := x'
      have f0 : wr.cell? ⟨g, k * 4, none⟩ = some (.int .i64 a0) := hc 0 _ rfl
      have f1 : wr.cell? ⟨g, k * 4 + 1, none⟩ = some (.int .i64 a1) := hc 1 _ rfl
      have f2 : wr.cell? ⟨g, k * 4 + 2, none⟩ = some (.int .i64 a2) := hc 2 _ rfl
      have f3 : wr.cell? ⟨g, k * 4 + 3, none⟩ = some (.string a3) := hc 3 _ rfl
      have e0 : wr.cell? ⟨g', k * 4, none⟩ = some (.int .i64 a0) := hc' 0 _ rfl
      have e1 : wr.cell? ⟨g', k * 4 + 1, none⟩ = some (.int .i64 a1) := hc' 1 _ rfl
      have e2 : wr.cell? ⟨g', k * 4 + 2, none⟩ = some (.int .i64 a2) := hc' 2 _ rfl
      have e3 : wr.cell? ⟨g', k * 4 + 3, none⟩ = some (.string a3) := hc' 3 _ rfl
      clear hx hx' hv hu hc hc'
      go_wp2
      go_still_tail 8, (by kernel_rfl)
      change wpList _ _ _ _ _ wr.drew
      have hb2 : Below w.heap.size w wr.drew := hb.drew
      generalize wr.drew = w2 at *
      go_wp2_with (go_at_call 87; refine (eqLabel_same ⟨a0, a1, a2, a3⟩ _).mono ?_; rintro e w1 ⟨rfl, hb1⟩)
      exact ⟨⟨k + 1, by omega, by go_num, hb2.trans (hb1.mono hb2.size)⟩, by simp [intOf]; omega⟩
    · go_wp2
      go_ret
      exact ⟨rfl, hb⟩


theorem infoInstance : (Tryz.prog.info? 54).map (fun i => (i.zero, i.size, i.bytes)) = some (some (.agg #[.int .i64 0, .int .i64 0, .int .i64 0, .int .i64 0, .int .i64 0, .int .i64 0, .int .i64 0, .int .i64 0]), 8, 64) := by kernel_rfl
set_option maxHeartbeats 800000 in
set_option maxRecDepth 100000 in
theorem toInstanceS_any (A : Option Addr) (n c : Nat) (xs : List InstD) (w : World) (hA : InA w A n xs) (hn : n ≤ 1048576) :
    Calls Tryz.prog 51 #[.slice A n c] w fun e w' => ∃ u, e = .returned u ∧ InL w' w.heap.size u xs ∧ Below w.heap.size w w' := by
  obtain rfl := hA.len
  obtain ⟨i0, hi0, hz0, hsz0, hby0⟩ := info_parts infoInstance
  go_enter Tryz.func51, Tryz.ntmps51
  go_wp2_with (at_make; refine wpList_make_full _ rfl _ _ 37 rfl w.heap.size 54 i0 _ 8 Tryz.underlying37 hi0 hz0 hsz0 _ _ _ _ xs.length rfl rfl rfl rfl (by rw [hby0]; omega) (by simp only [maxLen]; omega) (Nat.le_refl _) ?_)
  intro w1 ho1 hg1
  have hb1 : Below w.heap.size w w1 := (Below.refl _ _).grown hg1 (Nat.le_refl _) (fun k hk => by cases hk)
  have hR1 : InL w1 w.heap.size (.slice (some ⟨w.heap.size, 0, none⟩) xs.length xs.length) (laidG (⟨0, 0, 0, 0, 0, 0, 0, 0⟩ : InstD) xs 0) := by
    show w1.ownsRow _ _ _ _ _ _
    rw [laidG_zero, List.length_replicate, ← flat_zeros (enc := InstD.vals) (⟨0, 0, 0, 0, 0, 0, 0, 0⟩ : InstD) #[.int .i64 0, .int .i64 0, .int .i64 0, .int .i64 0, .int .i64 0, .int .i64 0, .int .i64 0, .int .i64 0] rfl (by decide) InstD.len]
    exact ho1
  clear ho1 hg1 hi0 hz0 hsz0 hby0
  go_wp2
  go_loopw [4] (fun iv wr => ∃ k : Nat, k ≤ xs.length ∧ iv = .int .i64 k ∧ InL wr w.heap.size (.slice (some ⟨w.heap.size, 0, none⟩) xs.length xs.length) (laidG (⟨0, 0, 0, 0, 0, 0, 0, 0⟩ : InstD) xs k) ∧ Below w.heap.size w wr) (fun iv _ => xs.length - (intOf iv).toNat)
  case atStart => exact ⟨0, Nat.zero_le _, rfl, hR1, hb1⟩
  case round =>
    obtain ⟨k, hk, rfl, hR, hb⟩ := hrel
    clear hR1 hb1
    by_cases hlt : k < xs.length
    · obtain ⟨x, hx⟩ : ∃ x, xs[k]? = some x := ⟨_, List.getElem?_eq_getElem hlt⟩
      obtain ⟨b, off, rfl, hbl, hc⟩ := (hA.on hb).elem k x hx
      have Hst := Lib.hid (laidG_step (⟨0, 0, 0, 0, 0, 0, 0, 0⟩ : InstD) hx)
      have hkl : k < (laidG (⟨0, 0, 0, 0, 0, 0, 0, 0⟩ : InstD) xs k).length := by rw [laidG_length _ _ _ hk]; exact hlt
      obtain ⟨x, hx9⟩ : ∃ y : InstD, y = x := ⟨x, rfl⟩
      subst hx9
      obtain ⟨a0, a1, a2, a3, a4, a5, a6, a7⟩ := x
      have f0 : wr.cell? ⟨b, off + k * 8, none⟩ = some (.int .i64 a0) := hc 0 _ rfl
      have f1 : wr.cell? ⟨b, off + k * 8 + 1, none⟩ = some (.int .i64 a1) := hc 1 _ rfl
      have f2 : wr.cell? ⟨b, off + k * 8 + 2, none⟩ = some (.int .i64 a2) := hc 2 _ rfl
      have f3 : wr.cell? ⟨b, off + k * 8 + 3, none⟩ = some (.int .i64 a3) := hc 3 _ rfl
      have f4 : wr.cell? ⟨b, off + k * 8 + 4, none⟩ = some (.int .i64 a4) := hc 4 _ rfl
      have f5 : wr.cell? ⟨b, off + k * 8 + 5, none⟩ = some (.int .i64 a5) := hc 5 _ rfl
      have f6 : wr.cell? ⟨b, off + k * 8 + 6, none⟩ = some (.int .i64 a6) := hc 6 _ rfl
      have f7 : wr.cell? ⟨b, off + k * 8 + 7, none⟩ = some (.int .i64 a7) := hc 7 _ rfl
      clear hx hc
      go_wp2_with (go_at_call 78; refine (toInstance_any a0 a1 a2 a3 a4 a5 a6 a7 _).mono ?_; rintro e w2 ⟨rfl, hb2⟩; obtain ⟨g9, y, hg9, -, -, -, hcy⟩ := FL.elem InstD.len (hR.on hb2) hkl; cases hg9; obtain ⟨b0, b1, b2, b3, b4, b5, b6, b7⟩ := y; have z0 : w2.cell? ⟨w.heap.size, k * 8, none⟩ = some (.int .i64 b0) := hcy 0 _ rfl; have t0 := (hR.on hb2).frozen (k * 8); have z1 : w2.cell? ⟨w.heap.size, k * 8 + 1, none⟩ = some (.int .i64 b1) := hcy 1 _ rfl; have t1 := (hR.on hb2).frozen (k * 8 + 1); have z2 : w2.cell? ⟨w.heap.size, k * 8 + 2, none⟩ = some (.int .i64 b2) := hcy 2 _ rfl; have t2 := (hR.on hb2).frozen (k * 8 + 2); have z3 : w2.cell? ⟨w.heap.size, k * 8 + 3, none⟩ = some (.int .i64 b3) := hcy 3 _ rfl; have t3 := (hR.on hb2).frozen (k * 8 + 3); have z4 : w2.cell? ⟨w.heap.size, k * 8 + 4, none⟩ = some (.int .i64 b4) := hcy 4 _ rfl; have t4 := (hR.on hb2).frozen (k * 8 + 4); have z5 : w2.cell? ⟨w.heap.size, k * 8 + 5, none⟩ = some (.int .i64 b5) := hcy 5 _ rfl; have t5 := (hR.on hb2).frozen (k * 8 + 5); have z6 : w2.cell? ⟨w.heap.size, k * 8 + 6, none⟩ = some (.int .i64 b6) := hcy 6 _ rfl; have t6 := (hR.on hb2).frozen (k * 8 + 6); have z7 : w2.cell? ⟨w.heap.size, k * 8 + 7, none⟩ = some (.int .i64 b7) := hcy 7 _ rfl; have t7 := (hR.on hb2).frozen (k * 8 + 7); clear hcy)
      refine ⟨⟨k + 1, by omega, by go_num, ?_, ?_⟩, by simp [intOf]; omega⟩
      · rw [← Hst.out]
        exact FL.put InstD.len (hR.on hb2) hkl ⟨a0, a1, a2, a3, a4, a5, a6, a7⟩
      · exact below_put (InstD.vals ⟨a0, a1, a2, a3, a4, a5, a6, a7⟩) (k * 8) (hb.trans (hb2.mono hb.size)) (Nat.le_refl _)
    · go_wp2
      go_ret
      obtain rfl : k = xs.length := by omega
      rw [laidG_end] at hR
      exact ⟨_, rfl, hR, hb⟩

theorem eqInstance_same (x : InstD) (w : World) : Calls Tryz.prog 88 #[.agg x.vals.toArray, .agg x.vals.toArray] w fun e w' => e = .returned (.bool true) ∧ Below w.heap.size w w' := by
  obtain ⟨a0, a1, a2, a3, a4, a5, a6, a7⟩ := x
  show Calls Tryz.prog 88 #[.agg #[.int .i64 a0, .int .i64 a1, .int .i64 a2, .int .i64 a3, .int .i64 a4, .int .i64 a5, .int .i64 a6, .int .i64 a7], .agg #[.int .i64 a0, .int .i64 a1, .int .i64 a2, .int .i64 a3, .int .i64 a4, .int .i64 a5, .int .i64 a6, .int .i64 a7]] w fun e w' => e = .returned (.bool true) ∧ Below w.heap.size w w'
  have b2 := ((Below.refl w.heap.size w).alloc (Nat.le_refl _) (.cells #[.int .i64 a0, .int .i64 a1, .int .i64 a2, .int .i64 a3, .int .i64 a4, .int .i64 a5, .int .i64 a6, .int .i64 a7] 54)).alloc (by simp) (.cells #[.int .i64 a0, .int .i64 a1, .int .i64 a2, .int .i64 a3, .int .i64 a4, .int .i64 a5, .int .i64 a6, .int .i64 a7] 54)
  go_enter Tryz.func88, Tryz.ntmps88
  go_wp2_with (go_at_call 96; refine (eqTrans_same a1 a2 a3 _).mono ?_; rintro e w1 ⟨rfl, hb1⟩; obtain ⟨hc1, hf1⟩ := bcell hb1)
  go_ret
  exact ⟨rfl, b2.trans (hb1.mono (by simp; omega))⟩

set_option maxHeartbeats 800000 in
set_option maxRecDepth 100000 in
theorem eqInstanceS_same (v u : Value) (xs : List InstD) (w : World) (hv : InL w 0 v xs) (hu : InL w 0 u xs) :
    Calls Tryz.prog 70 #[v, u] w fun e w' => e = .returned (.bool true) ∧ Below w.heap.size w w' := by
  obtain ⟨A, c1, rfl, hc1, hm1⟩ := hv.form
  obtain ⟨A2, c2, rfl, hc2, hm2⟩ := hu.form
  have hlen : xs.length ≤ 9223372036854775807 := by unfold maxLen at hm1; omega
  go_enter Tryz.func70, Tryz.ntmps70
  go_wp2
  go_loopw [5] (fun i wr => ∃ k : Nat, k ≤ xs.length ∧ i = .int .i64 k ∧ Below w.heap.size w wr) (fun i _ => xs.length - (intOf i).toNat)
  case atStart => exact ⟨0, Nat.zero_le _, rfl, Below.refl _ _⟩
  case round =>
    obtain ⟨k, hk, rfl, hb⟩ := hrel
    by_cases hlt : k < xs.length
    · obtain ⟨g, x, rfl, hx, -, -, hc⟩ := FL.elem InstD.len (hv.on hb) hlt
      obtain ⟨g', x', rfl, hx', -, -, hc'⟩ := FL.elem InstD.len (hu.on hb) hlt
      obtain rfl : x' = x := Option.some.inj (hx'.symm.trans hx)
      obtain ⟨a0, a1, a2, a3, a4, a5, a6, a7⟩ := x'
      have f0 : wr.cell? ⟨g, k * 8, none⟩ = some (.int .i64 a0) := hc 0 _ rfl
      have f1 : wr.cell? ⟨g, k * 8 + 1, none⟩ = some (.int .i64 a1) := hc 1 _ rfl
      have f2 : wr.cell? ⟨g, k * 8 + 2, none⟩ = some (.int .i64 a2) := hc 2 _ rfl
      have f3 : wr.cell? ⟨g, k * 8 + 3, none⟩ = some (.int .i64 a3) := hc 3 _ rfl
      have f4 : wr.cell? ⟨g, k * 8 + 4, none⟩ = some (.int .i64 a4) := hc 4 _ rfl
      have f5 : wr.cell? ⟨g, k * 8 + 5, none⟩ = some (.int .i64 a5) := hc 5 _ rfl
      have f6 : wr.cell? ⟨g, k * 8 + 6, none⟩ = some (.int .i64 a6) := hc 6 _ rfl
      have f7 : wr.cell? ⟨g, k * 8 + 7, none⟩ = some (.int .i64 a7) := hc 7 _ rfl
      have e0 : wr.cell? ⟨g', k * 8, none⟩ = some (.int .i64 a0) := hc' 0 _ rfl
      have e1 : wr.cell? ⟨g', k * 8 + 1, none⟩ = some (.int .i64 a1) := hc' 1 _ rfl
      have e2 : wr.cell? ⟨g', k * 8 + 2, none⟩ = some (.int .i64 a2) := hc' 2 _ rfl
      have e3 : wr.cell? ⟨g', k * 8 + 3, none⟩ = some (.int .i64 a3) := hc' 3 _ rfl
      have e4 : wr.cell? ⟨g', k * 8 + 4, none⟩ = some (.int .i64 a4) := hc' 4 _ rfl
      have e5 : wr.cell? ⟨g', k * 8 + 5, none⟩ = some (.int .i64 a5) := hc' 5 _ rfl
      have e6 : wr.cell? ⟨g', k * 8 + 6, none⟩ = some (.int .i64 a6) := hc' 6 _ rfl
      have e7 : wr.cell? ⟨g', k * 8 + 7, none⟩ = some (.int .i64 a7) := hc' 7 _ rfl
      clear hx hx' hv hu hc hc'
      go_wp2
      go_still_tail 8, (by kernel_rfl)
      change wpList _ _ _ _ _ wr.drew
      have hb2 : Below w.heap.size w wr.drew := hb.drew
      generalize wr.drew = w2 at *
      go_wp2_with (go_at_call 88; refine (eqInstance_same ⟨a0, a1, a2, a3, a4, a5, a6, a7⟩ _).mono ?_; rintro e w1 ⟨rfl, hb1⟩)
      exact ⟨⟨k + 1, by omega, by go_num, hb2.trans (hb1.mono hb2.size)⟩, by simp [intOf]; omega⟩
    · go_wp2
      go_ret
      exact ⟨rfl, hb⟩


end Go.Proofs.YtfgpkhifbflnbaaGreatDoor
