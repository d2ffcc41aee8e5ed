/- Contract: the program's boundary. Condition: a set of cells in memory. -/
import Derived.Test.YtemeegpmdhgocaaGreatEdR
import Derived.Test.YtemeegpmdhgocaaGreatEdC
namespace Go.Proofs.YtemeegpmdhgocaaGreat
open Go.RowKit

/-- How many lines are left. -/
def linesLeft (p : Value) (w : World) : Nat := match p with
  | .pointer (some a) => match w.cell? a with
    | some (.int _ x) => (41 - x).toNat
    | _ => 0
  | _ => 0
theorem linesLeft_eq {w : World} {lb : Nat} {x : Int} (h : w.cell? ⟨lb, 0, none⟩ = some (.int .i64 x)) : linesLeft (.pointer (some ⟨lb, 0, none⟩)) w = (41 - x).toNat := by simp [linesLeft, h]
theorem BS.line {w W : World} {cb lb ob g : Nat} {G : Gr} {l : Int} {v : Value} {es : List Ed} (h : BS w W cb lb ob g G l v es) (y : Int) (hlb : w.heap.size ≤ lb) : BS w (W.setCell ⟨lb, 0, none⟩ (.int .i64 y)) cb lb ob g G y v es := by
  have hgw := h.hg
  refine ⟨h.cbx.other (p := ⟨lb, 0, none⟩) (bk_two h.cbx h.lbx (by decide)) _, ?_, h.obx.other (p := ⟨lb, 0, none⟩) (bk_two h.obx h.lbx (by decide)) _, own_other h.row (fun e => bk_not h.row h.lbx (by decide) e.symm) _, h.gb.other (p := ⟨lb, 0, none⟩) (by dsimp only; omega) _, h.bel.setCell (p := ⟨lb, 0, none⟩) hlb _, hgw, h.hob⟩
  have := h.lbx.store 0 (.int .i64 y)
  simpa using this
theorem BS.fresh {w W : World} {cb lb ob g : Nat} {G : Gr} {l : Int} {v : Value} {es : List Ed} (h : BS w W cb lb ob g G l v es) (y : Int) : BS w (W.alloc (.cells #[.int .i64 y] 2)) cb W.heap.size ob g G y v es :=
  ⟨h.cbx.alloc _, Bk.new W _ _, h.obx.alloc _, World.ownsRow.alloc h.row _, h.gb.alloc _, h.bel.alloc h.bel.size _, h.hg, h.hob⟩

set_option maxHeartbeats 1600000 in
set_option maxRecDepth 100000 in
/-- boundary. -/
theorem boundary_any (g : Nat) (G : Gr) (w : World) (hG : GB w g 96 G) :
    Calls Tryz.prog 34 #[.pointer (some ⟨g, 0, none⟩)] w fun e w' => ∃ v, e = .returned v ∧ EL w' w.heap.size v (srtE (bndTo G 81)) ∧ Below w.heap.size w w' := by
  have hg := hG.lt
  have S0 : BS w ((((w.alloc (.cells #[.pointer (some ⟨g, 0, none⟩)] 65)).alloc (.cells #[] 70)).alloc (.cells #[.slice (some ⟨w.heap.size + 1, 0, none⟩) 0 0] 32)).alloc (.cells #[.int .i64 (-40)] 2)) w.heap.size (w.heap.size + 1 + 1 + 1) (w.heap.size + 1 + 1) g G (-40) (.slice (some ⟨w.heap.size + 1, 0, none⟩) 0 0) [] := by
    have s1 : (w.alloc (.cells #[.pointer (some ⟨g, 0, none⟩)] 65)).heap.size = w.heap.size + 1 := by simp
    have s2 : ((w.alloc (.cells #[.pointer (some ⟨g, 0, none⟩)] 65)).alloc (.cells #[] 70)).heap.size = w.heap.size + 1 + 1 := by simp
    have s3 : (((w.alloc (.cells #[.pointer (some ⟨g, 0, none⟩)] 65)).alloc (.cells #[] 70)).alloc (.cells #[.slice (some ⟨w.heap.size + 1, 0, none⟩) 0 0] 32)).heap.size = w.heap.size + 1 + 1 + 1 := by simp
    have r1 : EL ((w.alloc (.cells #[.pointer (some ⟨g, 0, none⟩)] 65)).alloc (.cells #[] 70)) w.heap.size (.slice (some ⟨w.heap.size + 1, 0, none⟩) 0 0) [] := by
      have := World.ownsRow_lit (e := 70) (size := 4) (base := w.heap.size) (w.alloc (.cells #[.pointer (some ⟨g, 0, none⟩)] 65)) #[] 0 (by simp) (by simp [maxLen]) (by simp)
      rw [s1] at this
      exact this
    refine ⟨(((Bk.new w _ _).alloc _).alloc _).alloc _, ?_, ?_, World.ownsRow.alloc (World.ownsRow.alloc r1 _) _, (((hG.alloc _).alloc _).alloc _).alloc _, ((((Below.refl _ _).alloc (Nat.le_refl _) _).alloc (by simp) _).alloc (by simp; omega) _).alloc (by simp; omega) _, hg, by omega⟩
    · rw [← s3]; exact Bk.new _ _ _
    · have := (Bk.new ((w.alloc (.cells #[.pointer (some ⟨g, 0, none⟩)] 65)).alloc (.cells #[] 70)) 32 #[.slice (some ⟨w.heap.size + 1, 0, none⟩) 0 0]).alloc (.cells #[.int .i64 (-40)] 2)
      rw [s2] at this
      exact this
  clear hG
  go_enter Tryz.func34, Tryz.ntmps34
  go_wp2
  go_loopw [4] (fun pv wr => ∃ (n lb : Nat) (v : Value), n ≤ 81 ∧ pv = .pointer (some ⟨lb, 0, none⟩) ∧ w.heap.size ≤ lb ∧ BS w wr w.heap.size lb (w.heap.size + 1 + 1) g G ((n : Int) - 40) v (bndTo G n)) (fun pv wr => linesLeft pv wr)
  case atStart => exact ⟨0, _, _, by omega, rfl, by omega, S0⟩
  case round =>
    obtain ⟨n, lb, v, hn, rfl, hlb, S⟩ := hrel
    clear S0
    have hlen := bndTo_len G n
    have d0 : wr.cell? ⟨lb, 0, none⟩ = some (.int .i64 ((n : Int) - 40)) := S.lbx.cell 0
    by_cases hn8 : n < 81
    · have h1 : (n : Int) - 40 ≤ 40 := by omega
      have en := Go.IntWalk.i64_in ((n : Int) - 40 + 1) (by omega)
      have hl2 : (lineL G false ((n : Int) - 40)).length ≤ 80 := lineE_len G false _ 80 (-40)
      go_wp2_with fail
      refine (runsH_any w _ w.heap.size lb (w.heap.size + 1 + 1) g G ((n : Int) - 40) v (bndTo G n) S (by omega) (by omega)).mono ?_
      rintro e w1 ⟨rfl, v1, S1⟩
      have hm0 := linesLeft_eq (x := (n : Int) - 40) d0
      clear S d0
      go_wp2_with fail
      refine (runsV_any w _ w.heap.size lb (w.heap.size + 1 + 1) g G ((n : Int) - 40) v1 _ S1 (by omega) (by rw [List.length_append]; omega)).mono ?_
      rintro e w2 ⟨rfl, v2, S2⟩
      have d2 : w2.cell? ⟨lb, 0, none⟩ = some (.int .i64 ((n : Int) - 40)) := S2.lbx.cell 0
      have S3 := S2.fresh ((n : Int) - 40 + 1)
      have hsz := S2.bel.size
      rw [← bndTo_succ] at S3
      rw [show (n : Int) - 40 + 1 = ((n + 1 : Nat) : Int) - 40 by omega] at en S3
      have hm := linesLeft_eq (x := ((n + 1 : Nat) : Int) - 40) (S3.lbx.cell 0)
      clear S1 S2
      have en2 : (n : Int) - 40 + 1 = ((n + 1 : Nat) : Int) - 40 := by omega
      go_wp2
      refine ⟨⟨n + 1, w2.heap.size, v2, by omega, rfl, hsz, ?_⟩, ?_⟩
      · rw [show (n : Int) + 1 - 40 = ((n + 1 : Nat) : Int) - 40 by omega]
        exact S3
      · rw [show (n : Int) + 1 - 40 = ((n + 1 : Nat) : Int) - 40 by omega, hm, hm0]
        omega
    · obtain rfl : n = 81 := by omega
      obtain ⟨A, c, rfl, -, -, -⟩ := S.row.form
      have d1 : wr.cell? ⟨w.heap.size + 1 + 1, 0, none⟩ = some (.slice A (bndTo G 81).length c) := S.obx.cell 0
      have h1 : ¬ (((81 : Nat) : Int) - 40 ≤ 40) := by omega
      have HS := Lib.hid S
      have Hlen := Lib.hid hlen
      clear S hlen
      go_wp2_with fail
      refine (sortE_any _ _ _ w.heap.size HS.out.row (by have := Hlen.out; omega)).mono ?_
      rintro e w2 ⟨rfl, hR, hgr⟩
      have d3 : w2.cell? ⟨w.heap.size + 1 + 1, 0, none⟩ = some (.slice A (bndTo G 81).length c) := (HS.out.obx.grown hgr (bk_not HS.out.row HS.out.obx (by decide))).cell 0
      have hb := HS.out.bel.grown hgr HS.out.bel.size (fun q hq => (World.ownsRow.lt HS.out.row q hq).1)
      go_wp2
      go_ret
      exact ⟨_, rfl, hR, hb⟩

end Go.Proofs.YtemeegpmdhgocaaGreat
