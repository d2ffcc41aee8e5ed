/- Contract: the reference's RegionContains. Condition: a region. Plain law: the run through a cell is a valid rectangle. Contract: w9Long of a rectangle of no cells. -/
import Derived.Test.YtooglkdloaaomaaCellD
import Derived.Test.YtooglkdloaaomaaLawB
import Derived.Test.YtooglkdloaaomaaThruA
import Derived.Test.YtooglkdloaaomaaWidthA
namespace Go.Proofs.Ytooglkdloaaomaa
open Go.RowKit

set_option maxHeartbeats 400000 in
/-- RegionContains, in the reference. -/
theorem contains_spec (v : Value) (rs : List Rc) (x y : Int) (w : World) (hv : RL w 0 v rs) (h : isReg rs = true) : Calls Try.prog 44 #[v, .int .i64 x, .int .i64 y] w fun e w' => e = .returned (.bool (hasG (cellsG rs) x y)) ∧ Below w.heap.size w w' := by
  go_enter Try.func44, Try.ntmps44
  go_wp2_with fail
  refine (l03Ok_any v rs _ hv).mono ?_
  rintro e w1 ⟨rfl, hb1⟩
  rw [h]
  go_wp2_with fail
  refine (l03Bits_any v rs _ (hv.on hb1) (okAll_of_reg h)).mono ?_
  rintro e w2 ⟨u, rfl, hG, hb2⟩
  go_wp2_with fail
  refine (l03Has_any u _ x y _ (hG.less (Nat.zero_le _))).mono ?_
  rintro e w3 ⟨rfl, rfl⟩
  go_wp2
  go_ret
  exact ⟨rfl, hb1.trans (hb2.mono hb1.size)⟩

theorem runR_ok {G : Gr} {x y : Int} {vert : Bool} (h : hasG G x y = true) : okRc (runR G x y vert) = true := by
  obtain ⟨hc, hG⟩ := hasG_yes h
  rw [runAt_runR h]
  exact okAll_in (runsG_ok G vert) (runAt_mem (onC_ix hc) hG)

set_option maxHeartbeats 400000 in
set_option maxRecDepth 100000 in
theorem long_zero (w : World) : Calls Try.prog 21 #[(⟨0, 0, 0, 0⟩ : Rc).val] w fun e w' => e = .returned (.int .i64 (areaR ⟨0, 0, 0, 0⟩)) ∧ Below w.heap.size w w' := by
  have z0 := Bk.new w 32 #[.int .i64 0, .int .i64 0, .int .i64 0, .int .i64 0]
  obtain ⟨p0, p1, p2, p3⟩ := box4 z0
  have t0 : Below w.heap.size w (w.alloc (.cells #[.int .i64 0, .int .i64 0, .int .i64 0, .int .i64 0] 32)) := (Below.refl _ _).alloc (Nat.le_refl _) _
  clear z0
  unfold Rc.val
  go_enter Try.func21, Try.ntmps21
  go_wp2
  go_ret
  exact ⟨rfl, t0⟩
/-- A rectangle on the chip, or the one of no cells. -/
def OkZ (r : Rc) : Prop := okRc r = true ∨ r = ⟨0, 0, 0, 0⟩
theorem okZ_bounds {r : Rc} (h : OkZ r) : -40 ≤ r.x0 ∧ r.x0 ≤ 40 ∧ -40 ≤ r.y0 ∧ r.y0 ≤ 40 ∧ -40 ≤ r.x1 ∧ r.x1 ≤ 40 ∧ -40 ≤ r.y1 ∧ r.y1 ≤ 40 := by
  rcases h with h | rfl
  · have := (okRc_iff r).1 h; omega
  · decide
theorem long_okZ (r : Rc) (h : OkZ r) (w : World) : Calls Try.prog 21 #[r.val] w fun e w' => e = .returned (.int .i64 (areaR r)) ∧ Below w.heap.size w w' := by
  rcases h with h | rfl
  · exact long_any r h w
  · exact long_zero w

end Go.Proofs.Ytooglkdloaaomaa
