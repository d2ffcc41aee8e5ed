/- Contract: IsValidViolation of the program. Condition: a list of rectangles in memory. -/
import Derived.Test.YtbljapihmkmolaaGreatConn
namespace Go.Proofs.YtbljapihmkmolaaGreat
open Go.RowKit

/-- Is the pair a valid violation? -/
noncomputable def vioV (k : Int) (rs : List Rc) : Bool := inB 0 k 11 && connV rs

set_option maxHeartbeats 800000 in
theorem vio_impl (k : Int) (v : Value) (rs : List Rc) (w : World) (hv : RL w 0 v rs) : Calls Tryz.prog 79 #[.agg #[.int .i64 k, v]] w fun e w' => e = .returned (.bool (vioV k rs)) ∧ Below w.heap.size w w' := by
  have hv1 := RL.alloc hv (.cells #[.int .i64 k, v] 102)
  have hb0 := (Below.refl w.heap.size w).alloc (Nat.le_refl _) (.cells #[.int .i64 k, v] 102)
  obtain ⟨A, c, rfl, hc, hm, -⟩ := hv.form
  clear hv
  unfold vioV
  cases h : inB 0 k 11 with
  | true =>
    rw [Bool.true_and]
    go_enter Tryz.func79, Tryz.ntmps79
    go_wp2_with (go_at_call 119; refine (within_any _ _ _ _).mono ?_; rintro e w1 ⟨rfl, rfl⟩; rw [h])
    refine (conn_impl _ rs _ hv1).mono ?_
    rintro e w2 ⟨rfl, hb2⟩
    go_wp2
    go_ret
    exact ⟨rfl, hb0.trans (hb2.mono hb0.size)⟩
  | false =>
    rw [Bool.false_and]
    go_enter Tryz.func79, Tryz.ntmps79
    go_wp2_with (go_at_call 119; refine (within_any _ _ _ _).mono ?_; rintro e w1 ⟨rfl, rfl⟩; rw [h])
    go_ret
    exact ⟨rfl, hb0⟩

end Go.Proofs.YtbljapihmkmolaaGreat
