/- Contracts: one violation: szViolation, toViolation, eqViolation. Condition: a well-formed argument. -/
import Derived.Test.YtbljapihmkmolaaGreatTo
import Derived.Test.YtbljapihmkmolaaGreatCmp
namespace Go.Proofs.YtbljapihmkmolaaGreat
open Go.RowKit

set_option maxHeartbeats 800000 in
/-- eqViolation, of equal ones. -/
theorem eqVio_same (r : Int) (v u : Value) (rs : List Rc) (w : World) (hv : RL w 0 v rs) (hu : RL w 0 u rs) :
    Calls Tryz.prog 72 #[.agg #[.int .i64 r, v], .agg #[.int .i64 r, u]] w fun e w' => e = .returned (.bool true) ∧ Below w.heap.size w w' := by
  go_enter Tryz.func72, Tryz.ntmps72
  go_wp2_with fail
  refine (eqRectS_same v u rs _ (RL.alloc (RL.alloc hv _) _) (RL.alloc (RL.alloc hu _) _)).mono ?_
  rintro e w1 ⟨rfl, hb⟩
  go_wp2
  go_ret
  have hb0 := ((Below.refl w.heap.size w).alloc (Nat.le_refl _) (.cells #[.int .i64 r, v] 102)).alloc (by simp) (.cells #[.int .i64 r, u] 102)
  exact ⟨rfl, hb0.trans (hb.mono hb0.size)⟩

end Go.Proofs.YtbljapihmkmolaaGreat
