/- Contracts: HorizontalRuns and VerticalRuns of the reference and of the program. No conditions. -/
import Derived.Test.YtooglkdloaaomaaAllRuns
import Derived.Test.YtooglkdloaaomaaOk
namespace Go.Proofs.Ytooglkdloaaomaa
open Go.RowKit

/-- The runs of a region. -/
def runsV (vert : Bool) (rs : List Rc) : List Rc := if isReg rs = true then runsG (cellsG rs) vert else []
theorem runsV_yes {vert : Bool} {rs : List Rc} (h : isReg rs = true) : runsV vert rs = runsG (cellsG rs) vert := if_pos h
theorem runsV_no {vert : Bool} {rs : List Rc} (h : isReg rs = false) : runsV vert rs = [] := if_neg (by rw [h]; simp)
theorem runsV_length (vert : Bool) (rs : List Rc) : (runsV vert rs).length ≤ 1000000 := by
  unfold runsV
  split
  · exact Nat.le_trans (runsG_length _ _) (by omega)
  · simp
theorem okAll_reg {rs : List Rc} (h : isReg rs = true) : okAll rs = true := ((isReg_iff rs).1 h).2.1

theorem hruns_impl (v : Value) (rs : List Rc) (w : World) (hv : RL w 0 v rs) : Calls Try.prog 25 #[v] w fun e w' => ∃ u, e = .returned u ∧ RL w' w.heap.size u (runsV false rs) ∧ Below w.heap.size w w' := by
  by_cases h : isReg rs = true
  · rw [runsV_yes h]
    go_enter Try.func25, Try.ntmps25
    go_wp2_with (first | (go_at_call 71; refine (isRegion_any v rs _ hv).mono ?_; rintro e w1 ⟨rfl, hb1⟩; have hv1 := hv.on hb1)
                       | (go_at_call 84; refine (cellsOf_any v rs _ hv1).mono ?_; rintro e w2 ⟨g, rfl, hg, hG, hb2⟩)
                       | (go_at_call 85; refine (runsOf_any g false (cellsG rs) _ hG).mono ?_; rintro e w3 ⟨u3, rfl, hR, hb3⟩))
    go_ret
    have hs : w.heap.size ≤ w2.heap.size := Nat.le_trans hb1.size hb2.size
    exact ⟨_, rfl, hR.less hs, (hb1.trans (hb2.mono hb1.size)).trans (hb3.mono hs)⟩
  · have h' : isReg rs = false := by simpa using h
    clear h
    rw [runsV_no h']
    go_enter Try.func25, Try.ntmps25
    go_wp2_with (go_at_call 71; refine (isRegion_any v rs _ hv).mono ?_; rintro e w1 ⟨rfl, hb1⟩)
    go_ret
    exact ⟨_, rfl, RL.nil _ _, hb1⟩

theorem vruns_impl (v : Value) (rs : List Rc) (w : World) (hv : RL w 0 v rs) : Calls Try.prog 26 #[v] w fun e w' => ∃ u, e = .returned u ∧ RL w' w.heap.size u (runsV true rs) ∧ Below w.heap.size w w' := by
  by_cases h : isReg rs = true
  · rw [runsV_yes h]
    go_enter Try.func26, Try.ntmps26
    go_wp2_with (first | (go_at_call 71; refine (isRegion_any v rs _ hv).mono ?_; rintro e w1 ⟨rfl, hb1⟩; have hv1 := hv.on hb1)
                       | (go_at_call 84; refine (cellsOf_any v rs _ hv1).mono ?_; rintro e w2 ⟨g, rfl, hg, hG, hb2⟩)
                       | (go_at_call 85; refine (runsOf_any g true (cellsG rs) _ hG).mono ?_; rintro e w3 ⟨u3, rfl, hR, hb3⟩))
    go_ret
    have hs : w.heap.size ≤ w2.heap.size := Nat.le_trans hb1.size hb2.size
    exact ⟨_, rfl, hR.less hs, (hb1.trans (hb2.mono hb1.size)).trans (hb3.mono hs)⟩
  · have h' : isReg rs = false := by simpa using h
    clear h
    rw [runsV_no h']
    go_enter Try.func26, Try.ntmps26
    go_wp2_with (go_at_call 71; refine (isRegion_any v rs _ hv).mono ?_; rintro e w1 ⟨rfl, hb1⟩)
    go_ret
    exact ⟨_, rfl, RL.nil _ _, hb1⟩

end Go.Proofs.Ytooglkdloaaomaa
