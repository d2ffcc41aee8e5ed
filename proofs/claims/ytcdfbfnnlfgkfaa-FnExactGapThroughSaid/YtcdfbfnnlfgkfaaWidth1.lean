/- Contracts: HorizontalRuns and VerticalRuns of the reference and of the program. No conditions. -/
import Derived.Test.YtcdfbfnnlfgkfaaAllRuns
import Derived.Test.YtcdfbfnnlfgkfaaOk
namespace Go.Proofs.Ytcdfbfnnlfgkfaa
open Go.RowKit

/-- The runs of a region. -/
def runsV (vert : Bool) (rs : List Rc) : List Rc := if isReg rs = true then runsG (cellsG rs) vert else []
theorem runsV_yes {vert : Bool} {rs : List Rc} (h : isReg rs = true) : runsV vert rs = runsG (cellsG rs) vert := if_pos h
theorem runsV_no {vert : Bool} {rs : List Rc} (h : isReg rs = false) : runsV vert rs = [] := if_neg (by rw [h]; simp)
theorem runsV_length (vert : Bool) (rs : List Rc) : (runsV vert rs).length ≤ 1000000 := by
  unfold runsV
  split
  · exact Nat.le_trans (runsG_length _ _) (by omega)
  · simp
theorem okAll_reg {rs : List Rc} (h : isReg rs = true) : okAll rs = true := ((isReg_iff rs).1 h).2.1

theorem hruns_spec (v : Value) (rs : List Rc) (w : World) (hv : RL w 0 v rs) : Calls Try.prog 39 #[v] w fun e w' => ∃ u, e = .returned u ∧ RL w' w.heap.size u (runsV false rs) ∧ Below w.heap.size w w' := by
  by_cases h : isReg rs = true
  · rw [runsV_yes h]
    have hok := okAll_reg h
    go_enter Try.func39, Try.ntmps39
    go_wp2_with (first | (go_at_call 48; refine (l03Ok_any v rs _ hv).mono ?_; rintro e w1 ⟨rfl, hb1⟩; have hv1 := hv.on hb1)
                       | (go_at_call 51; refine (l03Bits_any v rs _ hv1 hok).mono ?_; rintro e w2 ⟨u2, rfl, hG, hb2⟩)
                       | (go_at_call 75; refine (l17Runs_any u2 (cellsG rs) false _ (GS.less hG (Nat.zero_le _))).mono ?_; rintro e w3 ⟨u3, rfl, hR, hb3⟩))
    go_ret
    have hs : w.heap.size ≤ w2.heap.size := Nat.le_trans hb1.size hb2.size
    exact ⟨_, rfl, hR.less hs, (hb1.trans (hb2.mono hb1.size)).trans (hb3.mono hs)⟩
  · have h' : isReg rs = false := by simpa using h
    clear h
    rw [runsV_no h']
    go_enter Try.func39, Try.ntmps39
    go_wp2_with (go_at_call 48; refine (l03Ok_any v rs _ hv).mono ?_; rintro e w1 ⟨rfl, hb1⟩)
    go_ret
    exact ⟨_, rfl, row_empty _ _ _ rfl hb1.size, hb1.alloc hb1.size _⟩

theorem hruns_impl (v : Value) (rs : List Rc) (w : World) (hv : RL w 0 v rs) : Calls Try.prog 40 #[v] w fun e w' => ∃ u, e = .returned u ∧ RL w' w.heap.size u (runsV false rs) ∧ Below w.heap.size w w' := by
  by_cases h : isReg rs = true
  · rw [runsV_yes h]
    go_enter Try.func40, Try.ntmps40
    go_wp2_with (first | (go_at_call 52; refine (isRegion_any v rs _ hv).mono ?_; rintro e w1 ⟨rfl, hb1⟩; have hv1 := hv.on hb1)
                       | (go_at_call 58; refine (cellsOf_any v rs _ hv1).mono ?_; rintro e w2 ⟨g, rfl, hg, hG, hb2⟩)
                       | (go_at_call 76; refine (runsOf_any g false (cellsG rs) _ hG).mono ?_; rintro e w3 ⟨u3, rfl, hR, hb3⟩))
    go_ret
    have hs : w.heap.size ≤ w2.heap.size := Nat.le_trans hb1.size hb2.size
    exact ⟨_, rfl, hR.less hs, (hb1.trans (hb2.mono hb1.size)).trans (hb3.mono hs)⟩
  · have h' : isReg rs = false := by simpa using h
    clear h
    rw [runsV_no h']
    go_enter Try.func40, Try.ntmps40
    go_wp2_with (go_at_call 52; refine (isRegion_any v rs _ hv).mono ?_; rintro e w1 ⟨rfl, hb1⟩)
    go_ret
    exact ⟨_, rfl, RL.nil _ _, hb1⟩

theorem vruns_spec (v : Value) (rs : List Rc) (w : World) (hv : RL w 0 v rs) : Calls Try.prog 41 #[v] w fun e w' => ∃ u, e = .returned u ∧ RL w' w.heap.size u (runsV true rs) ∧ Below w.heap.size w w' := by
  by_cases h : isReg rs = true
  · rw [runsV_yes h]
    have hok := okAll_reg h
    go_enter Try.func41, Try.ntmps41
    go_wp2_with (first | (go_at_call 48; refine (l03Ok_any v rs _ hv).mono ?_; rintro e w1 ⟨rfl, hb1⟩; have hv1 := hv.on hb1)
                       | (go_at_call 51; refine (l03Bits_any v rs _ hv1 hok).mono ?_; rintro e w2 ⟨u2, rfl, hG, hb2⟩)
                       | (go_at_call 75; refine (l17Runs_any u2 (cellsG rs) true _ (GS.less hG (Nat.zero_le _))).mono ?_; rintro e w3 ⟨u3, rfl, hR, hb3⟩))
    go_ret
    have hs : w.heap.size ≤ w2.heap.size := Nat.le_trans hb1.size hb2.size
    exact ⟨_, rfl, hR.less hs, (hb1.trans (hb2.mono hb1.size)).trans (hb3.mono hs)⟩
  · have h' : isReg rs = false := by simpa using h
    clear h
    rw [runsV_no h']
    go_enter Try.func41, Try.ntmps41
    go_wp2_with (go_at_call 48; refine (l03Ok_any v rs _ hv).mono ?_; rintro e w1 ⟨rfl, hb1⟩)
    go_ret
    exact ⟨_, rfl, row_empty _ _ _ rfl hb1.size, hb1.alloc hb1.size _⟩

theorem vruns_impl (v : Value) (rs : List Rc) (w : World) (hv : RL w 0 v rs) : Calls Try.prog 42 #[v] w fun e w' => ∃ u, e = .returned u ∧ RL w' w.heap.size u (runsV true rs) ∧ Below w.heap.size w w' := by
  by_cases h : isReg rs = true
  · rw [runsV_yes h]
    go_enter Try.func42, Try.ntmps42
    go_wp2_with (first | (go_at_call 52; refine (isRegion_any v rs _ hv).mono ?_; rintro e w1 ⟨rfl, hb1⟩; have hv1 := hv.on hb1)
                       | (go_at_call 58; refine (cellsOf_any v rs _ hv1).mono ?_; rintro e w2 ⟨g, rfl, hg, hG, hb2⟩)
                       | (go_at_call 76; refine (runsOf_any g true (cellsG rs) _ hG).mono ?_; rintro e w3 ⟨u3, rfl, hR, hb3⟩))
    go_ret
    have hs : w.heap.size ≤ w2.heap.size := Nat.le_trans hb1.size hb2.size
    exact ⟨_, rfl, hR.less hs, (hb1.trans (hb2.mono hb1.size)).trans (hb3.mono hs)⟩
  · have h' : isReg rs = false := by simpa using h
    clear h
    rw [runsV_no h']
    go_enter Try.func42, Try.ntmps42
    go_wp2_with (go_at_call 52; refine (isRegion_any v rs _ hv).mono ?_; rintro e w1 ⟨rfl, hb1⟩)
    go_ret
    exact ⟨_, rfl, RL.nil _ _, hb1⟩

end Go.Proofs.Ytcdfbfnnlfgkfaa
