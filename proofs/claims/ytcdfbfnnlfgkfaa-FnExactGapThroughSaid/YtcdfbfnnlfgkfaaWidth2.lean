/- Contracts: MinWidth of the reference and of the program. No conditions. -/
import Derived.Test.YtcdfbfnnlfgkfaaShort1
import Derived.Test.YtcdfbfnnlfgkfaaWidth1
namespace Go.Proofs.Ytcdfbfnnlfgkfaa
open Go.RowKit

/-- The least width of a region. -/
def minV (rs : List Rc) : Int := if isReg rs = true then minA (allG (cellsG rs)) else -1
theorem minV_yes {rs : List Rc} (h : isReg rs = true) : minV rs = minA (allG (cellsG rs)) := if_pos h
theorem minV_no {rs : List Rc} (h : isReg rs = false) : minV rs = -1 := if_neg (by rw [h]; simp)

theorem minw_spec (v : Value) (rs : List Rc) (w : World) (hv : RL w 0 v rs) : Calls Try.prog 35 #[v] w fun e w' => e = .returned (.int .i64 (minV rs)) ∧ Below w.heap.size w w' := by
  by_cases h : isReg rs = true
  · rw [minV_yes h]
    have hok := okAll_reg h
    have hall := allG_ok (cellsG rs)
    go_enter Try.func35, Try.ntmps35
    go_wp2_with (first | (go_at_call 48; refine (l03Ok_any v rs _ hv).mono ?_; rintro e w1 ⟨rfl, hb1⟩; have hv1 := hv.on hb1)
                       | (go_at_call 51; refine (l03Bits_any v rs _ hv1 hok).mono ?_; rintro e w2 ⟨u2, rfl, hG, hb2⟩)
                       | (go_at_call 68; refine (l17All_any u2 (cellsG rs) _ (GS.less hG (Nat.zero_le _))).mono ?_; rintro e w3 ⟨u3, rfl, hR, hb3⟩)
                       | (go_at_call 67; refine (l17Shortest_any u3 _ _ (hR.less (Nat.zero_le _)) hall).mono ?_; rintro e w4 ⟨rfl, hb4⟩))
    go_ret
    have t2 := hb1.trans (hb2.mono hb1.size)
    have t3 := t2.trans (hb3.mono t2.size)
    exact ⟨rfl, t3.trans (hb4.mono t3.size)⟩
  · have h' : isReg rs = false := by simpa using h
    clear h
    rw [minV_no h']
    go_enter Try.func35, Try.ntmps35
    go_wp2_with (go_at_call 48; refine (l03Ok_any v rs _ hv).mono ?_; rintro e w1 ⟨rfl, hb1⟩)
    go_ret
    exact ⟨rfl, hb1⟩

theorem minw_impl (v : Value) (rs : List Rc) (w : World) (hv : RL w 0 v rs) : Calls Try.prog 36 #[v] w fun e w' => e = .returned (.int .i64 (minV rs)) ∧ Below w.heap.size w w' := by
  by_cases h : isReg rs = true
  · rw [minV_yes h]
    have hall := allG_ok (cellsG rs)
    go_enter Try.func36, Try.ntmps36
    go_wp2_with (first | (go_at_call 52; refine (isRegion_any v rs _ hv).mono ?_; rintro e w1 ⟨rfl, hb1⟩; have hv1 := hv.on hb1)
                       | (go_at_call 70; refine (allRuns_any v rs _ hv1).mono ?_; rintro e w3 ⟨u3, rfl, hR, hb3⟩)
                       | (go_at_call 69; refine (shortest_any u3 _ _ (hR.less (Nat.zero_le _)) hall).mono ?_; rintro e w4 ⟨rfl, hb4⟩))
    go_ret
    have t3 := hb1.trans (hb3.mono hb1.size)
    exact ⟨rfl, t3.trans (hb4.mono t3.size)⟩
  · have h' : isReg rs = false := by simpa using h
    clear h
    rw [minV_no h']
    go_enter Try.func36, Try.ntmps36
    go_wp2_with (go_at_call 52; refine (isRegion_any v rs _ hv).mono ?_; rintro e w1 ⟨rfl, hb1⟩)
    go_ret
    exact ⟨rfl, hb1⟩

end Go.Proofs.Ytcdfbfnnlfgkfaa
