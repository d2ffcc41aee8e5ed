/- Contract: IsConnected of the program. Condition: a list of rectangles in memory. -/
import Derived.Test.YtemeegpmdhgocaaGreatComps
namespace Go.Proofs.YtemeegpmdhgocaaGreat
open Go.RowKit

/-- Is the list a region with one component? -/
noncomputable def connV (rs : List Rc) : Bool := isReg rs && ((comps (cellsG rs)).length == 1)

set_option maxHeartbeats 800000 in
theorem conn_impl (v : Value) (rs : List Rc) (w : World) (hv : RL w 0 v rs) : Calls Tryz.prog 62 #[v] w fun e w' => e = .returned (.bool (connV rs)) ∧ Below w.heap.size w w' := by
  by_cases h : isReg rs = true
  · have Hlen := comps_length (cellsG rs)
    by_cases h1 : (comps (cellsG rs)).length = 1
    · have hz : (((comps (cellsG rs)).length : Nat) : Int) = 1 := by omega
      have e0 : connV rs = true := by unfold connV; rw [h, h1]; rfl
      rw [e0]
      clear e0
      go_enter Tryz.func62, Tryz.ntmps62
      go_wp2_with fail
      refine (isRegion_any v rs _ hv).mono ?_
      rintro e w1 ⟨rfl, hb1⟩
      rw [h]
      go_wp2_with fail
      refine (components_any v rs _ (hv.on hb1)).mono ?_
      rintro e w2 ⟨u, rfl, hU, hb2⟩
      replace hb2 := hb1.trans (hb2.mono hb1.size)
      obtain ⟨A, c, hua, hc, hm⟩ := hU.form
      rw [List.length_map] at hua hc
      subst hua
      have hm' : (comps (cellsG rs)).length ≤ 9223372036854775807 := by omega
      clear hv hb1 h hU h1
      go_wp2
      go_ret
      exact ⟨ret_bool (by simp), hb2⟩
    · have hz : ¬ (((comps (cellsG rs)).length : Nat) : Int) = 1 := by omega
      have e0 : connV rs = false := by unfold connV; rw [h]; simpa using h1
      rw [e0]
      clear e0
      go_enter Tryz.func62, Tryz.ntmps62
      go_wp2_with fail
      refine (isRegion_any v rs _ hv).mono ?_
      rintro e w1 ⟨rfl, hb1⟩
      rw [h]
      go_wp2_with fail
      refine (components_any v rs _ (hv.on hb1)).mono ?_
      rintro e w2 ⟨u, rfl, hU, hb2⟩
      replace hb2 := hb1.trans (hb2.mono hb1.size)
      obtain ⟨A, c, hua, hc, hm⟩ := hU.form
      rw [List.length_map] at hua hc
      subst hua
      have hm' : (comps (cellsG rs)).length ≤ 9223372036854775807 := by omega
      clear hv hb1 h hU h1
      go_wp2
      go_ret
      exact ⟨ret_bool (by simp [hz]), hb2⟩
  · have h' : isReg rs = false := by simpa using h
    have e0 : connV rs = false := by unfold connV; rw [h']; rfl
    rw [e0]
    go_enter Tryz.func62, Tryz.ntmps62
    go_wp2_with fail
    refine (isRegion_any v rs _ hv).mono ?_
    rintro e w1 ⟨rfl, hb1⟩
    rw [h']
    go_wp2
    go_ret
    exact ⟨rfl, hb1⟩

end Go.Proofs.YtemeegpmdhgocaaGreat
