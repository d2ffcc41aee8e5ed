/- Contracts: HorizontalGaps, VerticalGaps, MinSpacing, SpacingWitness, MarkSpacing of the reference and of the program. No conditions. -/
import Derived.Test.YtbljapihmkmolaaGreatGaps
import Derived.Test.YtbljapihmkmolaaGreatWidthA
import Derived.Test.YtbljapihmkmolaaGreatThruA
namespace Go.Proofs.YtbljapihmkmolaaGreat
open Go.RowKit

def gapsV (vert : Bool) (rs : List Rc) : List Rc := if isReg rs = true then gapsG (cellsG rs) vert else []
theorem gapsV_yes {vert : Bool} {rs : List Rc} (h : isReg rs = true) : gapsV vert rs = gapsG (cellsG rs) vert := if_pos h
theorem gapsV_no {vert : Bool} {rs : List Rc} (h : isReg rs = false) : gapsV vert rs = [] := if_neg (by rw [h]; simp)
theorem gapsV_length (vert : Bool) (rs : List Rc) : (gapsV vert rs).length ≤ 1000000 := by
  unfold gapsV
  split
  · exact Nat.le_trans (gapsG_length _ _) (by omega)
  · simp
def minsV (rs : List Rc) : Int := if isReg rs = true then minA (allGaps (cellsG rs)) else -1
theorem minsV_yes {rs : List Rc} (h : isReg rs = true) : minsV rs = minA (allGaps (cellsG rs)) := if_pos h
theorem minsV_no {rs : List Rc} (h : isReg rs = false) : minsV rs = -1 := if_neg (by rw [h]; simp)
def swV (rs : List Rc) (x : Int) : Option Rc := if chkV rs x = true then firstA (allGaps (cellsG rs)) x else none
theorem swV_yes {rs : List Rc} {x : Int} (h : chkV rs x = true) : swV rs x = firstA (allGaps (cellsG rs)) x := if_pos h
theorem swV_no {rs : List Rc} {x : Int} (h : chkV rs x = false) : swV rs x = none := if_neg (by rw [h]; simp)
def markgV (rs : List Rc) (x : Int) : List Rc := if chkV rs x = true then canon (shortG (allGaps (cellsG rs)) x) else []
theorem markgV_yes {rs : List Rc} {x : Int} (h : chkV rs x = true) : markgV rs x = canon (shortG (allGaps (cellsG rs)) x) := if_pos h
theorem markgV_no {rs : List Rc} {x : Int} (h : chkV rs x = false) : markgV rs x = [] := if_neg (by rw [h]; simp)
theorem markgV_length (rs : List Rc) (x : Int) : (markgV rs x).length ≤ 1000000 := by
  unfold markgV
  split
  · exact Nat.le_trans (canon_few _) (by omega)
  · simp

set_option maxHeartbeats 800000 in
set_option maxRecDepth 100000 in
theorem markg_spec (v : Value) (rs : List Rc) (x : Int) (w : World) (hv : RL w 0 v rs) : Calls Tryz.prog 53 #[v, .int .i64 x] w fun e w' => ∃ u, e = .returned u ∧ RL w' w.heap.size u (markgV rs x) ∧ Below w.heap.size w w' := by
  have t0 := Below.refl w.heap.size w
  by_cases h : isReg rs = true
  · have hok := okAll_reg h
    have hall := allGaps_ok (cellsG rs)
    by_cases hx : inB 1 x 8 = true
    · rw [markgV_yes ((chkV_of h).trans hx)]
      go_enter Tryz.func53, Tryz.ntmps53
      go_wp2_with fail
      refine (l03Ok_any v rs _ hv).mono ?_
      rintro e v1 ⟨rfl, hb⟩
      replace hv := hv.on hb
      replace t0 := t0.trans (hb.mono t0.size)
      clear hb
      rw [h]
      go_wp2_with fail
      refine (l17Distance_any x _).mono ?_
      rintro e v2 ⟨rfl, rfl⟩
      rw [hx]
      go_wp2_with fail
      refine (l03Bits_any v rs _ hv hok).mono ?_
      rintro e v3 ⟨u2, rfl, hG2, hb⟩
      replace hv := hv.on hb
      replace t0 := t0.trans (hb.mono t0.size)
      clear hb
      replace hG2 := hG2.less (Nat.zero_le _)
      go_wp2_with fail
      refine (l03Bits_any v rs _ hv hok).mono ?_
      rintro e v4 ⟨u3, rfl, hG3, hb⟩
      replace hv := hv.on hb
      replace hG2 := hG2.on hb
      replace t0 := t0.trans (hb.mono t0.size)
      clear hb
      replace hG3 := hG3.less (Nat.zero_le _)
      go_wp2_with fail
      refine (l18All_any u2 u3 _ _ _ hG2 hG3).mono ?_
      rintro e v5 ⟨u4, rfl, hR, hb⟩
      replace hv := hv.on hb
      replace hG2 := hG2.on hb
      replace hG3 := hG3.on hb
      replace hR := hR.less (t0.size)
      replace t0 := t0.trans (hb.mono t0.size)
      clear hb
      rw [allBtw_self] at hR
      replace hR := hR.less (Nat.zero_le _)
      go_wp2_with fail
      refine (l17Mark_any u4 _ x _ hR hall).mono ?_
      rintro e v6 ⟨u5, rfl, hG5, hb⟩
      replace hv := hv.on hb
      replace hG2 := hG2.on hb
      replace hG3 := hG3.on hb
      replace hR := hR.on hb
      replace t0 := t0.trans (hb.mono t0.size)
      clear hb
      replace hG5 := hG5.less (Nat.zero_le _)
      go_wp2_with fail
      refine (l03Canon_any u5 _ _ hG5).mono ?_
      rintro e v9 ⟨u6, rfl, hR6, hb⟩
      go_wp2
      go_ret
      exact ⟨_, rfl, hR6.less t0.size, t0.trans (hb.mono t0.size)⟩
    · have hx' : inB 1 x 8 = false := by simpa using hx
      clear hx
      rw [markgV_no ((chkV_of h).trans hx')]
      go_enter Tryz.func53, Tryz.ntmps53
      go_wp2_with fail
      refine (l03Ok_any v rs _ hv).mono ?_
      rintro e v1 ⟨rfl, hb⟩
      replace hv := hv.on hb
      replace t0 := t0.trans (hb.mono t0.size)
      clear hb
      rw [h]
      go_wp2_with fail
      refine (l17Distance_any x _).mono ?_
      rintro e v2 ⟨rfl, rfl⟩
      rw [hx']
      go_wp2
      go_ret
      exact ⟨_, rfl, row_empty _ _ _ rfl t0.size, t0.alloc t0.size _⟩
  · have h' : isReg rs = false := by simpa using h
    clear h
    rw [markgV_no (chkV_no h')]
    go_enter Tryz.func53, Tryz.ntmps53
    go_wp2_with fail
    refine (l03Ok_any v rs _ hv).mono ?_
    rintro e v1 ⟨rfl, hb⟩
    replace hv := hv.on hb
    replace t0 := t0.trans (hb.mono t0.size)
    clear hb
    rw [h']
    go_wp2
    go_ret
    exact ⟨_, rfl, row_empty _ _ _ rfl t0.size, t0.alloc t0.size _⟩

set_option maxHeartbeats 800000 in
set_option maxRecDepth 100000 in
theorem markg_impl (v : Value) (rs : List Rc) (x : Int) (w : World) (hv : RL w 0 v rs) : Calls Tryz.prog 122 #[v, .int .i64 x] w fun e w' => ∃ u, e = .returned u ∧ RL w' w.heap.size u (markgV rs x) ∧ Below w.heap.size w w' := by
  have t0 := Below.refl w.heap.size w
  by_cases h : chkV rs x = true
  · rw [markgV_yes h]
    have hall := allGaps_ok (cellsG rs)
    go_enter Tryz.func122, Tryz.ntmps122
    go_wp2_with fail
    refine (checkable_any v rs x _ hv).mono ?_
    rintro e v1 ⟨rfl, hb⟩
    replace hv := hv.on hb
    replace t0 := t0.trans (hb.mono t0.size)
    clear hb
    rw [h]
    go_wp2_with fail
    refine (allGaps_any v rs _ hv).mono ?_
    rintro e v2 ⟨u4, rfl, hR, hb⟩
    replace hv := hv.on hb
    replace hR := hR.less (t0.size)
    replace t0 := t0.trans (hb.mono t0.size)
    clear hb
    replace hR := hR.less (Nat.zero_le _)
    go_wp2_with fail
    refine (shorter_any u4 _ x _ hR hall).mono ?_
    rintro e v3 ⟨u5, rfl, hR5, hb⟩
    replace hv := hv.on hb
    replace hR := hR.on hb
    replace hR5 := hR5.less (t0.size)
    replace t0 := t0.trans (hb.mono t0.size)
    clear hb
    go_wp2
    go_ret
    exact ⟨_, rfl, hR5, t0⟩
  · have h' : chkV rs x = false := by simpa using h
    clear h
    rw [markgV_no h']
    go_enter Tryz.func122, Tryz.ntmps122
    go_wp2_with fail
    refine (checkable_any v rs x _ hv).mono ?_
    rintro e v1 ⟨rfl, hb⟩
    replace hv := hv.on hb
    replace t0 := t0.trans (hb.mono t0.size)
    clear hb
    rw [h']
    go_wp2
    go_ret
    exact ⟨_, rfl, RL.nil _ _, t0⟩

end Go.Proofs.YtbljapihmkmolaaGreat
