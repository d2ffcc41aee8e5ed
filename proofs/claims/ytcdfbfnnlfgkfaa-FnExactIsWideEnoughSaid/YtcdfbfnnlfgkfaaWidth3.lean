/- Contracts: MarkWidth and IsWideEnough of the reference and of the program. No conditions. -/
import Derived.Test.YtcdfbfnnlfgkfaaShort2
import Derived.Test.YtcdfbfnnlfgkfaaWidth2
namespace Go.Proofs.Ytcdfbfnnlfgkfaa
open Go.RowKit

/-- The cells of the runs that are too short. -/
def markV (rs : List Rc) (x : Int) : List Rc := if chkV rs x = true then canon (shortG (allG (cellsG rs)) x) else []
theorem markV_yes {rs : List Rc} {x : Int} (h : chkV rs x = true) : markV rs x = canon (shortG (allG (cellsG rs)) x) := if_pos h
theorem markV_no {rs : List Rc} {x : Int} (h : chkV rs x = false) : markV rs x = [] := if_neg (by rw [h]; simp)
theorem markV_length (rs : List Rc) (x : Int) : (markV rs x).length ≤ 1000000 := by
  unfold markV
  split
  · exact Nat.le_trans (canon_length _) (by omega)
  · simp

set_option maxRecDepth 100000 in
theorem markw_spec (v : Value) (rs : List Rc) (x : Int) (w : World) (hv : RL w 0 v rs) : Calls Try.prog 45 #[v, .int .i64 x] w fun e w' => ∃ u, e = .returned u ∧ RL w' w.heap.size u (markV rs x) ∧ Below w.heap.size w w' := by
  by_cases h : isReg rs = true
  · by_cases hx : inB 1 x 8 = true
    · rw [markV_yes ((chkV_of h).trans hx)]
      have hok := okAll_reg h
      have hall := allG_ok (cellsG rs)
      go_enter Try.func45, Try.ntmps45
      go_wp2_with (first | (go_at_call 48; refine (l03Ok_any v rs _ hv).mono ?_; rintro e w1 ⟨rfl, hb1⟩; have hv1 := hv.on hb1) | (go_at_call 71; refine (l17Distance_any x _).mono ?_; rintro e w0 ⟨rfl, rfl⟩)
                         | (go_at_call 51; refine (l03Bits_any v rs _ hv1 hok).mono ?_; rintro e w2 ⟨u2, rfl, hG, hb2⟩)
                         | (go_at_call 68; refine (l17All_any u2 (cellsG rs) _ (GS.less hG (Nat.zero_le _))).mono ?_; rintro e w3 ⟨u3, rfl, hR, hb3⟩)
                         | (go_at_call 77; refine (l17Mark_any u3 _ x _ (hR.less (Nat.zero_le _)) hall).mono ?_; rintro e w4 ⟨u4, rfl, hG4, hb4⟩)
                         | (go_at_call 66; refine (l03Canon_any u4 _ _ (GS.less hG4 (Nat.zero_le _))).mono ?_; rintro e w5 ⟨u5, rfl, hR5, hb5⟩))
      go_ret
      have t2 := hb1.trans (hb2.mono hb1.size)
      have t3 := t2.trans (hb3.mono t2.size)
      have t4 := t3.trans (hb4.mono t3.size)
      exact ⟨_, rfl, hR5.less t4.size, t4.trans (hb5.mono t4.size)⟩
    · have hx' : inB 1 x 8 = false := by simpa using hx
      clear hx
      rw [markV_no ((chkV_of h).trans hx')]
      go_enter Try.func45, Try.ntmps45
      go_wp2_with (first | (go_at_call 48; refine (l03Ok_any v rs _ hv).mono ?_; rintro e w1 ⟨rfl, hb1⟩; have hv1 := hv.on hb1) | (go_at_call 71; refine (l17Distance_any x _).mono ?_; rintro e w0 ⟨rfl, rfl⟩))
      go_ret
      exact ⟨_, rfl, row_empty _ _ _ rfl hb1.size, hb1.alloc hb1.size _⟩
  · have h' : isReg rs = false := by simpa using h
    clear h
    rw [markV_no (chkV_no h')]
    go_enter Try.func45, Try.ntmps45
    go_wp2_with (go_at_call 48; refine (l03Ok_any v rs _ hv).mono ?_; rintro e w1 ⟨rfl, hb1⟩; have hv1 := hv.on hb1)
    go_ret
    exact ⟨_, rfl, row_empty _ _ _ rfl hb1.size, hb1.alloc hb1.size _⟩

set_option maxRecDepth 100000 in
theorem markw_impl (v : Value) (rs : List Rc) (x : Int) (w : World) (hv : RL w 0 v rs) : Calls Try.prog 46 #[v, .int .i64 x] w fun e w' => ∃ u, e = .returned u ∧ RL w' w.heap.size u (markV rs x) ∧ Below w.heap.size w w' := by
  by_cases h : chkV rs x = true
  · rw [markV_yes h]
    have hall := allG_ok (cellsG rs)
    go_enter Try.func46, Try.ntmps46
    go_wp2_with (first | (go_at_call 73; refine (checkable_any v rs x _ hv).mono ?_; rintro e w1 ⟨rfl, hb1⟩; have hv1 := hv.on hb1)
                       | (go_at_call 70; refine (allRuns_any v rs _ hv1).mono ?_; rintro e w3 ⟨u3, rfl, hR, hb3⟩)
                       | (go_at_call 78; refine (shorter_any u3 _ x _ (hR.less (Nat.zero_le _)) hall).mono ?_; rintro e w4 ⟨u4, rfl, hR4, hb4⟩))
    go_ret
    have t3 := hb1.trans (hb3.mono hb1.size)
    exact ⟨_, rfl, hR4.less t3.size, t3.trans (hb4.mono t3.size)⟩
  · have h' : chkV rs x = false := by simpa using h
    clear h
    rw [markV_no h']
    go_enter Try.func46, Try.ntmps46
    go_wp2_with (go_at_call 73; refine (checkable_any v rs x _ hv).mono ?_; rintro e w1 ⟨rfl, hb1⟩)
    go_ret
    exact ⟨_, rfl, RL.nil _ _, hb1⟩

/-- Nothing is too short. -/
def wideV (rs : List Rc) (x : Int) : Bool := chkV rs x && (((markV rs x).length : Int) == 0)
theorem wideV_yes {rs : List Rc} {x : Int} (h : chkV rs x = true) : wideV rs x = (((markV rs x).length : Int) == 0) := by simp [wideV, h]
theorem wideV_no {rs : List Rc} {x : Int} (h : chkV rs x = false) : wideV rs x = false := by simp [wideV, h]

set_option maxRecDepth 100000 in
theorem wide_impl (v : Value) (rs : List Rc) (x : Int) (w : World) (hv : RL w 0 v rs) : Calls Try.prog 44 #[v, .int .i64 x] w fun e w' => e = .returned (.bool (wideV rs x)) ∧ Below w.heap.size w w' := by
  by_cases h : chkV rs x = true
  · have He := Lib.hid (wideV_yes h)
    go_enter Try.func44, Try.ntmps44
    go_wp2_with (first | (go_at_call 73; refine (checkable_any v rs x _ hv).mono ?_; rintro e w1 ⟨rfl, hb1⟩; have hv1 := hv.on hb1)
                       | (go_at_call 46; refine (markw_impl v rs x _ hv1).mono ?_; rintro e w2 ⟨u2, rfl, hR, hb2⟩; obtain ⟨A, c, rfl, hc, hm, -⟩ := hR.form))
    go_ret
    exact ⟨ret_bool He.out.symm, hb1.trans (hb2.mono hb1.size)⟩
  · have h' : chkV rs x = false := by simpa using h
    clear h
    have He := Lib.hid (wideV_no h')
    go_enter Try.func44, Try.ntmps44
    go_wp2_with (go_at_call 73; refine (checkable_any v rs x _ hv).mono ?_; rintro e w1 ⟨rfl, hb1⟩)
    go_ret
    exact ⟨ret_bool He.out.symm, hb1⟩

set_option maxRecDepth 100000 in
theorem wide_spec (v : Value) (rs : List Rc) (x : Int) (w : World) (hv : RL w 0 v rs) : Calls Try.prog 43 #[v, .int .i64 x] w fun e w' => e = .returned (.bool (wideV rs x)) ∧ Below w.heap.size w w' := by
  by_cases h : isReg rs = true
  · by_cases hx : inB 1 x 8 = true
    · have He := Lib.hid (wideV_yes ((chkV_of h).trans hx))
      go_enter Try.func43, Try.ntmps43
      go_wp2_with (first | (go_at_call 48; refine (l03Ok_any v rs _ hv).mono ?_; rintro e w1 ⟨rfl, hb1⟩; have hv1 := hv.on hb1) | (go_at_call 71; refine (l17Distance_any x _).mono ?_; rintro e w0 ⟨rfl, rfl⟩)
                         | (go_at_call 45; refine (markw_spec v rs x _ hv1).mono ?_; rintro e w2 ⟨u2, rfl, hR, hb2⟩; obtain ⟨A, c, rfl, hc, hm, -⟩ := hR.form))
      go_ret
      exact ⟨ret_bool He.out.symm, hb1.trans (hb2.mono hb1.size)⟩
    · have hx' : inB 1 x 8 = false := by simpa using hx
      clear hx
      have He := Lib.hid (wideV_no ((chkV_of h).trans hx'))
      go_enter Try.func43, Try.ntmps43
      go_wp2_with (first | (go_at_call 48; refine (l03Ok_any v rs _ hv).mono ?_; rintro e w1 ⟨rfl, hb1⟩; have hv1 := hv.on hb1) | (go_at_call 71; refine (l17Distance_any x _).mono ?_; rintro e w0 ⟨rfl, rfl⟩))
      go_ret
      exact ⟨ret_bool He.out.symm, hb1⟩
  · have h' : isReg rs = false := by simpa using h
    clear h
    have He := Lib.hid (wideV_no (chkV_no (x := x) h'))
    go_enter Try.func43, Try.ntmps43
    go_wp2_with (go_at_call 48; refine (l03Ok_any v rs _ hv).mono ?_; rintro e w1 ⟨rfl, hb1⟩; have hv1 := hv.on hb1)
    go_ret
    exact ⟨ret_bool He.out.symm, hb1⟩

end Go.Proofs.Ytcdfbfnnlfgkfaa
