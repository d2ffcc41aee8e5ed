/- Contracts: CoveredCells of the reference and of the program. No conditions. -/
import Derived.Test.YtcdfbfnnlfgkfaaCov2
import Derived.Test.YtcdfbfnnlfgkfaaWidth1
namespace Go.Proofs.Ytcdfbfnnlfgkfaa
open Go.RowKit

/-- The covered cells of a box. -/
def covV (rs : List Rc) (b : Rc) : Int := if isReg rs = true ∧ okRc b = true then coverG (cellsG rs) b else -1
theorem covV_yes {rs : List Rc} {b : Rc} (h : isReg rs = true) (hb : okRc b = true) : covV rs b = coverG (cellsG rs) b := if_pos ⟨h, hb⟩
theorem covV_no {rs : List Rc} {b : Rc} (h : isReg rs = false) : covV rs b = -1 := if_neg (by rw [h]; simp)
theorem covV_bad {rs : List Rc} {b : Rc} (h : okRc b = false) : covV rs b = -1 := if_neg (by rw [h]; simp)
theorem len_reg {rs : List Rc} (h : isReg rs = true) : rs.length ≤ 100000 := Nat.le_trans ((isReg_iff rs).1 h).1 (by omega)

set_option maxHeartbeats 400000 in
set_option maxRecDepth 100000 in
theorem cov_impl (v : Value) (rs : List Rc) (b : Rc) (w : World) (hv : RL w 0 v rs) : Calls Try.prog 24 #[v, b.val] w fun e w' => e = .returned (.int .i64 (covV rs b)) ∧ Below w.heap.size w w' := by
  have hvA := hv.alloc (.cells #[.int .i64 b.x0, .int .i64 b.y0, .int .i64 b.x1, .int .i64 b.y1] 33)
  have z0 := Bk.new w 33 #[.int .i64 b.x0, .int .i64 b.y0, .int .i64 b.x1, .int .i64 b.y1]
  have b0 : Below w.heap.size w (w.alloc (.cells #[.int .i64 b.x0, .int .i64 b.y0, .int .i64 b.x1, .int .i64 b.y1] 33)) := (Below.refl _ _).alloc (Nat.le_refl _) _
  by_cases h : isReg rs = true
  · by_cases hb : okRc b = true
    · rw [covV_yes h hb, cover_reg h hb]
      have hl := len_reg h
      unfold Rc.val
      go_enter Try.func24, Try.ntmps24
      go_wp2_with (first | (go_at_call 52; refine (isRegion_any v rs _ hvA).mono ?_; rintro e w1 ⟨rfl, hb1⟩; have hz1 := z0.on hb1; obtain ⟨e0, e1, e2, e3⟩ := box4 hz1; have t1 := b0.trans (hb1.mono b0.size))
                         | (go_at_call 53; refine (valid_impl b _).mono ?_; rintro e w2 ⟨rfl, hb2⟩; obtain ⟨d0, d1, d2, d3⟩ := box4 (hz1.on hb2); have t2 := t1.trans (hb2.mono t1.size); have hv2 := (hvA.on hb1).on hb2)
                         | (go_at_call 54; refine (coveredCells_any v rs b _ hv2 hl).mono ?_; rintro e w3 ⟨rfl, hb3⟩))
      go_ret
      exact ⟨rfl, t2.trans (hb3.mono t2.size)⟩
    · have hb' : okRc b = false := by simpa using hb
      clear hb
      rw [covV_bad hb']
      unfold Rc.val
      go_enter Try.func24, Try.ntmps24
      go_wp2_with (first | (go_at_call 52; refine (isRegion_any v rs _ hvA).mono ?_; rintro e w1 ⟨rfl, hb1⟩; have hz1 := z0.on hb1; obtain ⟨e0, e1, e2, e3⟩ := box4 hz1; have t1 := b0.trans (hb1.mono b0.size))
                         | (go_at_call 53; refine (valid_impl b _).mono ?_; rintro e w2 ⟨rfl, hb2⟩))
      go_ret
      exact ⟨rfl, t1.trans (hb2.mono t1.size)⟩
  · have h' : isReg rs = false := by simpa using h
    clear h
    rw [covV_no h']
    unfold Rc.val
    go_enter Try.func24, Try.ntmps24
    go_wp2_with (go_at_call 52; refine (isRegion_any v rs _ hvA).mono ?_; rintro e w1 ⟨rfl, hb1⟩)
    go_ret
    exact ⟨rfl, b0.trans (hb1.mono b0.size)⟩

set_option maxHeartbeats 800000 in
set_option maxRecDepth 100000 in
theorem cov_spec (v : Value) (rs : List Rc) (b : Rc) (w : World) (hv : RL w 0 v rs) : Calls Try.prog 21 #[v, b.val] w fun e w' => e = .returned (.int .i64 (covV rs b)) ∧ Below w.heap.size w w' := by
  have hvA := hv.alloc (.cells #[.int .i64 b.x0, .int .i64 b.y0, .int .i64 b.x1, .int .i64 b.y1] 33)
  have z0 := Bk.new w 33 #[.int .i64 b.x0, .int .i64 b.y0, .int .i64 b.x1, .int .i64 b.y1]
  have b0 : Below w.heap.size w (w.alloc (.cells #[.int .i64 b.x0, .int .i64 b.y0, .int .i64 b.x1, .int .i64 b.y1] 33)) := (Below.refl _ _).alloc (Nat.le_refl _) _
  by_cases h : isReg rs = true
  · by_cases hb : okRc b = true
    · rw [covV_yes h hb]
      have hok := okAll_reg h
      unfold Rc.val
      go_enter Try.func21, Try.ntmps21
      go_wp2_with (first | (go_at_call 48; refine (l03Ok_any v rs _ hvA).mono ?_; rintro e w1 ⟨rfl, hb1⟩; have hz1 := z0.on hb1; obtain ⟨e0, e1, e2, e3⟩ := box4 hz1; have t1 := b0.trans (hb1.mono b0.size))
                         | (go_at_call 49; refine (valid_spec b _).mono ?_; rintro e w2 ⟨rfl, hb2⟩; have hz2 := hz1.on hb2; obtain ⟨d0, d1, d2, d3⟩ := box4 hz2; have t2 := t1.trans (hb2.mono t1.size); have hv2 := (hvA.on hb1).on hb2))
      go_region_held3 (fun w' => w'.cell? ⟨w.heap.size, 0, none⟩ = some (.int .i64 b.x0) ∧ w'.cell? ⟨w.heap.size, 1, none⟩ = some (.int .i64 b.y0) ∧ w'.cell? ⟨w.heap.size, 2, none⟩ = some (.int .i64 b.x1) ∧ w'.cell? ⟨w.heap.size, 3, none⟩ = some (.int .i64 b.y1)) (first | exact box4 hz2 | exact box4 hz3 | exact box4 hz4)
        (first | (go_at_call 51; refine (l03Bits_any v rs _ (hv2.drew) hok).mono ?_; rintro e w3 ⟨u3, rfl, hG, hb3⟩; have hz3 := (hz2.drew).on hb3) | (go_at_call 50; refine (l19Covered_any u3 (cellsG rs) b _ (GS.less hG (Nat.zero_le _)) hb).mono ?_; rintro e w4 ⟨rfl, hb4⟩; have hz4 := hz3.on hb4))
      all_goals
        go_wp2
        go_ret
        have t3 := (t2.drew).trans (hb3.mono t2.size)
        exact ⟨rfl, t3.trans (hb4.mono t3.size)⟩
    · have hb' : okRc b = false := by simpa using hb
      clear hb
      rw [covV_bad hb']
      unfold Rc.val
      go_enter Try.func21, Try.ntmps21
      go_wp2_with (first | (go_at_call 48; refine (l03Ok_any v rs _ hvA).mono ?_; rintro e w1 ⟨rfl, hb1⟩; have hz1 := z0.on hb1; obtain ⟨e0, e1, e2, e3⟩ := box4 hz1; have t1 := b0.trans (hb1.mono b0.size))
                         | (go_at_call 49; refine (valid_spec b _).mono ?_; rintro e w2 ⟨rfl, hb2⟩))
      go_ret
      exact ⟨rfl, t1.trans (hb2.mono t1.size)⟩
  · have h' : isReg rs = false := by simpa using h
    clear h
    rw [covV_no h']
    unfold Rc.val
    go_enter Try.func21, Try.ntmps21
    go_wp2_with (go_at_call 48; refine (l03Ok_any v rs _ hvA).mono ?_; rintro e w1 ⟨rfl, hb1⟩)
    go_ret
    exact ⟨rfl, b0.trans (hb1.mono b0.size)⟩

end Go.Proofs.Ytcdfbfnnlfgkfaa
