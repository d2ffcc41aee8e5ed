/- Contracts: CoveredCells of the reference and of the program. No conditions. -/
import Derived.Test.YtooglkdloaaomaaCov2
import Derived.Test.YtooglkdloaaomaaWidth1
namespace Go.Proofs.Ytooglkdloaaomaa
open Go.RowKit

/-- The covered cells of a box. -/
def covV (rs : List Rc) (b : Rc) : Int := if isReg rs = true ∧ okRc b = true then coverG (cellsG rs) b else -1
theorem covV_yes {rs : List Rc} {b : Rc} (h : isReg rs = true) (hb : okRc b = true) : covV rs b = coverG (cellsG rs) b := if_pos ⟨h, hb⟩
theorem covV_no {rs : List Rc} {b : Rc} (h : isReg rs = false) : covV rs b = -1 := if_neg (by rw [h]; simp)
theorem covV_bad {rs : List Rc} {b : Rc} (h : okRc b = false) : covV rs b = -1 := if_neg (by rw [h]; simp)
theorem len_reg {rs : List Rc} (h : isReg rs = true) : rs.length ≤ 100000 := Nat.le_trans ((isReg_iff rs).1 h).1 (by omega)

set_option maxHeartbeats 400000 in
set_option maxRecDepth 100000 in
theorem cov_impl (v : Value) (rs : List Rc) (b : Rc) (w : World) (hv : RL w 0 v rs) : Calls Try.prog 20 #[v, b.val] w fun e w' => e = .returned (.int .i64 (covV rs b)) ∧ Below w.heap.size w w' := by
  have hvA := hv.alloc (.cells #[.int .i64 b.x0, .int .i64 b.y0, .int .i64 b.x1, .int .i64 b.y1] 32)
  have z0 := Bk.new w 32 #[.int .i64 b.x0, .int .i64 b.y0, .int .i64 b.x1, .int .i64 b.y1]
  have b0 : Below w.heap.size w (w.alloc (.cells #[.int .i64 b.x0, .int .i64 b.y0, .int .i64 b.x1, .int .i64 b.y1] 32)) := (Below.refl _ _).alloc (Nat.le_refl _) _
  by_cases h : isReg rs = true
  · by_cases hb : okRc b = true
    · rw [covV_yes h hb, cover_reg h hb]
      have hl := len_reg h
      unfold Rc.val
      go_enter Try.func20, Try.ntmps20
      go_wp2_with (first | (go_at_call 71; refine (isRegion_any v rs _ hvA).mono ?_; rintro e w1 ⟨rfl, hb1⟩; have hz1 := z0.on hb1; obtain ⟨e0, e1, e2, e3⟩ := box4 hz1; have t1 := b0.trans (hb1.mono b0.size))
                         | (go_at_call 79; refine (valid_impl b _).mono ?_; rintro e w2 ⟨rfl, hb2⟩; obtain ⟨d0, d1, d2, d3⟩ := box4 (hz1.on hb2); have t2 := t1.trans (hb2.mono t1.size); have hv2 := (hvA.on hb1).on hb2)
                         | (go_at_call 73; refine (coveredCells_any v rs b _ hv2 hl).mono ?_; rintro e w3 ⟨rfl, hb3⟩))
      go_ret
      exact ⟨rfl, t2.trans (hb3.mono t2.size)⟩
    · have hb' : okRc b = false := by simpa using hb
      clear hb
      rw [covV_bad hb']
      unfold Rc.val
      go_enter Try.func20, Try.ntmps20
      go_wp2_with (first | (go_at_call 71; refine (isRegion_any v rs _ hvA).mono ?_; rintro e w1 ⟨rfl, hb1⟩; have hz1 := z0.on hb1; obtain ⟨e0, e1, e2, e3⟩ := box4 hz1; have t1 := b0.trans (hb1.mono b0.size))
                         | (go_at_call 79; refine (valid_impl b _).mono ?_; rintro e w2 ⟨rfl, hb2⟩))
      go_ret
      exact ⟨rfl, t1.trans (hb2.mono t1.size)⟩
  · have h' : isReg rs = false := by simpa using h
    clear h
    rw [covV_no h']
    unfold Rc.val
    go_enter Try.func20, Try.ntmps20
    go_wp2_with (go_at_call 71; refine (isRegion_any v rs _ hvA).mono ?_; rintro e w1 ⟨rfl, hb1⟩)
    go_ret
    exact ⟨rfl, b0.trans (hb1.mono b0.size)⟩

end Go.Proofs.Ytooglkdloaaomaa
