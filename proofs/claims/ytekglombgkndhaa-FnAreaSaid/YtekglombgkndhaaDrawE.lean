/- Contracts: what the law FnDensity draws; the area of a region, in the reference. No conditions. -/
import Derived.Test.YtekglombgkndhaaDrawK
import Derived.Test.YtekglombgkndhaaMathA
import Derived.Test.YtekglombgkndhaaSets
namespace Go.Proofs.Ytekglombgkndhaa
open Go.RowKit

abbrev sidesA : Array Value := #[.int .i64 3, .int .i64 4, .int .i64 5, .int .i64 7, .int .i64 8, .int .i64 10, .int .i64 16, .int .i64 20, .int .i64 30, .int .i64 40, .int .i64 41]
abbrev percA : Array Value := #[.int .i64 0, .int .i64 1, .int .i64 2, .int .i64 10, .int .i64 25, .int .i64 50, .int .i64 75, .int .i64 100, .int .i64 101]
theorem sides_get (k : Nat) (h : k < 11) : ∃ x : Int, sidesA[k]? = some (.int .i64 x) ∧ 3 ≤ x ∧ x ≤ 41 := by
  have hk : k = 0 ∨ k = 1 ∨ k = 2 ∨ k = 3 ∨ k = 4 ∨ k = 5 ∨ k = 6 ∨ k = 7 ∨ k = 8 ∨ k = 9 ∨ k = 10 := by omega
  rcases hk with rfl | rfl | rfl | rfl | rfl | rfl | rfl | rfl | rfl | rfl | rfl <;> exact ⟨_, rfl, by omega, by omega⟩
theorem perc_get (k : Nat) (h : k < 9) : ∃ x : Int, percA[k]? = some (.int .i64 x) ∧ 0 ≤ x ∧ x ≤ 101 := by
  have hk : k = 0 ∨ k = 1 ∨ k = 2 ∨ k = 3 ∨ k = 4 ∨ k = 5 ∨ k = 6 ∨ k = 7 ∨ k = 8 := by omega
  rcases hk with rfl | rfl | rfl | rfl | rfl | rfl | rfl | rfl | rfl <;> exact ⟨_, rfl, by omega, by omega⟩

set_option maxHeartbeats 400000 in
set_option maxRecDepth 100000 in
/-- l03Count. -/
theorem l03Count_any (v : Value) (G : Gr) (w : World) (hG : GS w 0 v G) : Calls Try.prog 21 #[v] w fun e w' => e = .returned (.int .i64 (countG G)) ∧ w = w' := by
  obtain ⟨g, c, rfl, -, hg⟩ := hG
  have Hall := Lib.hid (flatC_all G)
  go_enter Try.func21, Try.ntmps21
  go_wp2
  go_loop [3, 4] (fun nv iv => ∃ i : Nat, i ≤ 6400 ∧ iv = .int .i64 i ∧ nv = .int .i64 (flatC G i)) (fun _ iv => 6400 - (intOf iv).toNat)
  case atStart => exact ⟨0, by omega, rfl, rfl⟩
  case round =>
    obtain ⟨i, hi, rfl, rfl⟩ := hrel
    by_cases hlt : i < 6400
    · have cx := hg.cell hlt
      have hbd := flatC_bounds G i
      by_cases hb : G i = true
      · have He := Lib.hid (flatC_yes hb)
        rw [hb] at cx
        clear hb
        go_wp2
        exact ⟨⟨i + 1, by omega, by go_num, by rw [He.out]⟩, by simp [intOf]; omega⟩
      · have hb' : G i = false := by simpa using hb
        have He := Lib.hid (flatC_no hb')
        rw [hb'] at cx
        clear hb hb'
        go_wp2
        exact ⟨⟨i + 1, by omega, by go_num, by rw [He.out]⟩, by simp [intOf]; omega⟩
    · have hie : i = 6400 := by omega
      subst hie
      go_wp2
      go_ret
      exact ⟨ret_intS Hall.out, rfl⟩
set_option maxHeartbeats 400000 in
/-- RegionArea of a region, in the reference. -/
theorem regArea_spec (v : Value) (rs : List Rc) (w : World) (hv : RL w 0 v rs) (h : isReg rs = true) : Calls Try.prog 9 #[v] w fun e w' => e = .returned (.int .i64 (countG (cellsG rs))) ∧ Below w.heap.size w w' := by
  go_enter Try.func9, Try.ntmps9
  go_wp2_with fail
  refine (l03Ok_any v rs _ hv).mono ?_
  rintro e w1 ⟨rfl, hb1⟩
  rw [h]
  go_wp2_with fail
  refine (l03Bits_any v rs _ (hv.on hb1) (okAll_of_reg h)).mono ?_
  rintro e w2 ⟨u, rfl, hG, hb2⟩
  go_wp2_with fail
  refine (l03Count_any u _ _ (hG.less (Nat.zero_le _))).mono ?_
  rintro e w3 ⟨rfl, rfl⟩
  go_wp2
  go_ret
  exact ⟨rfl, hb1.trans (hb2.mono hb1.size)⟩

end Go.Proofs.Ytekglombgkndhaa
