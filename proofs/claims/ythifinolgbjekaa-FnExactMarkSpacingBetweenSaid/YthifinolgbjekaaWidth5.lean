/- Contracts: firstShorter, WidthWitness of the reference and of the program. No conditions. -/
import Derived.Test.YthifinolgbjekaaWidth4
namespace Go.Proofs.Ythifinolgbjekaa
open Go.RowKit

set_option maxHeartbeats 400000 in
set_option maxRecDepth 100000 in
/-- firstShorter. -/
theorem firstShorter_any (v : Value) (rs : List Rc) (d : Int) (w : World) (hv : RL w 0 v rs) (hok : okAll rs = true) : Calls Try.prog 71 #[v, .int .i64 d] w fun e w' => e = .returned (witV (firstA rs d)) ∧ Below w.heap.size w w' := by
  obtain ⟨A, c, rfl, hc, hm, -⟩ := hv.form
  have Hok := Lib.hid hok
  clear hok
  have hm' : rs.length ≤ 9223372036854775807 := by unfold maxLen at hm; omega
  have z0 := Bk.new w 37 #[.int .i64 0, .int .i64 0, .int .i64 0, .int .i64 0]
  have b0 : Below w.heap.size w (w.alloc (.cells #[.int .i64 0, .int .i64 0, .int .i64 0, .int .i64 0] 37)) := (Below.refl _ _).alloc (Nat.le_refl _) _
  have Hf := Lib.hid (first_start rs d)
  go_enter Try.func71, Try.ntmps71
  go_wp2
  go_loopw [10] (fun i wr => ∃ k : Nat, k ≤ rs.length ∧ i = .int .i64 k ∧ Hid (firstA (rs.drop k) d = firstA rs d) ∧ Bk wr w.heap.size 37 #[.int .i64 0, .int .i64 0, .int .i64 0, .int .i64 0] ∧ Below w.heap.size w wr) (fun i _ => rs.length - (intOf i).toNat)
  case atStart => exact ⟨0, Nat.zero_le _, rfl, Hf, z0, b0⟩
  case round =>
    obtain ⟨k, hk, rfl, hf, hz, hb⟩ := hrel
    clear z0 b0 Hf
    by_cases hlt : k < rs.length
    · obtain ⟨g, x0, y0, x1, y1, rfl, hr, hg, f0, f1, f2, f3⟩ := (hv.on hb).elem hlt
      have Hr := Lib.hid hr
      have hok := okAll_at Hok.out hr
      clear hr
      have hbA := hb.alloc hb.size (.cells #[.int .i64 x0, .int .i64 y0, .int .i64 x1, .int .i64 y1] 37)
      have hBx := Bk.new wr 37 #[.int .i64 x0, .int .i64 y0, .int .i64 x1, .int .i64 y1]
      have hzA := hz.alloc (.cells #[.int .i64 x0, .int .i64 y0, .int .i64 x1, .int .i64 y1] 37)
      by_cases hd : areaR ⟨x0, y0, x1, y1⟩ < d
      · have He := Lib.hid (hf.out.symm.trans (first_yes Hr.out hd))
        go_wp2_with (go_at_call 63; refine (runLength_any ⟨x0, y0, x1, y1⟩ hok _).mono ?_; rintro e w1 ⟨rfl, hb1⟩; obtain ⟨f0', f1', f2', f3'⟩ := box4 (hBx.on hb1); have hz1 := hzA.on hb1; obtain ⟨e0, e1, e2, e3⟩ := box4 hz1; have q0 := hz1.frozen 0; have q1 := hz1.frozen 1; have q2 := hz1.frozen 2; have q3 := hz1.frozen 3)
        obtain ⟨s0, s1, s2, s3⟩ := stored4 hz1 (.int .i64 x0) (.int .i64 y0) (.int .i64 x1) (.int .i64 y1)
        refine bodyPost_ret (v := .tuple #[.agg #[.int .i64 x0, .int .i64 y0, .int .i64 x1, .int .i64 y1], .bool true]) (by simp [results, Try.results71, go_sem, s0, s1, s2, s3]) rfl ⟨?_, ?_⟩
        · rw [He.out]; rfl
        · have t1 := hbA.trans (hb1.mono hbA.size)
          exact (((t1.setCell (Nat.le_refl _) _).setCell (Nat.le_refl _) _).setCell (Nat.le_refl _) _).setCell (Nat.le_refl _) _
      · have He := Lib.hid ((first_no Hr.out hd).symm.trans hf.out)
        go_wp2_with (go_at_call 63; refine (runLength_any ⟨x0, y0, x1, y1⟩ hok _).mono ?_; rintro e w1 ⟨rfl, hb1⟩)
        exact ⟨⟨k + 1, by omega, by go_num, He, hzA.on hb1, hbA.trans (hb1.mono hbA.size)⟩, by simp [intOf]; omega⟩
    · have He := Lib.hid (hf.out.symm.trans (first_end (by omega)))
      obtain ⟨e0, e1, e2, e3⟩ := box4 hz
      have q0 := hz.frozen 0
      have q1 := hz.frozen 1
      have q2 := hz.frozen 2
      have q3 := hz.frozen 3
      go_wp2
      obtain ⟨s0, s1, s2, s3⟩ := stored4 hz (.int .i64 0) (.int .i64 0) (.int .i64 0) (.int .i64 0)
      refine bodyPost_ret (v := .tuple #[.agg #[.int .i64 0, .int .i64 0, .int .i64 0, .int .i64 0], .bool false]) (by simp [results, Try.results71, go_sem, s0, s1, s2, s3]) rfl ⟨?_, ?_⟩
      · rw [He.out]; rfl
      · exact (((hb.setCell (Nat.le_refl _) _).setCell (Nat.le_refl _) _).setCell (Nat.le_refl _) _).setCell (Nat.le_refl _) _

/-- The first run that is too short. -/
def wwV (rs : List Rc) (x : Int) : Option Rc := if chkV rs x = true then firstA (allG (cellsG rs)) x else none
theorem wwV_yes {rs : List Rc} {x : Int} (h : chkV rs x = true) : wwV rs x = firstA (allG (cellsG rs)) x := if_pos h
theorem wwV_no {rs : List Rc} {x : Int} (h : chkV rs x = false) : wwV rs x = none := if_neg (by rw [h]; simp)

end Go.Proofs.Ythifinolgbjekaa
