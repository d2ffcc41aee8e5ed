/- Contract: the laws' sameRects. No conditions. -/
import Derived.Test.YtbljapihmkmolaaGreatMemA
import Derived.Test.YtbljapihmkmolaaGreatCanonA
namespace Go.Proofs.YtbljapihmkmolaaGreat
open Go.RowKit

set_option maxHeartbeats 400000 in
set_option maxRecDepth 100000 in
/-- l03Same. -/
theorem sameRects_any (v u : Value) (rs qs : List Rc) (w : World) (hv : RL w 0 v rs) (hu : RL w 0 u qs) : Calls Tryz.prog 34 #[v, u] w fun e w' => e = .returned (.bool (eqL rs qs)) ∧ Below w.heap.size w w' := by
  obtain ⟨A, c, rfl, hc, hm, -⟩ := hv.form
  obtain ⟨A2, c2, rfl, hc2, hm2, -⟩ := hu.form
  unfold maxLen at hm hm2
  by_cases hl : rs.length = qs.length
  · have Hl := Lib.hid hl
    rw [hl] at hc ⊢
    clear hl
    go_enter Tryz.func34, Tryz.ntmps34
    go_wp2
    go_loopw [5] (fun i wr => ∃ k : Nat, k ≤ qs.length ∧ i = .int .i64 k ∧ Hid (rs.take k = qs.take k) ∧ Below w.heap.size w wr) (fun i _ => qs.length - (intOf i).toNat)
    case atStart => exact ⟨0, Nat.zero_le _, rfl, Lib.hid rfl, Below.refl _ _⟩
    case round =>
      obtain ⟨k, hk, rfl, hok, hb⟩ := hrel
      by_cases hlt : k < qs.length
      · obtain ⟨g, x0, y0, x1, y1, hA, hr, hg, f0, f1, f2, f3⟩ := (hv.on hb).elem (k := k) (by rw [Hl.out]; exact hlt)
        obtain ⟨g', x0', y0', x1', y1', hA', hr', hg', f0', f1', f2', f3'⟩ := (hu.on hb).elem hlt
        subst hA hA'
        have Hr := Lib.hid hr
        have Hr' := Lib.hid hr'
        clear hr hr' hv hu
        go_wp2
        go_quiet (fail)
        go_wp2
        · have h0 : (!eqRc ⟨x0, y0, x1, y1⟩ ⟨x0', y0', x1', y1'⟩) = true := by assumption
          go_ret
          refine ⟨ret_bool ?_, below_drewN hb _⟩
          have hne := (eqRc_no _ _).1 (by simpa using h0)
          exact (decide_eq_false (ne_at Hr.out Hr'.out hne)).symm
        · have h0 : (!eqRc ⟨x0, y0, x1, y1⟩ ⟨x0', y0', x1', y1'⟩) = false := by assumption
          have heq := (eqRc_iff _ _).1 (by simpa using h0)
          refine ⟨⟨k + 1, by omega, by go_num, Lib.hid (take_succ_eq hok.out Hr.out Hr'.out heq), below_drewN hb _⟩, by simp [intOf]; omega⟩
      · go_wp2
        go_ret
        refine ⟨ret_bool ?_, hb⟩
        have h1 := hok.out
        have h2 := Hl.out
        rw [List.take_of_length_le (by omega), List.take_of_length_le (by omega)] at h1
        simp [eqL, h1]
  · have hne : ((rs.length : Int) != (qs.length : Int)) = true := by rw [bne_iff_ne]; omega
    go_enter Tryz.func34, Tryz.ntmps34
    go_wp2
    go_ret
    refine ⟨ret_bool ?_, Below.refl _ _⟩
    exact (decide_eq_false (fun e => hl (by rw [e]))).symm

end Go.Proofs.YtbljapihmkmolaaGreat
