/- The walk of the law FnWidthTurned, over drawn inputs: it answers true. No conditions. Contract: w9Place. -/
import Derived.Test.YtbljapihmkmolaaGreatMoveM
import Derived.Test.YtbljapihmkmolaaGreatDice
import Derived.Test.YtbljapihmkmolaaGreatCellD
import Derived.Test.YtbljapihmkmolaaGreatSame
import Derived.Test.YtbljapihmkmolaaGreatSpacA
import Derived.Deep.CutRange
namespace Go.Proofs.YtbljapihmkmolaaGreat
open Go.RowKit

theorem turned_facts {t : Tf} {rs qs : List Rc} (d : Int) (h : moveV t rs = some qs) : moveV t (markV rs d) = some (markV qs d) ∧ moveV t (markgV rs d) = some (markgV qs d) ∧ minV qs = minV rs ∧ minsV qs = minsV rs := by
  obtain ⟨h1, h2, e, hI⟩ := moveV_is h
  have ht := ((validT_iff t).1 h1).1
  have hq : isReg qs = true := by rw [e]; exact isReg_canon _
  refine ⟨?_, ?_, ?_, ?_⟩
  · by_cases hc : 1 ≤ d ∧ d ≤ 8
    · rw [markV_yes (by rw [chkV_of h2]; exact (inB_iff _ _ _).2 hc), markV_yes (by rw [chkV_of hq]; exact (inB_iff _ _ _).2 hc)]
      exact moveV_marks h1 (image_narrow ht hI)
    · have hb : inB 1 d 8 = false := by rw [inB_no]; exact hc
      rw [markV_no (by rw [chkV_of h2]; exact hb), markV_no (by rw [chkV_of hq]; exact hb)]
      exact moveV_nil h1
  · by_cases hc : 1 ≤ d ∧ d ≤ 8
    · rw [markgV_yes (by rw [chkV_of h2]; exact (inB_iff _ _ _).2 hc), markgV_yes (by rw [chkV_of hq]; exact (inB_iff _ _ _).2 hc)]
      exact moveV_marks h1 (image_close ht hI)
    · have hb : inB 1 d 8 = false := by rw [inB_no]; exact hc
      rw [markgV_no (by rw [chkV_of h2]; exact hb), markgV_no (by rw [chkV_of hq]; exact hb)]
      exact moveV_nil h1
  · rw [minV_yes hq, minV_yes h2]
    exact (min_same (allG_ok _) (allG_ok _) fun d => image_nil ht (image_narrow ht hI)).symm
  · rw [minsV_yes hq, minsV_yes h2]
    exact (min_same (allGaps_ok _) (allGaps_ok _) fun d => image_nil ht (image_close ht hI)).symm

set_option maxHeartbeats 1600000 in
set_option maxRecDepth 100000 in
/-- w9Place. -/
theorem place_any (g : Nat) (w : World) (hD : DiceL w g) : Calls Tryz.prog 38 #[.pointer (some ⟨g, 0, none⟩)] w fun e w' => ∃ o x y : Int, e = .returned (.agg #[.int .i64 o, .int .i64 x, .int .i64 y]) ∧ validT ⟨o, x, y⟩ = true ∧ DiceL w' g ∧ w.grownBy w' (some g) := by
  have hg := hD.lt
  have z0 := Bk.new w 67 #[.int .i64 0, .int .i64 0, .int .i64 0]
  have hD0 := hD.alloc (.cells #[.int .i64 0, .int .i64 0, .int .i64 0] 67)
  have hA0 := only_alloc (only_refl w (some g)) (.cells #[.int .i64 0, .int .i64 0, .int .i64 0] 67)
  clear hD
  go_enter Tryz.func38, Tryz.ntmps38
  go_wp2_with fail
  refine (below_any g 8 _ hD0 (by omega)).mono ?_
  rintro e w1 ⟨k1, rfl, hk1, hD1, hG1⟩
  go_wp2_with fail
  refine (below_any g 9 _ hD1 (by omega)).mono ?_
  rintro e w2 ⟨k2, rfl, hk2, hD2, hG2⟩
  have e2 := Go.IntWalk.i64_in (k2 - 4) (by omega)
  go_wp2_with fail
  refine (below_any g 9 _ hD2 (by omega)).mono ?_
  rintro e w3 ⟨k3, rfl, hk3, hD3, hG3⟩
  have e3 := Go.IntWalk.i64_in (k3 - 4) (by omega)
  have hA3 := only_trans (only_trans (only_trans hA0 hG1) hG2) hG3
  have z3 := ((z0.grown hG1 (by simp; omega)).grown hG2 (by simp; omega)).grown hG3 (by simp; omega)
  obtain ⟨c0, c1, c2⟩ := box3 z3
  have f0 := z3.frozen 0
  have f1 := z3.frozen 1
  have f2 := z3.frozen 2
  have hfin := And.intro (((hD3.other (p := ⟨w.heap.size, 0, none⟩) hg (.int .i64 k1)).other (p := ⟨w.heap.size, 1, none⟩) hg (.int .i64 (k2 - 4))).other (p := ⟨w.heap.size, 2, none⟩) hg (.int .i64 (k3 - 4))) (only_above hA3 ((((Below.refl w.heap.size w3).setCell (p := ⟨w.heap.size, 0, none⟩) (Nat.le_refl _) (.int .i64 k1)).setCell (p := ⟨w.heap.size, 1, none⟩) (Nat.le_refl _) (.int .i64 (k2 - 4))).setCell (p := ⟨w.heap.size, 2, none⟩) (Nat.le_refl _) (.int .i64 (k3 - 4))))
  clear z0 z3 hD0 hA0 hD1 hG1 hD2 hG2 hD3 hG3 hA3
  go_wp2
  refine bodyPost_ret (v := .agg #[.int .i64 k1, .int .i64 (k2 - 4), .int .i64 (k3 - 4)]) (by simp [results, Tryz.results38, go_sem, *]) rfl ?_
  exact ⟨_, _, _, rfl, (validT_iff _).2 (by dsimp only; omega), hfin.1, hfin.2⟩

end Go.Proofs.YtbljapihmkmolaaGreat
