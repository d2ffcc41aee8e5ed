/- Contracts: HorizontalGaps, VerticalGaps, MinSpacing, SpacingWitness, MarkSpacing of the reference and of the program. No conditions. Contracts: MinSpacingBetween, MarkSpacingBetween of the reference and of the program. No conditions. -/
import Derived.Test.YtbljapihmkmolaaGreatGaps
import Derived.Test.YtbljapihmkmolaaGreatWidthA
import Derived.Test.YtbljapihmkmolaaGreatThruA
import Derived.Test.YtbljapihmkmolaaGreatGapsB
namespace Go.Proofs.YtbljapihmkmolaaGreat
open Go.RowKit

def gapsV (vert : Bool) (rs : List Rc) : List Rc := if isReg rs = true then gapsG (cellsG rs) vert else []
theorem gapsV_yes {vert : Bool} {rs : List Rc} (h : isReg rs = true) : gapsV vert rs = gapsG (cellsG rs) vert := if_pos h
theorem gapsV_no {vert : Bool} {rs : List Rc} (h : isReg rs = false) : gapsV vert rs = [] := if_neg (by rw [h]; simp)
theorem gapsV_length (vert : Bool) (rs : List Rc) : (gapsV vert rs).length ≤ 1000000 := by
  unfold gapsV
  split
  · exact Nat.le_trans (gapsG_length _ _) (by omega)
  · simp
def minsV (rs : List Rc) : Int := if isReg rs = true then minA (allGaps (cellsG rs)) else -1
theorem minsV_yes {rs : List Rc} (h : isReg rs = true) : minsV rs = minA (allGaps (cellsG rs)) := if_pos h
theorem minsV_no {rs : List Rc} (h : isReg rs = false) : minsV rs = -1 := if_neg (by rw [h]; simp)
def swV (rs : List Rc) (x : Int) : Option Rc := if chkV rs x = true then firstA (allGaps (cellsG rs)) x else none
theorem swV_yes {rs : List Rc} {x : Int} (h : chkV rs x = true) : swV rs x = firstA (allGaps (cellsG rs)) x := if_pos h
theorem swV_no {rs : List Rc} {x : Int} (h : chkV rs x = false) : swV rs x = none := if_neg (by rw [h]; simp)
def markgV (rs : List Rc) (x : Int) : List Rc := if chkV rs x = true then canon (shortG (allGaps (cellsG rs)) x) else []
theorem markgV_yes {rs : List Rc} {x : Int} (h : chkV rs x = true) : markgV rs x = canon (shortG (allGaps (cellsG rs)) x) := if_pos h
theorem markgV_no {rs : List Rc} {x : Int} (h : chkV rs x = false) : markgV rs x = [] := if_neg (by rw [h]; simp)
theorem markgV_length (rs : List Rc) (x : Int) : (markgV rs x).length ≤ 1000000 := by
  unfold markgV
  split
  · exact Nat.le_trans (canon_few _) (by omega)
  · simp

set_option maxHeartbeats 800000 in
set_option maxRecDepth 100000 in
theorem markg_spec (v : Value) (rs : List Rc) (x : Int) (w : World) (hv : RL w 0 v rs) : Calls Tryz.prog 53 #[v, .int .i64 x] w fun e w' => ∃ u, e = .returned u ∧ RL w' w.heap.size u (markgV rs x) ∧ Below w.heap.size w w' := by
  have t0 := Below.refl w.heap.size w
  by_cases h : isReg rs = true
  · have hok := okAll_reg h
    have hall := allGaps_ok (cellsG rs)
    by_cases hx : inB 1 x 8 = true
    · rw [markgV_yes ((chkV_of h).trans hx)]
      go_enter Tryz.func53, Tryz.ntmps53
      go_wp2_with fail
      refine (l03Ok_any v rs _ hv).mono ?_
      rintro e v1 ⟨rfl, hb⟩
      replace hv := hv.on hb
      replace t0 := t0.trans (hb.mono t0.size)
      clear hb
      rw [h]
      go_wp2_with fail
      refine (l17Distance_any x _).mono ?_
      rintro e v2 ⟨rfl, rfl⟩
      rw [hx]
      go_wp2_with fail
      refine (l03Bits_any v rs _ hv hok).mono ?_
      rintro e v3 ⟨u2, rfl, hG2, hb⟩
      replace hv := hv.on hb
      replace t0 := t0.trans (hb.mono t0.size)
      clear hb
      replace hG2 := hG2.less (Nat.zero_le _)
      go_wp2_with fail
      refine (l03Bits_any v rs _ hv hok).mono ?_
      rintro e v4 ⟨u3, rfl, hG3, hb⟩
      replace hv := hv.on hb
      replace hG2 := hG2.on hb
      replace t0 := t0.trans (hb.mono t0.size)
      clear hb
      replace hG3 := hG3.less (Nat.zero_le _)
      go_wp2_with fail
      refine (l18All_any u2 u3 _ _ _ hG2 hG3).mono ?_
      rintro e v5 ⟨u4, rfl, hR, hb⟩
      replace hv := hv.on hb
      replace hG2 := hG2.on hb
      replace hG3 := hG3.on hb
      replace hR := hR.less (t0.size)
      replace t0 := t0.trans (hb.mono t0.size)
      clear hb
      rw [allBtw_self] at hR
      replace hR := hR.less (Nat.zero_le _)
      go_wp2_with fail
      refine (l17Mark_any u4 _ x _ hR hall).mono ?_
      rintro e v6 ⟨u5, rfl, hG5, hb⟩
      replace hv := hv.on hb
      replace hG2 := hG2.on hb
      replace hG3 := hG3.on hb
      replace hR := hR.on hb
      replace t0 := t0.trans (hb.mono t0.size)
      clear hb
      replace hG5 := hG5.less (Nat.zero_le _)
      go_wp2_with fail
      refine (l03Canon_any u5 _ _ hG5).mono ?_
      rintro e v9 ⟨u6, rfl, hR6, hb⟩
      go_wp2
      go_ret
      exact ⟨_, rfl, hR6.less t0.size, t0.trans (hb.mono t0.size)⟩
    · have hx' : inB 1 x 8 = false := by simpa using hx
      clear hx
      rw [markgV_no ((chkV_of h).trans hx')]
      go_enter Tryz.func53, Tryz.ntmps53
      go_wp2_with fail
      refine (l03Ok_any v rs _ hv).mono ?_
      rintro e v1 ⟨rfl, hb⟩
      replace hv := hv.on hb
      replace t0 := t0.trans (hb.mono t0.size)
      clear hb
      rw [h]
      go_wp2_with fail
      refine (l17Distance_any x _).mono ?_
      rintro e v2 ⟨rfl, rfl⟩
      rw [hx']
      go_wp2
      go_ret
      exact ⟨_, rfl, row_empty _ _ _ rfl t0.size, t0.alloc t0.size _⟩
  · have h' : isReg rs = false := by simpa using h
    clear h
    rw [markgV_no (chkV_no h')]
    go_enter Tryz.func53, Tryz.ntmps53
    go_wp2_with fail
    refine (l03Ok_any v rs _ hv).mono ?_
    rintro e v1 ⟨rfl, hb⟩
    replace hv := hv.on hb
    replace t0 := t0.trans (hb.mono t0.size)
    clear hb
    rw [h']
    go_wp2
    go_ret
    exact ⟨_, rfl, row_empty _ _ _ rfl t0.size, t0.alloc t0.size _⟩

set_option maxHeartbeats 800000 in
set_option maxRecDepth 100000 in
theorem markg_impl (v : Value) (rs : List Rc) (x : Int) (w : World) (hv : RL w 0 v rs) : Calls Tryz.prog 122 #[v, .int .i64 x] w fun e w' => ∃ u, e = .returned u ∧ RL w' w.heap.size u (markgV rs x) ∧ Below w.heap.size w w' := by
  have t0 := Below.refl w.heap.size w
  by_cases h : chkV rs x = true
  · rw [markgV_yes h]
    have hall := allGaps_ok (cellsG rs)
    go_enter Tryz.func122, Tryz.ntmps122
    go_wp2_with fail
    refine (checkable_any v rs x _ hv).mono ?_
    rintro e v1 ⟨rfl, hb⟩
    replace hv := hv.on hb
    replace t0 := t0.trans (hb.mono t0.size)
    clear hb
    rw [h]
    go_wp2_with fail
    refine (allGaps_any v rs _ hv).mono ?_
    rintro e v2 ⟨u4, rfl, hR, hb⟩
    replace hv := hv.on hb
    replace hR := hR.less (t0.size)
    replace t0 := t0.trans (hb.mono t0.size)
    clear hb
    replace hR := hR.less (Nat.zero_le _)
    go_wp2_with fail
    refine (shorter_any u4 _ x _ hR hall).mono ?_
    rintro e v3 ⟨u5, rfl, hR5, hb⟩
    replace hv := hv.on hb
    replace hR := hR.on hb
    replace hR5 := hR5.less (t0.size)
    replace t0 := t0.trans (hb.mono t0.size)
    clear hb
    go_wp2
    go_ret
    exact ⟨_, rfl, hR5, t0⟩
  · have h' : chkV rs x = false := by simpa using h
    clear h
    rw [markgV_no h']
    go_enter Tryz.func122, Tryz.ntmps122
    go_wp2_with fail
    refine (checkable_any v rs x _ hv).mono ?_
    rintro e v1 ⟨rfl, hb⟩
    replace hv := hv.on hb
    replace t0 := t0.trans (hb.mono t0.size)
    clear hb
    rw [h']
    go_wp2
    go_ret
    exact ⟨_, rfl, RL.nil _ _, t0⟩

end Go.Proofs.YtbljapihmkmolaaGreat

namespace Go.Proofs.YtbljapihmkmolaaGreat
open Go.RowKit

theorem minStep_pos {m : Int} {r : Rc} (hr : okRc r = true) (hm : 0 ≤ m) : 1 ≤ minStep m r := by
  have h := areaR_bounds hr
  unfold minStep
  split <;> omega
theorem min_fold {rs : List Rc} : ∀ {m : Int}, okAll rs = true → 1 ≤ m → 1 ≤ rs.foldl minStep m := by
  induction rs with
  | nil => intro m _ h; exact h
  | cons r rs ih =>
    intro m hok hm
    rw [okAll, List.all_cons, Bool.and_eq_true] at hok
    exact ih hok.2 (minStep_pos hok.1 (by omega))
theorem minA_nz {rs : List Rc} (hok : okAll rs = true) (h : rs.length ≠ 0) : minA rs ≠ 0 := by
  cases rs with
  | nil => simp at h
  | cons r rs =>
    rw [okAll, List.all_cons, Bool.and_eq_true] at hok
    have := min_fold hok.2 (minStep_pos (m := 0) hok.1 (by omega))
    unfold minA
    rw [List.foldl_cons]
    omega
theorem union_canons (F G : Gr) : canon (cellsG [canon F, canon G].flatten) = canon (unionG F G) := by
  refine canon_congr fun i hi => ?_
  rw [show [canon F, canon G].flatten = canon F ++ canon G by simp, cellsG_append]
  unfold unionG
  rw [cells_canon F i hi, cells_canon G i hi]
def msbV (rs qs : List Rc) : Int := if isReg rs = true ∧ isReg qs = true then (if meetG (cellsG rs) (cellsG qs) = true then 0 else if (allBtw (cellsG rs) (cellsG qs)).length = 0 then -1 else minA (allBtw (cellsG rs) (cellsG qs))) else -1
def mkbG (rs qs : List Rc) (x : Int) : Gr := unionG (shortG (allBtw (cellsG rs) (cellsG qs)) x) (interG (cellsG rs) (cellsG qs))
def mkbV (rs qs : List Rc) (x : Int) : List Rc := if (isReg rs && isReg qs && inB 1 x 8) = true then canon (mkbG rs qs x) else []
theorem mkbV_length (rs qs : List Rc) (x : Int) : (mkbV rs qs x).length ≤ 1000000 := by
  unfold mkbV
  split
  · exact Nat.le_trans (canon_few _) (by omega)
  · simp

set_option maxHeartbeats 800000 in
set_option maxRecDepth 100000 in
theorem mkb_spec (v : Value) (rs : List Rc) (u : Value) (qs : List Rc) (x : Int) (w : World) (hv : RL w 0 v rs) (hu : RL w 0 u qs) : Calls Tryz.prog 54 #[v, u, .int .i64 x] w fun e w' => ∃ z, e = .returned z ∧ RL w' w.heap.size z (mkbV rs qs x) ∧ Below w.heap.size w w' := by
  have t0 := Below.refl w.heap.size w
  have hall := Lib.hid (allBtw_ok (cellsG rs) (cellsG qs))
  by_cases h : isReg rs = true
  · by_cases h2 : isReg qs = true
    · have hok1 := Lib.hid (okAll_reg h)
      have hok2 := Lib.hid (okAll_reg h2)
      by_cases hx : inB 1 x 8 = true
      · rw [show mkbV rs qs x = canon (mkbG rs qs x) by unfold mkbV; rw [if_pos (by rw [h, h2, hx]; rfl)]]
        go_enter Tryz.func54, Tryz.ntmps54
        go_wp2_with fail
        refine (l03Ok_any v rs _ hv).mono ?_
        rintro e v1 ⟨rfl, hb⟩
        replace hv := hv.on hb
        replace hu := hu.on hb
        replace t0 := t0.trans (hb.mono t0.size)
        clear hb
        rw [h]
        go_wp2_with fail
        refine (l03Ok_any u qs _ hu).mono ?_
        rintro e v2 ⟨rfl, hb⟩
        replace hv := hv.on hb
        replace hu := hu.on hb
        replace t0 := t0.trans (hb.mono t0.size)
        clear hb
        rw [h2]
        go_wp2_with fail
        refine (l17Distance_any x _).mono ?_
        rintro e v3 ⟨rfl, rfl⟩
        rw [hx]
        go_wp2_with fail
        refine (l03Bits_any v rs _ hv hok1.out).mono ?_
        rintro e v4 ⟨u2, rfl, hG2, hb⟩
        replace hv := hv.on hb
        replace hu := hu.on hb
        replace t0 := t0.trans (hb.mono t0.size)
        clear hb
        replace hG2 := hG2.less (Nat.zero_le _)
        go_wp2_with fail
        refine (l03Bits_any u qs _ hu hok2.out).mono ?_
        rintro e v5 ⟨u3, rfl, hG3, hb⟩
        replace hv := hv.on hb
        replace hu := hu.on hb
        replace hG2 := hG2.on hb
        replace t0 := t0.trans (hb.mono t0.size)
        clear hb
        replace hG3 := hG3.less (Nat.zero_le _)
        go_wp2_with fail
        refine (l18All_any u2 u3 _ _ _ hG2 hG3).mono ?_
        rintro e v6 ⟨u4, rfl, hR, hb⟩
        replace hv := hv.on hb
        replace hu := hu.on hb
        replace hG2 := hG2.on hb
        replace hG3 := hG3.on hb
        replace hR := hR.less (t0.size)
        replace t0 := t0.trans (hb.mono t0.size)
        clear hb
        replace hR := hR.less (Nat.zero_le _)
        obtain ⟨g2, c2, rfl, -, hg2⟩ := hG2
        obtain ⟨g3, c3, rfl, -, hg3⟩ := hG3
        have l2 := hg2.lt
        have l3 := hg3.lt
        go_wp2_with fail
        refine (l17Mark_any u4 (allBtw (cellsG rs) (cellsG qs)) x _ hR hall.out).mono ?_
        rintro e w5 ⟨u5, rfl, ⟨g5, c5, rfl, hB5, hg5⟩, hb⟩
        have n2 : g2 ≠ g5 := by omega
        have n3 : g3 ≠ g5 := by omega
        have n0 : w.heap.size ≤ g5 := Nat.le_trans t0.size hB5
        replace hg2 := hg2.on hb
        replace hg3 := hg3.on hb
        replace t0 := t0.trans (hb.mono t0.size)
        clear hb hv hu hR l2 l3 hB5
        go_wp2
        go_loopw [10] (fun iv wr => ∃ i : Nat, i ≤ 6400 ∧ iv = .int .i64 i ∧ GB wr g5 4 (headG (mkbG rs qs x) (shortG (allBtw (cellsG rs) (cellsG qs)) x) i) ∧ GB wr g2 4 (cellsG rs) ∧ GB wr g3 4 (cellsG qs) ∧ Below w.heap.size w wr) (fun iv _ => 6400 - (intOf iv).toNat)
        case atStart => exact ⟨0, by omega, rfl, by rw [headG_zero]; exact hg5, hg2, hg3, t0⟩
        case round =>
          obtain ⟨i, hi, rfl, hO, hG1, hH1, hb⟩ := hrel
          clear hg5 hg2 hg3 t0
          by_cases hlt : i < 6400
          · have hi0 : (0 : Int) ≤ (i : Int) ∧ (i : Int) < 6400 := by omega
            have cx := hG1.cell hlt
            have cy := hH1.cell hlt
            have co := hO.cell hlt
            rw [headG_at] at co
            have hz := hO.frozen i
            have hst := hO.store hlt (mkbG rs qs x i)
            rw [headG_step] at hst
            have Hst := Lib.hid hst
            clear hst
            by_cases hs : shortG (allBtw (cellsG rs) (cellsG qs)) x i = true
            · skip
              have hd : mkbG rs qs x i = true := by unfold mkbG unionG interG; rw [hs]; simp
              rw [hd] at Hst
              rw [hs] at co
              clear hd hs
              go_wp2
              exact ⟨⟨i + 1, by omega, by go_num, Hst.out, hG1.other (p := ⟨g5, _, none⟩) n2 _, hH1.other (p := ⟨g5, _, none⟩) n3 _, hb.setCell (p := ⟨g5, _, none⟩) n0 _⟩, by simp [intOf]; omega⟩
            · have hs' : shortG (allBtw (cellsG rs) (cellsG qs)) x i = false := by simpa using hs
              clear hs
              by_cases hg : cellsG rs i = true
              · skip
                have hd : mkbG rs qs x i = cellsG qs i := by unfold mkbG unionG interG; rw [hs', hg]; simp
                rw [hd] at Hst
                rw [hs'] at co
                rw [hg] at cx
                clear hd hg hs'
                go_wp2
                exact ⟨⟨i + 1, by omega, by go_num, Hst.out, hG1.other (p := ⟨g5, _, none⟩) n2 _, hH1.other (p := ⟨g5, _, none⟩) n3 _, hb.setCell (p := ⟨g5, _, none⟩) n0 _⟩, by simp [intOf]; omega⟩
              · have hg' : cellsG rs i = false := by simpa using hg
                clear hg
                have hd : mkbG rs qs x i = false := by unfold mkbG unionG interG; rw [hs', hg']; simp
                rw [hd] at Hst
                rw [hs'] at co
                rw [hg'] at cx
                clear hd hg' hs'
                go_wp2
                exact ⟨⟨i + 1, by omega, by go_num, Hst.out, hG1.other (p := ⟨g5, _, none⟩) n2 _, hH1.other (p := ⟨g5, _, none⟩) n3 _, hb.setCell (p := ⟨g5, _, none⟩) n0 _⟩, by simp [intOf]; omega⟩
          · have hie : i = 6400 := by omega
            rw [hie] at hO
            have hS : GS _ 0 (.slice (some ⟨g5, 0, none⟩) 6400 c5) (mkbG rs qs x) := ⟨g5, c5, rfl, Nat.zero_le _, hO.same (headG_all _ _)⟩
            go_wp2_with fail
            refine (l03Canon_any _ _ _ hS).mono ?_
            rintro e v9 ⟨u6, rfl, hR6, hb9⟩
            go_wp2
            go_ret
            exact ⟨_, rfl, hR6.less hb.size, hb.trans (hb9.mono hb.size)⟩
      · have hx' : inB 1 x 8 = false := by simpa using hx
        clear hx
        rw [show mkbV rs qs x = [] by unfold mkbV; rw [if_neg (by rw [hx']; simp)]]
        go_enter Tryz.func54, Tryz.ntmps54
        go_wp2_with fail
        refine (l03Ok_any v rs _ hv).mono ?_
        rintro e v1 ⟨rfl, hb⟩
        replace hv := hv.on hb
        replace hu := hu.on hb
        replace t0 := t0.trans (hb.mono t0.size)
        clear hb
        rw [h]
        go_wp2_with fail
        refine (l03Ok_any u qs _ hu).mono ?_
        rintro e v2 ⟨rfl, hb⟩
        replace hv := hv.on hb
        replace hu := hu.on hb
        replace t0 := t0.trans (hb.mono t0.size)
        clear hb
        rw [h2]
        go_wp2_with fail
        refine (l17Distance_any x _).mono ?_
        rintro e v3 ⟨rfl, rfl⟩
        rw [hx']
        go_wp2
        go_ret
        exact ⟨_, rfl, row_empty _ _ _ rfl t0.size, t0.alloc t0.size _⟩
    · have h2' : isReg qs = false := by simpa using h2
      clear h2
      rw [show mkbV rs qs x = [] by unfold mkbV; rw [if_neg (by rw [h2']; simp)]]
      go_enter Tryz.func54, Tryz.ntmps54
      go_wp2_with fail
      refine (l03Ok_any v rs _ hv).mono ?_
      rintro e v1 ⟨rfl, hb⟩
      replace hv := hv.on hb
      replace hu := hu.on hb
      replace t0 := t0.trans (hb.mono t0.size)
      clear hb
      rw [h]
      go_wp2_with fail
      refine (l03Ok_any u qs _ hu).mono ?_
      rintro e v2 ⟨rfl, hb⟩
      replace hv := hv.on hb
      replace hu := hu.on hb
      replace t0 := t0.trans (hb.mono t0.size)
      clear hb
      rw [h2']
      go_wp2
      go_ret
      exact ⟨_, rfl, row_empty _ _ _ rfl t0.size, t0.alloc t0.size _⟩
  · have h' : isReg rs = false := by simpa using h
    clear h
    rw [show mkbV rs qs x = [] by unfold mkbV; rw [if_neg (by rw [h']; simp)]]
    go_enter Tryz.func54, Tryz.ntmps54
    go_wp2_with fail
    refine (l03Ok_any v rs _ hv).mono ?_
    rintro e v1 ⟨rfl, hb⟩
    replace hv := hv.on hb
    replace hu := hu.on hb
    replace t0 := t0.trans (hb.mono t0.size)
    clear hb
    rw [h']
    go_wp2
    go_ret
    exact ⟨_, rfl, row_empty _ _ _ rfl t0.size, t0.alloc t0.size _⟩

set_option maxHeartbeats 800000 in
set_option maxRecDepth 100000 in
theorem mkb_impl (v : Value) (rs : List Rc) (u : Value) (qs : List Rc) (x : Int) (w : World) (hv : RL w 0 v rs) (hu : RL w 0 u qs) : Calls Tryz.prog 123 #[v, u, .int .i64 x] w fun e w' => ∃ z, e = .returned z ∧ RL w' w.heap.size z (mkbV rs qs x) ∧ Below w.heap.size w w' := by
  have t0 := Below.refl w.heap.size w
  have hall := Lib.hid (allBtw_ok (cellsG rs) (cellsG qs))
  by_cases hc : chkV rs x = true
  · obtain ⟨h, hx⟩ := chkV_yes hc
    by_cases h2 : isReg qs = true
    · rw [show mkbV rs qs x = canon (mkbG rs qs x) by unfold mkbV; rw [if_pos (by rw [h, h2, hx]; rfl)]]
      go_enter Tryz.func123, Tryz.ntmps123
      go_wp2_with fail
      refine (checkable_any v rs x _ hv).mono ?_
      rintro e v1 ⟨rfl, hb⟩
      replace hv := hv.on hb
      replace hu := hu.on hb
      replace t0 := t0.trans (hb.mono t0.size)
      clear hb
      rw [hc]
      go_wp2_with fail
      refine (isRegion_any u qs _ hu).mono ?_
      rintro e v2 ⟨rfl, hb⟩
      replace hv := hv.on hb
      replace hu := hu.on hb
      replace t0 := t0.trans (hb.mono t0.size)
      clear hb
      rw [h2]
      go_wp2_with fail
      refine (gapsBetween_any v u rs qs _ hv hu).mono ?_
      rintro e v3 ⟨u4, rfl, hR, hb⟩
      replace hv := hv.on hb
      replace hu := hu.on hb
      replace hR := hR.less (t0.size)
      replace t0 := t0.trans (hb.mono t0.size)
      clear hb
      replace hR := hR.less (Nat.zero_le _)
      go_wp2_with fail
      refine (shorter_any u4 (allBtw (cellsG rs) (cellsG qs)) x _ hR hall.out).mono ?_
      rintro e v4 ⟨u5, rfl, hR5, hb⟩
      replace hv := hv.on hb
      replace hu := hu.on hb
      replace hR := hR.on hb
      replace hR5 := hR5.less (t0.size)
      replace t0 := t0.trans (hb.mono t0.size)
      clear hb
      replace hR5 := hR5.less (Nat.zero_le _)
      go_wp2_with fail
      refine (inter_any v u rs qs _ hv hu h h2).mono ?_
      rintro e v5 ⟨u6, rfl, hR6, hb⟩
      replace hv := hv.on hb
      replace hu := hu.on hb
      replace hR := hR.on hb
      replace hR5 := hR5.on hb
      replace hR6 := hR6.less (t0.size)
      replace t0 := t0.trans (hb.mono t0.size)
      clear hb
      replace hR6 := hR6.less (Nat.zero_le _)
      obtain ⟨A5, c5, rfl, -, -, -⟩ := hR5.form
      obtain ⟨A6, c6, rfl, -, -, -⟩ := hR6.form
      have t1 := t0.alloc t0.size (.cells #[.slice A5 (canon (shortG (allBtw (cellsG rs) (cellsG qs)) x)).length c5, .slice A6 (canon (interG (cellsG rs) (cellsG qs))).length c6] 26)
      go_wp2_with fail
      refine (unionAll_any _ _ _ (RLL.two hR5 hR6)).mono ?_
      rintro e w9 ⟨u7, rfl, hR7, hb⟩
      rw [union_canons] at hR7
      go_wp2
      go_ret
      exact ⟨_, rfl, hR7.less t1.size, t1.trans (hb.mono t1.size)⟩
    · have h2' : isReg qs = false := by simpa using h2
      clear h2
      rw [show mkbV rs qs x = [] by unfold mkbV; rw [if_neg (by rw [h2']; simp)]]
      go_enter Tryz.func123, Tryz.ntmps123
      go_wp2_with fail
      refine (checkable_any v rs x _ hv).mono ?_
      rintro e v1 ⟨rfl, hb⟩
      replace hv := hv.on hb
      replace hu := hu.on hb
      replace t0 := t0.trans (hb.mono t0.size)
      clear hb
      rw [hc]
      go_wp2_with fail
      refine (isRegion_any u qs _ hu).mono ?_
      rintro e v2 ⟨rfl, hb⟩
      replace hv := hv.on hb
      replace hu := hu.on hb
      replace t0 := t0.trans (hb.mono t0.size)
      clear hb
      rw [h2']
      go_wp2
      go_ret
      exact ⟨_, rfl, RL.nil _ _, t0⟩
  · have hc' : chkV rs x = false := by simpa using hc
    clear hc
    have hcc : (isReg rs && isReg qs && inB 1 x 8) = false := by unfold chkV at hc'; revert hc'; cases isReg rs <;> cases isReg qs <;> cases inB 1 x 8 <;> simp
    rw [show mkbV rs qs x = [] by unfold mkbV; rw [if_neg (by rw [hcc]; simp)]]
    go_enter Tryz.func123, Tryz.ntmps123
    go_wp2_with fail
    refine (checkable_any v rs x _ hv).mono ?_
    rintro e v1 ⟨rfl, hb⟩
    replace hv := hv.on hb
    replace hu := hu.on hb
    replace t0 := t0.trans (hb.mono t0.size)
    clear hb
    rw [hc']
    go_wp2
    go_ret
    exact ⟨_, rfl, RL.nil _ _, t0⟩

end Go.Proofs.YtbljapihmkmolaaGreat
