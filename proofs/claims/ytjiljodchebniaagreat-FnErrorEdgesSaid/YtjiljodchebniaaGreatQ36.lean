/- Contracts: HorizontalGaps, VerticalGaps, MinSpacing, SpacingWitness, MarkSpacing of the reference and of the program. No conditions. Contracts: MinSpacingBetween, MarkSpacingBetween of the reference and of the program. No conditions. Contract: the reference's l19Near. Condition: 0 ≤ k ≤ 8. Contracts: the program's grown and grow. Conditions: rectangles of the chip, 0 ≤ k ≤ 1000. Contracts: MarkEnclosure and EnclosureMargin of the program and of the reference. No conditions. Contracts: EnclosureMargin of the program and of the reference. No conditions. Contract: the reference's l19Visit. Condition: a cell of the chip. What memory holds: lists of sets that lie between two blocks; a set copied by append. No conditions. Contracts: the reference's l19Components and SmallestComponent. No conditions. Contract: the reference's SmallestComponent. No conditions. -/
import Derived.Test.YtjiljodchebniaaGreatQ34
import Derived.Test.YtjiljodchebniaaGreatQ05
import Derived.Test.YtjiljodchebniaaGreatQ08
import Derived.Test.YtjiljodchebniaaGreatQ35
import Derived.Test.YtjiljodchebniaaGreatQ01
import Derived.Test.YtjiljodchebniaaGreatQ02
import Derived.Test.YtjiljodchebniaaGreatQ04
import Derived.Test.YtjiljodchebniaaGreatQ03
import Derived.Test.YtjiljodchebniaaGreatQ06
import Derived.Test.YtjiljodchebniaaGreatQ24
import Derived.Deep.CutRange
import Derived.BigRegion
import Derived.Maps.AppendAt
import Derived.Test.YtjiljodchebniaaGreatQ26
import Derived.Test.YtjiljodchebniaaGreatQ11
import Derived.StillTailTactics

namespace Go.Proofs.YtjiljodchebniaaGreat
open Go.RowKit

def gapsV (vert : Bool) (rs : List Rc) : List Rc := if isReg rs = true then gapsG (cellsG rs) vert else []
theorem gapsV_yes {vert : Bool} {rs : List Rc} (h : isReg rs = true) : gapsV vert rs = gapsG (cellsG rs) vert := if_pos h
theorem gapsV_no {vert : Bool} {rs : List Rc} (h : isReg rs = false) : gapsV vert rs = [] := if_neg (by rw [h]; simp)
theorem gapsV_length (vert : Bool) (rs : List Rc) : (gapsV vert rs).length ≤ 1000000 := by
  unfold gapsV
  split
  · exact Nat.le_trans (gapsG_length _ _) (by omega)
  · simp
def minsV (rs : List Rc) : Int := if isReg rs = true then minA (allGaps (cellsG rs)) else -1
theorem minsV_yes {rs : List Rc} (h : isReg rs = true) : minsV rs = minA (allGaps (cellsG rs)) := if_pos h
theorem minsV_no {rs : List Rc} (h : isReg rs = false) : minsV rs = -1 := if_neg (by rw [h]; simp)
def swV (rs : List Rc) (x : Int) : Option Rc := if chkV rs x = true then firstA (allGaps (cellsG rs)) x else none
theorem swV_yes {rs : List Rc} {x : Int} (h : chkV rs x = true) : swV rs x = firstA (allGaps (cellsG rs)) x := if_pos h
theorem swV_no {rs : List Rc} {x : Int} (h : chkV rs x = false) : swV rs x = none := if_neg (by rw [h]; simp)
def markgV (rs : List Rc) (x : Int) : List Rc := if chkV rs x = true then canon (shortG (allGaps (cellsG rs)) x) else []
theorem markgV_yes {rs : List Rc} {x : Int} (h : chkV rs x = true) : markgV rs x = canon (shortG (allGaps (cellsG rs)) x) := if_pos h
theorem markgV_no {rs : List Rc} {x : Int} (h : chkV rs x = false) : markgV rs x = [] := if_neg (by rw [h]; simp)
theorem markgV_length (rs : List Rc) (x : Int) : (markgV rs x).length ≤ 1000000 := by
  unfold markgV
  split
  · exact Nat.le_trans (canon_few _) (by omega)
  · simp

set_option maxHeartbeats 800000 in
set_option maxRecDepth 100000 in
theorem markg_impl (v : Value) (rs : List Rc) (x : Int) (w : World) (hv : RL w 0 v rs) : Calls Tryz.prog 84 #[v, .int .i64 x] w fun e w' => ∃ u, e = .returned u ∧ RL w' w.heap.size u (markgV rs x) ∧ Below w.heap.size w w' := by
  have t0 := Below.refl w.heap.size w
  by_cases h : chkV rs x = true
  · rw [markgV_yes h]
    have hall := allGaps_ok (cellsG rs)
    go_enter Tryz.func84, Tryz.ntmps84
    go_wp2_with fail
    refine (checkable_any v rs x _ hv).mono ?_
    rintro e v1 ⟨rfl, hb⟩
    replace hv := hv.on hb
    replace t0 := t0.trans (hb.mono t0.size)
    clear hb
    rw [h]
    go_wp2_with fail
    refine (allGaps_any v rs _ hv).mono ?_
    rintro e v2 ⟨u4, rfl, hR, hb⟩
    replace hv := hv.on hb
    replace hR := hR.less (t0.size)
    replace t0 := t0.trans (hb.mono t0.size)
    clear hb
    replace hR := hR.less (Nat.zero_le _)
    go_wp2_with fail
    refine (shorter_any u4 _ x _ hR hall).mono ?_
    rintro e v3 ⟨u5, rfl, hR5, hb⟩
    replace hv := hv.on hb
    replace hR := hR.on hb
    replace hR5 := hR5.less (t0.size)
    replace t0 := t0.trans (hb.mono t0.size)
    clear hb
    go_wp2
    go_ret
    exact ⟨_, rfl, hR5, t0⟩
  · have h' : chkV rs x = false := by simpa using h
    clear h
    rw [markgV_no h']
    go_enter Tryz.func84, Tryz.ntmps84
    go_wp2_with fail
    refine (checkable_any v rs x _ hv).mono ?_
    rintro e v1 ⟨rfl, hb⟩
    replace hv := hv.on hb
    replace t0 := t0.trans (hb.mono t0.size)
    clear hb
    rw [h']
    go_wp2
    go_ret
    exact ⟨_, rfl, RL.nil _ _, t0⟩

end Go.Proofs.YtjiljodchebniaaGreat

namespace Go.Proofs.YtjiljodchebniaaGreat
open Go.RowKit

theorem minStep_pos {m : Int} {r : Rc} (hr : okRc r = true) (hm : 0 ≤ m) : 1 ≤ minStep m r := by
  have h := areaR_bounds hr
  unfold minStep
  split <;> omega
theorem min_fold {rs : List Rc} : ∀ {m : Int}, okAll rs = true → 1 ≤ m → 1 ≤ rs.foldl minStep m := by
  induction rs with
  | nil => intro m _ h; exact h
  | cons r rs ih =>
    intro m hok hm
    rw [okAll, List.all_cons, Bool.and_eq_true] at hok
    exact ih hok.2 (minStep_pos hok.1 (by omega))
theorem minA_nz {rs : List Rc} (hok : okAll rs = true) (h : rs.length ≠ 0) : minA rs ≠ 0 := by
  cases rs with
  | nil => simp at h
  | cons r rs =>
    rw [okAll, List.all_cons, Bool.and_eq_true] at hok
    have := min_fold hok.2 (minStep_pos (m := 0) hok.1 (by omega))
    unfold minA
    rw [List.foldl_cons]
    omega
theorem union_canons (F G : Gr) : canon (cellsG [canon F, canon G].flatten) = canon (unionG F G) := by
  refine canon_congr fun i hi => ?_
  rw [show [canon F, canon G].flatten = canon F ++ canon G by simp, cellsG_append]
  unfold unionG
  rw [cells_canon F i hi, cells_canon G i hi]
def msbV (rs qs : List Rc) : Int := if isReg rs = true ∧ isReg qs = true then (if meetG (cellsG rs) (cellsG qs) = true then 0 else if (allBtw (cellsG rs) (cellsG qs)).length = 0 then -1 else minA (allBtw (cellsG rs) (cellsG qs))) else -1
def mkbG (rs qs : List Rc) (x : Int) : Gr := unionG (shortG (allBtw (cellsG rs) (cellsG qs)) x) (interG (cellsG rs) (cellsG qs))
def mkbV (rs qs : List Rc) (x : Int) : List Rc := if (isReg rs && isReg qs && inB 1 x 8) = true then canon (mkbG rs qs x) else []
theorem mkbV_length (rs qs : List Rc) (x : Int) : (mkbV rs qs x).length ≤ 1000000 := by
  unfold mkbV
  split
  · exact Nat.le_trans (canon_few _) (by omega)
  · simp

set_option maxHeartbeats 800000 in
set_option maxRecDepth 100000 in
theorem mkb_impl (v : Value) (rs : List Rc) (u : Value) (qs : List Rc) (x : Int) (w : World) (hv : RL w 0 v rs) (hu : RL w 0 u qs) : Calls Tryz.prog 85 #[v, u, .int .i64 x] w fun e w' => ∃ z, e = .returned z ∧ RL w' w.heap.size z (mkbV rs qs x) ∧ Below w.heap.size w w' := by
  have t0 := Below.refl w.heap.size w
  have hall := Lib.hid (allBtw_ok (cellsG rs) (cellsG qs))
  by_cases hc : chkV rs x = true
  · obtain ⟨h, hx⟩ := chkV_yes hc
    by_cases h2 : isReg qs = true
    · rw [show mkbV rs qs x = canon (mkbG rs qs x) by unfold mkbV; rw [if_pos (by rw [h, h2, hx]; rfl)]]
      go_enter Tryz.func85, Tryz.ntmps85
      go_wp2_with fail
      refine (checkable_any v rs x _ hv).mono ?_
      rintro e v1 ⟨rfl, hb⟩
      replace hv := hv.on hb
      replace hu := hu.on hb
      replace t0 := t0.trans (hb.mono t0.size)
      clear hb
      rw [hc]
      go_wp2_with fail
      refine (isRegion_any u qs _ hu).mono ?_
      rintro e v2 ⟨rfl, hb⟩
      replace hv := hv.on hb
      replace hu := hu.on hb
      replace t0 := t0.trans (hb.mono t0.size)
      clear hb
      rw [h2]
      go_wp2_with fail
      refine (gapsBetween_any v u rs qs _ hv hu).mono ?_
      rintro e v3 ⟨u4, rfl, hR, hb⟩
      replace hv := hv.on hb
      replace hu := hu.on hb
      replace hR := hR.less (t0.size)
      replace t0 := t0.trans (hb.mono t0.size)
      clear hb
      replace hR := hR.less (Nat.zero_le _)
      go_wp2_with fail
      refine (shorter_any u4 (allBtw (cellsG rs) (cellsG qs)) x _ hR hall.out).mono ?_
      rintro e v4 ⟨u5, rfl, hR5, hb⟩
      replace hv := hv.on hb
      replace hu := hu.on hb
      replace hR := hR.on hb
      replace hR5 := hR5.less (t0.size)
      replace t0 := t0.trans (hb.mono t0.size)
      clear hb
      replace hR5 := hR5.less (Nat.zero_le _)
      go_wp2_with fail
      refine (inter_any v u rs qs _ hv hu h h2).mono ?_
      rintro e v5 ⟨u6, rfl, hR6, hb⟩
      replace hv := hv.on hb
      replace hu := hu.on hb
      replace hR := hR.on hb
      replace hR5 := hR5.on hb
      replace hR6 := hR6.less (t0.size)
      replace t0 := t0.trans (hb.mono t0.size)
      clear hb
      replace hR6 := hR6.less (Nat.zero_le _)
      obtain ⟨A5, c5, rfl, -, -, -⟩ := hR5.form
      obtain ⟨A6, c6, rfl, -, -, -⟩ := hR6.form
      have t1 := t0.alloc t0.size (.cells #[.slice A5 (canon (shortG (allBtw (cellsG rs) (cellsG qs)) x)).length c5, .slice A6 (canon (interG (cellsG rs) (cellsG qs))).length c6] 24)
      go_wp2_with fail
      refine (unionAll_any _ _ _ (RLL.two hR5 hR6)).mono ?_
      rintro e w9 ⟨u7, rfl, hR7, hb⟩
      rw [union_canons] at hR7
      go_wp2
      go_ret
      exact ⟨_, rfl, hR7.less t1.size, t1.trans (hb.mono t1.size)⟩
    · have h2' : isReg qs = false := by simpa using h2
      clear h2
      rw [show mkbV rs qs x = [] by unfold mkbV; rw [if_neg (by rw [h2']; simp)]]
      go_enter Tryz.func85, Tryz.ntmps85
      go_wp2_with fail
      refine (checkable_any v rs x _ hv).mono ?_
      rintro e v1 ⟨rfl, hb⟩
      replace hv := hv.on hb
      replace hu := hu.on hb
      replace t0 := t0.trans (hb.mono t0.size)
      clear hb
      rw [hc]
      go_wp2_with fail
      refine (isRegion_any u qs _ hu).mono ?_
      rintro e v2 ⟨rfl, hb⟩
      replace hv := hv.on hb
      replace hu := hu.on hb
      replace t0 := t0.trans (hb.mono t0.size)
      clear hb
      rw [h2']
      go_wp2
      go_ret
      exact ⟨_, rfl, RL.nil _ _, t0⟩
  · have hc' : chkV rs x = false := by simpa using hc
    clear hc
    have hcc : (isReg rs && isReg qs && inB 1 x 8) = false := by unfold chkV at hc'; revert hc'; cases isReg rs <;> cases isReg qs <;> cases inB 1 x 8 <;> simp
    rw [show mkbV rs qs x = [] by unfold mkbV; rw [if_neg (by rw [hcc]; simp)]]
    go_enter Tryz.func85, Tryz.ntmps85
    go_wp2_with fail
    refine (checkable_any v rs x _ hv).mono ?_
    rintro e v1 ⟨rfl, hb⟩
    replace hv := hv.on hb
    replace hu := hu.on hb
    replace t0 := t0.trans (hb.mono t0.size)
    clear hb
    rw [hc']
    go_wp2
    go_ret
    exact ⟨_, rfl, RL.nil _ _, t0⟩

end Go.Proofs.YtjiljodchebniaaGreat

namespace Go.Proofs.YtjiljodchebniaaGreat
open Go.RowKit

theorem flat_xy {a b : Nat} (hb : b < 80) : (a * 80 + b) % 80 = b ∧ (a * 80 + b) / 80 = a := by omega
theorem ix_flat {a b : Nat} : (ix ((b : Int) - 40) ((a : Int) - 40)).toNat = a * 80 + b := by unfold ix; omega
/-- The segment of a cell, begun. -/
theorem hseg_start (G : Gr) (k x y : Int) : orR G ⟨x - k, y, x + -k, y + 1⟩ = G := orR_empty _ _ (.inl (by dsimp only; omega))
theorem vseg_start (G : Gr) (k x y : Int) : orR G ⟨x, y - k, x + 1, y + -k⟩ = G := orR_empty _ _ (.inr (by dsimp only; omega))
theorem hseg_end {a b : Nat} (hb : b < 80) (k : Int) : hseg k (a * 80 + b) = ⟨(b : Int) - 40 - k, (a : Int) - 40, (b : Int) - 40 + (k + 1), (a : Int) - 40 + 1⟩ := by
  obtain ⟨e1, e2⟩ := flat_xy (a := a) hb
  unfold hseg
  rw [e1, e2]
theorem vseg_end {a b : Nat} (hb : b < 80) (k : Int) : vseg k (a * 80 + b) = ⟨(b : Int) - 40, (a : Int) - 40 - k, (b : Int) - 40 + 1, (a : Int) - 40 + (k + 1)⟩ := by
  obtain ⟨e1, e2⟩ := flat_xy (a := a) hb
  unfold vseg
  rw [e1, e2]

end Go.Proofs.YtjiljodchebniaaGreat

namespace Go.Proofs.YtjiljodchebniaaGreat
open Go.RowKit

theorem cellsG_map_succ {rs : List Rc} {f : Rc → Rc} {k : Nat} {r : Rc} (h : rs[k]? = some r) : cellsG ((rs.take (k + 1)).map f) = orR (cellsG ((rs.take k).map f)) (f r) := by
  rw [List.take_add_one, h, Option.toList, List.map_append, List.map_cons, List.map_nil, cellsG_snoc]

set_option maxHeartbeats 400000 in
set_option maxRecDepth 100000 in
/-- grown. -/
theorem grown_any (v : Value) (rs : List Rc) (k : Int) (w : World) (hv : RL w 0 v rs) (hok : okAll rs = true) (hk : 0 ≤ k ∧ k ≤ 1000) : Calls Tryz.prog 166 #[v, .int .i64 k] w fun e w' => ∃ g, e = .returned (.pointer (some ⟨g, 0, none⟩)) ∧ w.heap.size ≤ g ∧ GB w' g 89 (grownG rs k) ∧ Below w.heap.size w w' := by
  obtain ⟨A, c, rfl, hc, hm, -⟩ := hv.form
  have hm' : rs.length ≤ 9223372036854775807 := by unfold maxLen at hm; omega
  have Hok := Lib.hid hok
  clear hok
  have g0 := GB.zero w 89
  have b0 : Below w.heap.size w (w.alloc (.cells Tryz.zeroCells89 89)) := (Below.refl _ _).alloc (Nat.le_refl _) _
  go_enter Tryz.func166, Tryz.ntmps166
  go_wp2
  go_loopw [12] (fun i wr => ∃ j : Nat, j ≤ rs.length ∧ i = .int .i64 j ∧ GB wr w.heap.size 89 (cellsG ((rs.take j).map (growR k))) ∧ Below w.heap.size w wr) (fun i _ => rs.length - (intOf i).toNat)
  case atStart => exact ⟨0, Nat.zero_le _, rfl, g0, b0⟩
  case round =>
    obtain ⟨j, hj, rfl, hG, hb⟩ := hrel
    clear g0 b0
    by_cases hlt : j < rs.length
    · obtain ⟨g, x0, y0, x1, y1, rfl, hr, hg, f0, f1, f2, f3⟩ := (hv.on hb).elem hlt
      have hrok := (okRc_iff _).1 (okAll_get Hok.out hr)
      dsimp only at hrok
      have Hr := Lib.hid (cellsG_map_succ (f := growR k) hr)
      clear hr
      go_wp2_with (go_at_call 51; refine (put_any _ _ ⟨x0 - k, y0 - k, x1 + k, y1 + k⟩ _ (hG.alloc _)).mono ?_; rintro e w1 ⟨rfl, hG1, hO1⟩)
      refine ⟨⟨j + 1, by omega, by go_num, hG1.cong Hr.out.symm, only_far (hb.alloc hb.size _) hO1 (by simp; have := hb.size; omega) (Nat.le_refl _)⟩, by simp [intOf]; omega⟩
    · go_wp2
      go_ret
      have : j = rs.length := by omega
      subst this
      rw [List.take_length] at hG
      exact ⟨_, rfl, Nat.le_refl _, hG, hb⟩

/-- grow. -/
theorem grow_any (v : Value) (rs : List Rc) (k : Int) (w : World) (hv : RL w 0 v rs) (hok : okAll rs = true) (hk : 0 ≤ k ∧ k ≤ 1000) : Calls Tryz.prog 144 #[v, .int .i64 k] w fun e w' => ∃ u, e = .returned u ∧ RL w' w.heap.size u (canon (grownG rs k)) ∧ Below w.heap.size w w' := by
  go_enter Tryz.func144, Tryz.ntmps144
  go_wp2_with (first | (go_at_call 166; refine (grown_any v rs k _ hv hok hk).mono ?_; rintro e w1 ⟨g, rfl, hg, hG, hb1⟩)
                     | (go_at_call 50; refine (region_any g _ _ hG).mono ?_; rintro e w2 ⟨u, rfl, hR, hb2⟩))
  go_ret
  exact ⟨_, rfl, hR.less hb1.size, hb1.trans (hb2.mono hb1.size)⟩

end Go.Proofs.YtjiljodchebniaaGreat

namespace Go.Proofs.YtjiljodchebniaaGreat
open Go.RowKit

set_option maxHeartbeats 400000 in
/-- markEnclosure. -/
theorem markEnc_any (v u : Value) (rs qs : List Rc) (k : Int) (w : World) (hv : RL w 0 v rs) (hu : RL w 0 u qs) (h1 : isReg rs = true) (h2 : isReg qs = true) (hk : 0 ≤ k ∧ k ≤ 1000) : Calls Tryz.prog 117 #[v, u, .int .i64 k] w fun e w' => ∃ z, e = .returned z ∧ RL w' w.heap.size z (encL rs qs k) ∧ Below w.heap.size w w' := by
  have hok := okAll_reg h1
  go_enter Tryz.func117, Tryz.ntmps117
  go_wp2_with fail
  refine (grow_any v rs k _ hv hok hk).mono ?_
  rintro e w1 ⟨z1, rfl, hR1, hb1⟩
  go_wp2_with fail
  refine (diff_any z1 u _ qs _ (hR1.less (Nat.zero_le _)) (hu.on hb1) (isReg_canon _) h2).mono ?_
  rintro e w2 ⟨z2, rfl, hR2, hb2⟩
  rw [enc_grown] at hR2
  go_wp2
  go_ret
  exact ⟨_, rfl, hR2.less hb1.size, hb1.trans (hb2.mono hb1.size)⟩

/-- The cells around a region that another one leaves. -/
def encV (rs qs : List Rc) (k : Int) : List Rc := if (isReg rs = true ∧ isReg qs = true) ∧ inB 0 k 8 = true then encL rs qs k else []
theorem encV_yes {rs qs : List Rc} {k : Int} (h1 : isReg rs = true) (h2 : isReg qs = true) (hk : inB 0 k 8 = true) : encV rs qs k = encL rs qs k := if_pos ⟨⟨h1, h2⟩, hk⟩
theorem encV_no1 {rs qs : List Rc} {k : Int} (h : isReg rs = false) : encV rs qs k = [] := if_neg (by rw [h]; simp)
theorem encV_no2 {rs qs : List Rc} {k : Int} (h : isReg qs = false) : encV rs qs k = [] := if_neg (by rw [h]; simp)
theorem encV_no3 {rs qs : List Rc} {k : Int} (h : inB 0 k 8 = false) : encV rs qs k = [] := if_neg (by rw [h]; simp)
theorem encV_length (rs qs : List Rc) (k : Int) : (encV rs qs k).length ≤ 1000000 := by
  unfold encV
  split
  · exact Nat.le_trans (canon_few _) (by omega)
  · simp

set_option maxHeartbeats 400000 in
theorem enc_impl (v : Value) (rs : List Rc) (u : Value) (qs : List Rc) (k : Int) (w : World) (hv : RL w 0 v rs) (hu : RL w 0 u qs) : Calls Tryz.prog 86 #[v, u, .int .i64 k] w fun e w' => ∃ z, e = .returned z ∧ RL w' w.heap.size z (encV rs qs k) ∧ Below w.heap.size w w' := by
  by_cases h1 : isReg rs = true
  · by_cases h2 : isReg qs = true
    · by_cases hk : inB 0 k 8 = true
      · have hk' := (inB_iff _ _ _).1 hk
        rw [encV_yes h1 h2 hk]
        go_enter Tryz.func86, Tryz.ntmps86
        go_wp2_with fail
        refine (isRegion_any v rs _ hv).mono ?_
        rintro e w1 ⟨rfl, hb1⟩
        go_wp2_with fail
        refine (isRegion_any u qs _ (hu.on hb1)).mono ?_
        rintro e w2 ⟨rfl, hb2⟩
        go_wp2_with fail
        refine (within_any _ _ _ _).mono ?_
        rintro e w3 ⟨rfl, rfl⟩
        go_wp2_with fail
        have t2 := hb1.trans (hb2.mono hb1.size)
        refine (markEnc_any v u rs qs k _ (hv.on t2) (hu.on t2) h1 h2 (by omega)).mono ?_
        rintro e w4 ⟨z, rfl, hR, hb4⟩
        go_wp2
        go_ret
        exact ⟨_, rfl, hR.less t2.size, t2.trans (hb4.mono t2.size)⟩
      · have hk' : inB 0 k 8 = false := by simpa using hk
        clear hk
        rw [encV_no3 hk']
        go_enter Tryz.func86, Tryz.ntmps86
        go_wp2_with fail
        refine (isRegion_any v rs _ hv).mono ?_
        rintro e w1 ⟨rfl, hb1⟩
        go_wp2_with fail
        refine (isRegion_any u qs _ (hu.on hb1)).mono ?_
        rintro e w2 ⟨rfl, hb2⟩
        go_wp2_with fail
        refine (within_any _ _ _ _).mono ?_
        rintro e w3 ⟨rfl, rfl⟩
        go_wp2
        go_ret
        exact ⟨_, rfl, RL.nil _ _, hb1.trans (hb2.mono hb1.size)⟩
    · have h2' : isReg qs = false := by simpa using h2
      clear h2
      rw [encV_no2 h2']
      go_enter Tryz.func86, Tryz.ntmps86
      go_wp2_with fail
      refine (isRegion_any v rs _ hv).mono ?_
      rintro e w1 ⟨rfl, hb1⟩
      go_wp2_with fail
      refine (isRegion_any u qs _ (hu.on hb1)).mono ?_
      rintro e w2 ⟨rfl, hb2⟩
      go_wp2
      go_ret
      exact ⟨_, rfl, RL.nil _ _, hb1.trans (hb2.mono hb1.size)⟩
  · have h1' : isReg rs = false := by simpa using h1
    clear h1
    rw [encV_no1 h1']
    go_enter Tryz.func86, Tryz.ntmps86
    go_wp2_with fail
    refine (isRegion_any v rs _ hv).mono ?_
    rintro e w1 ⟨rfl, hb1⟩
    go_wp2
    go_ret
    exact ⟨_, rfl, RL.nil _ _, hb1⟩

end Go.Proofs.YtjiljodchebniaaGreat

namespace Go.Proofs.YtjiljodchebniaaGreat
open Go.RowKit

/-- The greatest margin below n within which nothing is left, or -1. -/
def bestD (rs qs : List Rc) : Nat → Int
  | 0 => -1
  | n + 1 => if encL rs qs n = [] then n else bestD rs qs n
theorem bestD_yes {rs qs : List Rc} {n : Nat} (h : encL rs qs n = []) : bestD rs qs (n + 1) = n := if_pos h
theorem bestD_no {rs qs : List Rc} {n : Nat} (h : ¬ encL rs qs n = []) : bestD rs qs (n + 1) = bestD rs qs n := if_neg h
theorem bestD_up {rs qs : List Rc} {k : Nat} (h : ¬ encL rs qs k = []) : ∀ d, bestD rs qs (k + d) = bestD rs qs k
  | 0 => rfl
  | d + 1 => by
    rw [← Nat.add_assoc, bestD_no, bestD_up h d]
    intro hc
    apply h
    have e : ((k + d : Nat) : Int) = (k : Int) + (d : Int) := by omega
    rw [e] at hc
    exact enc_below d hc
/-- The margin. -/
def marginV (rs qs : List Rc) : Int := if isReg rs = true ∧ isReg qs = true then bestD rs qs 9 else -1
theorem marginV_yes {rs qs : List Rc} (h1 : isReg rs = true) (h2 : isReg qs = true) : marginV rs qs = bestD rs qs 9 := if_pos ⟨h1, h2⟩
theorem marginV_no1 {rs qs : List Rc} (h : isReg rs = false) : marginV rs qs = -1 := if_neg (by rw [h]; simp)
theorem marginV_no2 {rs qs : List Rc} (h : isReg qs = false) : marginV rs qs = -1 := if_neg (by rw [h]; simp)
theorem ret_intE {a b : Int} (h : a = b) : Ending.returned (.int .i64 a) = .returned (.int .i64 b) := by rw [h]
/-- Where the reference stops. -/
theorem bestD_stop {rs qs : List Rc} {k : Nat} (hk : k ≤ 9) (hall : ∀ j : Nat, j < k → encL rs qs j = []) (hend : k = 9 ∨ ¬ encL rs qs k = []) : bestD rs qs 9 = (k : Int) - 1 := by
  have e : bestD rs qs 9 = bestD rs qs k := by
    rcases hend with h | h
    · rw [h]
    · have := bestD_up h (9 - k)
      rw [show k + (9 - k) = 9 by omega] at this
      exact this
  rw [e]
  cases k with
  | zero => rfl
  | succ k => rw [bestD_yes (hall k (Nat.lt_succ_self k))]; omega

end Go.Proofs.YtjiljodchebniaaGreat

namespace Go.Proofs.YtjiljodchebniaaGreat
open Go.RowKit

def pairI (j : Nat) : Int × Int := (((j % 80 : Nat) : Int) - 40, ((j / 80 : Nat) : Int) - 40)
theorem pairI_ix {x y : Int} (h : onC x y = true) : pairI (ix x y).toNat = (x, y) := by
  rw [onC_iff] at h
  unfold pairI ix
  simp only [Prod.mk.injEq]
  omega
theorem GB.keptQ {w w' : World} {g : Nat} {t e : TypeId} {G : Gr} {B s n : Nat} {v : Value} {xs : List Value} (h : GB w g t G) (ho : w.ownsRow B e s v n xs) (hne : t ≠ e) (hg : w.grownBy w' v.ownBlock) : GB w' g t G := by
  obtain ⟨cs, hb, hr⟩ := h
  exact ⟨cs, hb.grown hg (hb.apart' ho hne), hr⟩

end Go.Proofs.YtjiljodchebniaaGreat

namespace Go.Proofs.YtjiljodchebniaaGreat
open Go.RowKit

/-- The slice value v holds sets of flags that lie in blocks from N on, below M. -/
def GSM (w : World) (B N M : Nat) (v : Value) (Gs : List Gr) : Prop := ∃ vs, VL w B 70 v vs ∧ vs.length = Gs.length ∧ ∀ (k : Nat) (u : Value) (G : Gr), vs[k]? = some u → Gs[k]? = some G → ∃ g c, u = .slice (some ⟨g, 0, none⟩) 6400 c ∧ N ≤ g ∧ g < M ∧ GB w g 4 G
section
variable {w w' : World} {B N M : Nat} {v : Value} {Gs : List Gr}
theorem GSM.on (h : GSM w B N M v Gs) (hb : Below w.heap.size w w') : GSM w' B N M v Gs := by
  obtain ⟨vs, h1, h2, h3⟩ := h
  refine ⟨vs, h1.on hb, h2, fun k u G hu hG => ?_⟩
  obtain ⟨g, c, e, a, b, hg⟩ := h3 k u G hu hG
  exact ⟨g, c, e, a, b, hg.on hb⟩
theorem GSM.alloc (h : GSM w B N M v Gs) (o : Obj) : GSM (w.alloc o) B N M v Gs := h.on ((Below.refl _ _).alloc (Nat.le_refl _) o)
theorem GSM.drew (h : GSM w B N M v Gs) : GSM w.drew B N M v Gs := h.on (Below.refl _ _).drew
theorem GSM.more {M' : Nat} (h : GSM w B N M v Gs) (hM : M ≤ M') : GSM w B N M' v Gs := by
  obtain ⟨vs, h1, h2, h3⟩ := h
  refine ⟨vs, h1, h2, fun k u G hu hG => ?_⟩
  obtain ⟨g, c, e, a, b, hg⟩ := h3 k u G hu hG
  exact ⟨g, c, e, a, by omega, hg⟩
/-- A store into another set. -/
theorem GSM.store {p : Nat} {H : Gr} (h : GSM w B N M v Gs) (hp : GB w p 4 H) (hout : p < N ∨ M ≤ p) (i : Nat) (x : Value) : GSM (w.setCell ⟨p, i, none⟩ x) B N M v Gs := by
  obtain ⟨vs, h1, h2, h3⟩ := h
  obtain ⟨cs, hb, _⟩ := hp
  refine ⟨vs, own_other h1 (p := ⟨p, i, none⟩) (fun e => hb.apart' h1 (by decide) e.symm) x, h2, fun k u G hu hG => ?_⟩
  obtain ⟨g, c, e, a, b, hg⟩ := h3 k u G hu hG
  exact ⟨g, c, e, a, b, hg.other (p := ⟨p, i, none⟩) (show g ≠ p by omega) x⟩
theorem GSM.lit0 (w : World) {B N M : Nat} (hB : B ≤ w.heap.size) : GSM (w.alloc (.cells #[] 70)) B N M (.slice (some ⟨w.heap.size, 0, none⟩) 0 0) [] := ⟨[], World.ownsRow_lit w #[] 0 hB (by simp [maxLen]) rfl, rfl, fun k u rs hu => by simp at hu⟩
theorem GSM.list (h : GSM w B N M v Gs) (hN : B ≤ N) : GSL w B v Gs := by
  obtain ⟨vs, h1, h2, h3⟩ := h
  refine ⟨vs, h1, h2, fun k u G hu hG => ?_⟩
  obtain ⟨g, c, e, a, b, hg⟩ := h3 k u G hu hG
  exact ⟨g, c, e, Nat.le_trans hN a, hg⟩
theorem GSM.form (h : GSM w B N M v Gs) : ∃ A cap, v = .slice A Gs.length cap ∧ Gs.length ≤ cap ∧ cap ≤ maxLen := by
  obtain ⟨vs, h1, h2, h3⟩ := h
  obtain ⟨A, cap, hv, a1, a2, _⟩ := h1.form
  rw [h2] at hv a1
  exact ⟨A, cap, hv, a1, a2⟩
end
theorem gs_of_own {w : World} {B : Nat} {v : Value} {G : Gr} (h : w.ownsRow B 4 1 v 6400 ((List.range 6400).map fun i => .bool (G i))) : GS w B v G := by
  rcases h.2 with ⟨_, h0⟩ | ⟨g, cap, cur, hv, hB, hh, hn, hcm, hcs, htake⟩
  · exact absurd h0 (by omega)
  · refine ⟨g, cap, hv, hB, cur, hh, ⟨by omega, fun hne => absurd rfl hne⟩, fun i hi => ?_⟩
    have e : (cur.toList.take (6400 * 1))[i]? = some (.bool (G i)) := by rw [htake]; simp [hi]
    rw [List.getElem?_take, if_pos (by omega)] at e
    simpa using e
/-- 'left := append([]bool{}, b...)'. -/
theorem wpList_append_BB {w : World} {ops : Array Oper} {rest : List Oper} {o : Oper} {a : Act} {Q : Exit → Act → World → Prop} (hgd : o.guard = none) (s x : Operand)
    (ho : o.op = .call { callee := .builtin .append, args := #[s, x], argTypes := #[70, 70] })
    (B : Nat) (v : Value) (hs : a.eval s = v) (hown : w.ownsRow B 4 1 v 0 []) (g c : Nat) (G : Gr) (hG : GB w g 4 G) (hx : a.eval x = .slice (some ⟨g, 0, none⟩) 6400 c) (hB : B ≤ w.heap.size)
    (h : ∀ v' w', GS w' B v' G → w.grownBy w' v.ownBlock → Below B w w' → wpList Tryz.prog ops Q rest (a.put o.dst v') w') :
    wpList Tryz.prog ops Q (o :: rest) a w := by
  obtain ⟨i, hi, hz, hsz, hby⟩ := info_parts infoBool
  refine wpList_append_own_at _ hgd s x 70 ho B 4 i _ 1 1 Tryz.underlying70 hi hz hsz hby rfl (by decide) v 0 [] hs hown ⟨g, 0, none⟩ 6400 c
    ((List.range 6400).map fun i => .bool (G i)) hx (by simp) ?_ ?_ (by simp [maxLen]) (by omega) hB ?_
  · intro j u hu
    have hj : j < 6400 := by
      have := (List.getElem?_eq_some_iff.1 hu).1
      simpa using this
    rw [Addr.add_lit, Nat.zero_add, hG.cell hj, ← hu]
    simp [hj]
  · intro u hu
    obtain ⟨i, _, rfl⟩ := List.mem_map.1 hu
    rfl
  · intro v' w' h1 h2 _ _
    exact h v' w' (gs_of_own (by simpa using h1)) h2 (below_own hown h2 hB)

end Go.Proofs.YtjiljodchebniaaGreat

namespace Go.Proofs.YtjiljodchebniaaGreat
open Go.RowKit

theorem own_low2 {w w' : World} {B N n size : Nat} {e : TypeId} {v : Value} {xs : List Value} (h : w.ownsRow B e size v n xs) (hN : ∀ g, v.ownBlock = some g → g < N) (hb : Below N w w') : w'.ownsRow B e size v n xs := by
  refine ⟨h.1, ?_⟩
  rcases h.2 with hn | ⟨g, cap, cur, rfl, h1, h2, h3⟩
  · exact .inl hn
  · exact .inr ⟨g, cap, cur, rfl, h1, (hb.block g (hN g rfl)).trans h2, h3⟩
theorem take_setL {qs : List Nat} {k j : Nat} (h : qs[k]? = some j) : setL (qs.take (k + 1)) = updG (setL (qs.take k)) j true := by
  rw [List.take_add_one, h, Option.toList, setL_snoc]
theorem take_minus {L : Gr} {qs : List Nat} {k j : Nat} (h : qs[k]? = some j) : minusG L (setL (qs.take (k + 1))) = updG (minusG L (setL (qs.take k))) j false := by
  rw [take_setL h]
  funext i
  unfold minusG updG
  by_cases e : i = j
  · simp [e]
  · simp [e]
theorem minus_nil (L : Gr) : minusG L (setL []) = L := by funext i; simp [minusG, setL]
theorem still_eq {P : Program} {f : Nat} {args : Array Value} {w : World} {v : Value} (h : Calls P f args w fun e w' => e = .returned v ∧ w = w') : Calls P f args w fun e w' => e = .returned v ∧ w' = w := h.mono fun _ _ ⟨a, b⟩ => ⟨a, b.symm⟩
theorem emptyG_nil : emptyG = setL [] := by funext i; simp [emptyG, setL]

end Go.Proofs.YtjiljodchebniaaGreat

namespace Go.Proofs.YtjiljodchebniaaGreat
open Go.RowKit

end Go.Proofs.YtjiljodchebniaaGreat
