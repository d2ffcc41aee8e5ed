/- Contracts: MarkDensity of the reference and of the program. No conditions. -/
import Derived.Test.YtooglkdloaaomaaDens
import Derived.Test.YtooglkdloaaomaaCov2
import Derived.Test.YtooglkdloaaomaaShort2
import Derived.Test.YtooglkdloaaomaaCombine
import Derived.Test.YtooglkdloaaomaaVals
import Derived.Test.YtooglkdloaaomaaMem2
import Derived.Test.YtooglkdloaaomaaWidth1
import Derived.Test.YtooglkdloaaomaaGapMath
namespace Go.Proofs.Ytooglkdloaaomaa
open Go.RowKit

theorem winX_ok (s y : Int) (hs : 0 < s) (hy : -40 ≤ y ∧ y < 40) : ∀ (n : Nat) (x : Int), 40 - x ≤ (n : Int) → -40 ≤ x → ∀ r ∈ winX s y x, okRc r = true := by
  intro n
  induction n with
  | zero => intro x h _ r hr; rw [winX_stop s y x (by omega)] at hr; cases hr
  | succ n ih =>
    intro x h hx r hr
    by_cases hx4 : x < 40
    · rw [winX_step s y x hs hx4] at hr
      rcases List.mem_append.1 hr with hr | hr
      · rw [List.mem_singleton] at hr
        subst hr
        rw [okRc_iff]
        dsimp only
        omega
      · exact ih (x + s) (by omega) (by omega) r hr
    · rw [winX_stop s y x (by omega)] at hr; cases hr
theorem winY_ok (s : Int) (hs : 0 < s) : ∀ (n : Nat) (y : Int), 40 - y ≤ (n : Int) → -40 ≤ y → ∀ r ∈ winY s y, okRc r = true := by
  intro n
  induction n with
  | zero => intro y h _ r hr; rw [winY_stop s y (by omega)] at hr; cases hr
  | succ n ih =>
    intro y h hy r hr
    by_cases hy4 : y < 40
    · rw [winY_step s y hs hy4] at hr
      rcases List.mem_append.1 hr with hr | hr
      · exact winX_ok s y hs ⟨hy, hy4⟩ 80 (-40) (by omega) (by omega) r hr
      · exact ih (y + s) (by omega) (by omega) r hr
    · rw [winY_stop s y (by omega)] at hr; cases hr
theorem wins_ok (s : Int) : okAll (wins s) = true := by
  rw [okAll, List.all_eq_true]
  intro r hr
  unfold wins at hr
  split at hr
  · exact winY_ok s (by omega) 80 (-40) (by omega) (by omega) r hr
  · cases hr
theorem wins_length (s : Int) : (wins s).length ≤ 6400 := by
  unfold wins
  split
  · exact winY_length s
  · simp
/-- A window is not covered enough. -/
def dueR (G : Gr) (p : Int) (r : Rc) : Bool := decide (coverG G r * 100 < p * areaR r)
/-- The windows that are not covered enough. -/
def dueL (G : Gr) (s p : Int) : List Rc := (wins s).filter (dueR G p)
/-- The markers of a density rule. -/
def densV (rs : List Rc) (s p : Int) : List Rc := if isReg rs = true ∧ inB 4 s 40 = true ∧ inB 1 p 100 = true then canon (diffG (cellsG (dueL (cellsG rs) s p)) (cellsG rs)) else []
theorem densV_yes {rs : List Rc} {s p : Int} (h : isReg rs = true) (hs : inB 4 s 40 = true) (hp : inB 1 p 100 = true) : densV rs s p = canon (diffG (cellsG (dueL (cellsG rs) s p)) (cellsG rs)) := if_pos ⟨h, hs, hp⟩
theorem densV_no1 {rs : List Rc} {s p : Int} (h : isReg rs = false) : densV rs s p = [] := if_neg (by rw [h]; simp)
theorem densV_no2 {rs : List Rc} {s p : Int} (h : inB 4 s 40 = false) : densV rs s p = [] := if_neg (by rw [h]; simp)
theorem densV_no3 {rs : List Rc} {s p : Int} (h : inB 1 p 100 = false) : densV rs s p = [] := if_neg (by rw [h]; simp)
theorem densV_length (rs : List Rc) (s p : Int) : (densV rs s p).length ≤ 1000000 := by
  unfold densV
  split
  · exact Nat.le_trans (canon_few _) (by omega)
  · simp
theorem due_nil (G : Gr) (p : Int) (l : List Rc) : cellsG ((l.take 0).filter (dueR G p)) = emptyG := rfl
theorem due_yes {G : Gr} {p : Int} {l : List Rc} {k : Nat} {r : Rc} (h : l[k]? = some r) (hd : coverG G r * 100 < p * areaR r) : cellsG ((l.take (k + 1)).filter (dueR G p)) = orR (cellsG ((l.take k).filter (dueR G p))) r := by
  rw [filter_yes h (decide_eq_true hd), cellsG_snoc]
theorem due_no {G : Gr} {p : Int} {l : List Rc} {k : Nat} {r : Rc} (h : l[k]? = some r) (hd : ¬ coverG G r * 100 < p * areaR r) : cellsG ((l.take (k + 1)).filter (dueR G p)) = cellsG ((l.take k).filter (dueR G p)) := by
  rw [filter_no h (decide_eq_false hd)]
theorem due_all {G : Gr} {p : Int} {l : List Rc} {k : Nat} (h : l.length ≤ k) : cellsG ((l.take k).filter (dueR G p)) = cellsG (l.filter (dueR G p)) := by rw [List.take_of_length_le h]
theorem cover_bounds (rs : List Rc) {b : Rc} (hb : okRc b = true) : 0 ≤ coverG (cellsG rs) b ∧ coverG (cellsG rs) b ≤ 10000 := by
  have h1 := gotC_bounds (cellsG rs) hb (m := (b.y1 - b.y0).toNat) (k := 0) (by have := (okRc_iff b).1 hb; omega) (by omega)
  rw [gotC_all rfl] at h1
  exact h1
theorem due_prod {p : Int} (hp : 1 ≤ p ∧ p ≤ 100) {r : Rc} (h : okRc r = true) : 0 ≤ p * areaR r ∧ p * areaR r ≤ 640000 := by
  have h1 := areaR_bounds h
  constructor
  · exact Int.mul_nonneg (by omega) (by omega)
  · have := Int.mul_le_mul hp.2 h1.2 (by omega) (by omega)
    omega
theorem put_other {w w' : World} {g B : Nat} {v : Value} {rs : List Rc} {G : Gr} (hR : RL w B v rs) (hG : GB w g 77 G) (hg : w.grownBy w' (some g)) : RL w' B v rs := by
  obtain ⟨cs, hb, _⟩ := hG
  refine World.ownsRow.kept hR hg ?_
  right
  intro he
  exact hb.apart' hR (by decide) he.symm

set_option maxHeartbeats 1600000 in
set_option maxRecDepth 100000 in
theorem markd_impl (v : Value) (rs : List Rc) (s p : Int) (w : World) (hv : RL w 0 v rs) : Calls Try.prog 17 #[v, .int .i64 s, .int .i64 p] w fun e w' => ∃ u, e = .returned u ∧ RL w' w.heap.size u (densV rs s p) ∧ Below w.heap.size w w' := by
  by_cases h : isReg rs = true
  · by_cases hs : inB 4 s 40 = true
    · by_cases hp : inB 1 p 100 = true
      · rw [densV_yes h hs hp]
        have hp' := (inB_iff _ _ _).1 hp
        have Hreg := Lib.hid h
        have hl := Nat.le_trans ((isReg_iff rs).1 h).1 (show 3200 ≤ 100000 by omega)
        have Hok := Lib.hid (wins_ok s)
        have Hlen := Lib.hid (wins_length s)
        go_enter Try.func17, Try.ntmps17
        go_wp2_with fail
        refine (isRegion_any v rs _ hv).mono ?_
        rintro e w1 ⟨rfl, hb1⟩
        rw [h]
        replace hv := hv.on hb1
        go_wp2_with fail
        refine (within_any _ _ _ _).mono ?_
        rintro e _ ⟨rfl, rfl⟩
        rw [hs]
        go_wp2_with fail
        refine (within_any _ _ _ _).mono ?_
        rintro e _ ⟨rfl, rfl⟩
        rw [hp]
        have g0 := GB.zero w1 77
        have t0 := hb1.alloc hb1.size (.cells Try.zeroCells77 77)
        replace hv := hv.alloc (.cells Try.zeroCells77 77)
        have hs1 := hb1.size
        go_wp2_with fail
        refine (dens_impl_any s _).mono ?_
        rintro e w2 ⟨u2, rfl, hW, hb2⟩
        replace g0 := g0.on hb2
        replace t0 := t0.trans (hb2.mono t0.size)
        replace hv := hv.on hb2
        replace hW := hW.less (Nat.zero_le _)
        clear hb1 hb2 hs hp h
        obtain ⟨A, c, rfl, hc, hm, -⟩ := hW.form
        have hm' : (wins s).length ≤ 9223372036854775807 := by have := Hlen.out; omega
        go_wp2
        go_loopw [28] (fun iv wr => ∃ k : Nat, k ≤ (wins s).length ∧ iv = .int .i64 k ∧ GB wr w1.heap.size 77 (cellsG (((wins s).take k).filter (dueR (cellsG rs) p))) ∧ RL wr 0 (.slice A (wins s).length c) (wins s) ∧ RL wr 0 v rs ∧ Below w.heap.size w wr) (fun iv _ => (wins s).length - (intOf iv).toNat)
        case atStart => exact ⟨0, Nat.zero_le _, rfl, g0, hW, hv, t0⟩
        case round =>
          obtain ⟨k, hk, rfl, hG, hL, hr0, hb⟩ := hrel
          clear g0 hW hv t0
          by_cases hlt : k < (wins s).length
          · obtain ⟨g, x0, y0, x1, y1, rfl, hr, hg, f0, f1, f2, f3⟩ := hL.elem hlt
            have hok := okAll_at Hok.out hr
            have har := areaR_bounds hok
            have hcb := cover_bounds rs hok
            have hpr := due_prod hp' hok
            have hw1 := Go.IntWalk.i64_in (p * areaR ⟨x0, y0, x1, y1⟩) (by omega)
            have hw2 := Go.IntWalk.i64_in (coverG (cellsG rs) ⟨x0, y0, x1, y1⟩ * 100) (by omega)
            have Hc := Lib.hid (cover_reg Hreg.out hok)
            have zc := (Bk.new wr 32 #[.int .i64 x0, .int .i64 y0, .int .i64 x1, .int .i64 y1]).drew
            have tc := (hb.alloc hb.size (.cells #[.int .i64 x0, .int .i64 y0, .int .i64 x1, .int .i64 y1] 32)).drew
            have r0 := (hr0.alloc (.cells #[.int .i64 x0, .int .i64 y0, .int .i64 x1, .int .i64 y1] 32)).on ((Below.refl _ _).drew)
            have l0 := (hL.alloc (.cells #[.int .i64 x0, .int .i64 y0, .int .i64 x1, .int .i64 y1] 32)).on ((Below.refl _ _).drew)
            have gg := (hG.alloc (.cells #[.int .i64 x0, .int .i64 y0, .int .i64 x1, .int .i64 y1] 32)).drew
            by_cases hd : coverG (cellsG rs) ⟨x0, y0, x1, y1⟩ * 100 < p * areaR ⟨x0, y0, x1, y1⟩
            · have Hn := Lib.hid (due_yes hr hd)
              clear hr
              go_wp2
              go_region_held3 (fun w' => w'.cell? ⟨wr.heap.size, 0, none⟩ = some (.int .i64 x0) ∧ w'.cell? ⟨wr.heap.size, 1, none⟩ = some (.int .i64 y0) ∧ w'.cell? ⟨wr.heap.size, 2, none⟩ = some (.int .i64 x1) ∧ w'.cell? ⟨wr.heap.size, 3, none⟩ = some (.int .i64 y1)) (with_reducible exact box4 zc)
                (first | (go_at_call 73; refine (coveredCells_any v rs ⟨x0, y0, x1, y1⟩ _ r0 hl).mono ?_; rw [← Hc.out]; rintro e w4 ⟨rfl, hb4⟩; have zc := zc.on hb4; have tc := tc.trans (hb4.mono tc.size); have r0 := r0.on hb4; have l0 := l0.on hb4; have gg := gg.on hb4)
                       | (go_at_call 74; refine (area_impl ⟨x0, y0, x1, y1⟩ hok _).mono ?_; rintro e w5 ⟨rfl, hb5⟩; have zc := zc.on hb5; have tc := tc.trans (hb5.mono tc.size); have r0 := r0.on hb5; have l0 := l0.on hb5; have gg := gg.on hb5))
              obtain ⟨e0, e1, e2, e3⟩ := box4 zc
              go_wp2_with fail
              refine (put_any _ _ ⟨x0, y0, x1, y1⟩ _ gg).mono ?_
              rintro e w6 ⟨rfl, hG6, hO6⟩
              go_wp2
              refine ⟨⟨k + 1, by omega, by go_num, hG6.cong Hn.out.symm, put_other l0 gg hO6, put_other r0 gg hO6, only_far tc hO6 tc.size hs1⟩, by simp [intOf]; omega⟩
            · have Hn := Lib.hid (due_no hr hd)
              have hd2 : decide (coverG (cellsG rs) ⟨x0, y0, x1, y1⟩ * 100 < p * areaR ⟨x0, y0, x1, y1⟩) = false := decide_eq_false hd
              clear hr
              go_wp2
              go_region_held3 (fun w' => w'.cell? ⟨wr.heap.size, 0, none⟩ = some (.int .i64 x0) ∧ w'.cell? ⟨wr.heap.size, 1, none⟩ = some (.int .i64 y0) ∧ w'.cell? ⟨wr.heap.size, 2, none⟩ = some (.int .i64 x1) ∧ w'.cell? ⟨wr.heap.size, 3, none⟩ = some (.int .i64 y1)) (with_reducible exact box4 zc)
                (first | (go_at_call 73; refine (coveredCells_any v rs ⟨x0, y0, x1, y1⟩ _ r0 hl).mono ?_; rw [← Hc.out]; rintro e w4 ⟨rfl, hb4⟩; have zc := zc.on hb4; have tc := tc.trans (hb4.mono tc.size); have r0 := r0.on hb4; have l0 := l0.on hb4; have gg := gg.on hb4)
                       | (go_at_call 74; refine (area_impl ⟨x0, y0, x1, y1⟩ hok _).mono ?_; rintro e w5 ⟨rfl, hb5⟩; have zc := zc.on hb5; have tc := tc.trans (hb5.mono tc.size); have r0 := r0.on hb5; have l0 := l0.on hb5; have gg := gg.on hb5))
              go_wp2
              exact ⟨⟨k + 1, by omega, by go_num, gg.cong Hn.out.symm, l0, r0, tc⟩, by simp [intOf]; omega⟩
          · have He := Lib.hid (due_all (G := cellsG rs) (p := p) (l := wins s) (k := k) (by omega))
            go_wp2_with fail
            refine (region_any _ _ _ hG).mono ?_
            rintro e w7 ⟨u7, rfl, hR7, hb7⟩
            go_wp2_with fail
            refine (diff_any u7 v _ rs _ (hR7.less (Nat.zero_le _)) (hr0.on hb7) (isReg_canon _) Hreg.out).mono ?_
            rintro e w8 ⟨u8, rfl, hR8, hb8⟩
            have t7 := hb.trans (hb7.mono hb.size)
            go_wp2
            go_ret
            refine ⟨_, rfl, ?_, t7.trans (hb8.mono t7.size)⟩
            rw [canon_congr (diff_same (cells_canon _)), He.out] at hR8
            exact hR8.less t7.size
      · have hp' : inB 1 p 100 = false := by simpa using hp
        clear hp
        rw [densV_no3 hp']
        go_enter Try.func17, Try.ntmps17
        go_wp2_with fail
        refine (isRegion_any v rs _ hv).mono ?_
        rintro e w1 ⟨rfl, hb1⟩
        rw [h]
        go_wp2_with fail
        refine (within_any _ _ _ _).mono ?_
        rintro e _ ⟨rfl, rfl⟩
        rw [hs]
        go_wp2_with fail
        refine (within_any _ _ _ _).mono ?_
        rintro e _ ⟨rfl, rfl⟩
        rw [hp']
        go_wp2
        go_ret
        exact ⟨_, rfl, RL.nil _ _, hb1⟩
    · have hs' : inB 4 s 40 = false := by simpa using hs
      clear hs
      rw [densV_no2 hs']
      go_enter Try.func17, Try.ntmps17
      go_wp2_with fail
      refine (isRegion_any v rs _ hv).mono ?_
      rintro e w1 ⟨rfl, hb1⟩
      rw [h]
      go_wp2_with fail
      refine (within_any _ _ _ _).mono ?_
      rintro e _ ⟨rfl, rfl⟩
      rw [hs']
      go_wp2
      go_ret
      exact ⟨_, rfl, RL.nil _ _, hb1⟩
  · have h' : isReg rs = false := by simpa using h
    clear h
    rw [densV_no1 h']
    go_enter Try.func17, Try.ntmps17
    go_wp2_with fail
    refine (isRegion_any v rs _ hv).mono ?_
    rintro e w1 ⟨rfl, hb1⟩
    rw [h']
    go_wp2
    go_ret
    exact ⟨_, rfl, RL.nil _ _, hb1⟩

end Go.Proofs.Ytooglkdloaaomaa
