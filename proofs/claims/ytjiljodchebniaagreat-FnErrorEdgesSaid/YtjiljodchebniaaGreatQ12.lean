/- The windows of a side: the program's DensityWindows and the reference's return the same list. No conditions. Contracts: MarkDensity of the reference and of the program. No conditions. Plain mathematics: the windows of a side divide the chip; what the markers of a density rule cover of each. No conditions. -/
import Derived.Test.YtjiljodchebniaaGreatQ02
import Derived.Test.YtjiljodchebniaaGreatQ05
import Derived.Test.YtjiljodchebniaaGreatQ06
import Derived.Test.YtjiljodchebniaaGreatQ01

namespace Go.Proofs.YtjiljodchebniaaGreat
open Go.RowKit

set_option maxHeartbeats 400000 in
theorem dens_impl (s : Int) (h1 : 4 ≤ s) (h2 : s ≤ 40) (w : World) : Calls Tryz.prog 119 #[.int .i64 s] w fun e w' => ∃ v, e = .returned v ∧ RL w' w.heap.size v (winY s (-40)) ∧ Below w.heap.size w w' := by
  have hin : inB 4 s 40 = true := (inB_iff _ _ _).2 ⟨h1, h2⟩
  have Hlen := Lib.hid (winY_length s)
  have hown0 : RL (w.alloc (.cells #[] 75)) w.heap.size (.slice (some ⟨w.heap.size, 0, none⟩) 0 0) [] := World.ownsRow_lit w #[] 0 (Nat.le_refl _) (by simp [maxLen]) rfl
  have hb0 : Below w.heap.size w (w.alloc (.cells #[] 75)) := (Below.refl _ _).alloc (Nat.le_refl _) _
  go_enter Tryz.func119, Tryz.ntmps119
  go_wp2_with (go_at_call 23; refine (within_any _ _ _ _).mono ?_; rintro e w' ⟨rfl, rfl⟩)
  clear hin
  go_loopw [3, 4] (fun out yv wr => ∃ (y : Int) (rs : List Rc), -40 ≤ y ∧ y ≤ 80 ∧ yv = .int .i64 y ∧ RL wr w.heap.size out rs ∧ Hid (rs ++ winY s y = winY s (-40)) ∧ Below w.heap.size w wr) (fun _ yv _ => (40 - intOf yv).toNat)
  case atStart => exact ⟨-40, [], by omega, by omega, rfl, hown0, Lib.hid rfl, hb0⟩
  case round =>
    obtain ⟨y, rs, hy0, hy1, rfl, hown, hrs, hb⟩ := hrel
    clear hown0 hb0
    by_cases hy : y < 40
    · go_wp2
      go_loopw [3, 5] (fun out xv wi => ∃ (x : Int) (qs : List Rc), -40 ≤ x ∧ x ≤ 80 ∧ xv = .int .i64 x ∧ RL wi w.heap.size out qs ∧ Hid (qs ++ (winX s y x ++ winY s (y + s)) = winY s (-40)) ∧ Below w.heap.size w wi) (fun _ xv _ => (40 - intOf xv).toNat)
      case atStart => exact ⟨-40, rs, by omega, by omega, rfl, hown, Lib.hid (by rw [← winY_step s y (by omega) hy]; exact hrs.out), hb⟩
      case round =>
        obtain ⟨x, qs, hx0, hx1, rfl, hown', hqs, hb'⟩ := hrel
        have hl : qs.length ≤ 1000000 := Nat.le_trans (part_len hqs.out Hlen.out) (by omega)
        have hB := hb'.size
        by_cases hx : x < 40
        · go_wp2_with (at_builtin; refine wpList_append_R rfl (.tmp 20) (.tmp 32) rfl w.heap.size _ qs rfl hown' _ _ _ _ rfl hl hB ?_)
          all_goals
            intro v1 w1 ho1 hg1 hb1
            go_wp2
            refine ⟨⟨x + s, _, by omega, by omega, rfl, ho1, Lib.hid ?_, hb'.trans hb1⟩, by simp [intOf]; omega⟩
            rw [← hqs.out, winX_step' (by omega) hx ?_ ?_, List.append_assoc, List.append_assoc]
            all_goals omega
        · go_wp2
          refine ⟨⟨y + s, qs, by omega, by omega, rfl, hown', Lib.hid ?_, hb'⟩, by simp [intOf]; omega⟩
          rw [← hqs.out, winX_stop s y x (by omega), List.nil_append]
    · go_wp2
      go_ret
      refine ⟨_, rfl, ?_, hb⟩
      rw [← hrs.out, winY_stop s y (by omega), List.append_nil]
      exact hown

theorem dens_impl_no (s : Int) (h : ¬ (4 ≤ s ∧ s ≤ 40)) (w : World) : Calls Tryz.prog 119 #[.int .i64 s] w fun e w' => ∃ v, e = .returned v ∧ RL w' w.heap.size v [] ∧ Below w.heap.size w w' := by
  have hin : inB 4 s 40 = false := (inB_no _ _ _).2 h
  go_enter Tryz.func119, Tryz.ntmps119
  go_wp2_with (go_at_call 23; refine (within_any _ _ _ _).mono ?_; rintro e w' ⟨rfl, rfl⟩)
  go_ret
  exact ⟨_, rfl, RL.nil _ _, Below.refl _ _⟩

/-- The program's DensityWindows. -/
theorem dens_impl_any (s : Int) (w : World) : Calls Tryz.prog 119 #[.int .i64 s] w fun e w' => ∃ v, e = .returned v ∧ RL w' w.heap.size v (wins s) ∧ Below w.heap.size w w' := by
  by_cases h : 4 ≤ s ∧ s ≤ 40
  · unfold wins
    rw [if_pos h]
    exact dens_impl s h.1 h.2 w
  · unfold wins
    rw [if_neg h]
    exact dens_impl_no s h w

end Go.Proofs.YtjiljodchebniaaGreat

namespace Go.Proofs.YtjiljodchebniaaGreat
open Go.RowKit

theorem winX_ok (s y : Int) (hs : 0 < s) (hy : -40 ≤ y ∧ y < 40) : ∀ (n : Nat) (x : Int), 40 - x ≤ (n : Int) → -40 ≤ x → ∀ r ∈ winX s y x, okRc r = true := by
  intro n
  induction n with
  | zero => intro x h _ r hr; rw [winX_stop s y x (by omega)] at hr; cases hr
  | succ n ih =>
    intro x h hx r hr
    by_cases hx4 : x < 40
    · rw [winX_step s y x hs hx4] at hr
      rcases List.mem_append.1 hr with hr | hr
      · rw [List.mem_singleton] at hr
        subst hr
        rw [okRc_iff]
        dsimp only
        omega
      · exact ih (x + s) (by omega) (by omega) r hr
    · rw [winX_stop s y x (by omega)] at hr; cases hr
theorem winY_ok (s : Int) (hs : 0 < s) : ∀ (n : Nat) (y : Int), 40 - y ≤ (n : Int) → -40 ≤ y → ∀ r ∈ winY s y, okRc r = true := by
  intro n
  induction n with
  | zero => intro y h _ r hr; rw [winY_stop s y (by omega)] at hr; cases hr
  | succ n ih =>
    intro y h hy r hr
    by_cases hy4 : y < 40
    · rw [winY_step s y hs hy4] at hr
      rcases List.mem_append.1 hr with hr | hr
      · exact winX_ok s y hs ⟨hy, hy4⟩ 80 (-40) (by omega) (by omega) r hr
      · exact ih (y + s) (by omega) (by omega) r hr
    · rw [winY_stop s y (by omega)] at hr; cases hr
theorem wins_ok (s : Int) : okAll (wins s) = true := by
  rw [okAll, List.all_eq_true]
  intro r hr
  unfold wins at hr
  split at hr
  · exact winY_ok s (by omega) 80 (-40) (by omega) (by omega) r hr
  · cases hr
theorem wins_length (s : Int) : (wins s).length ≤ 6400 := by
  unfold wins
  split
  · exact winY_length s
  · simp
/-- A window is not covered enough. -/
def dueR (G : Gr) (p : Int) (r : Rc) : Bool := decide (coverG G r * 100 < p * areaR r)
/-- The windows that are not covered enough. -/
def dueL (G : Gr) (s p : Int) : List Rc := (wins s).filter (dueR G p)
/-- The markers of a density rule. -/
def densV (rs : List Rc) (s p : Int) : List Rc := if isReg rs = true ∧ inB 4 s 40 = true ∧ inB 1 p 100 = true then canon (diffG (cellsG (dueL (cellsG rs) s p)) (cellsG rs)) else []
theorem densV_yes {rs : List Rc} {s p : Int} (h : isReg rs = true) (hs : inB 4 s 40 = true) (hp : inB 1 p 100 = true) : densV rs s p = canon (diffG (cellsG (dueL (cellsG rs) s p)) (cellsG rs)) := if_pos ⟨h, hs, hp⟩
theorem densV_no1 {rs : List Rc} {s p : Int} (h : isReg rs = false) : densV rs s p = [] := if_neg (by rw [h]; simp)
theorem densV_no2 {rs : List Rc} {s p : Int} (h : inB 4 s 40 = false) : densV rs s p = [] := if_neg (by rw [h]; simp)
theorem densV_no3 {rs : List Rc} {s p : Int} (h : inB 1 p 100 = false) : densV rs s p = [] := if_neg (by rw [h]; simp)
theorem densV_length (rs : List Rc) (s p : Int) : (densV rs s p).length ≤ 1000000 := by
  unfold densV
  split
  · exact Nat.le_trans (canon_few _) (by omega)
  · simp
theorem due_nil (G : Gr) (p : Int) (l : List Rc) : cellsG ((l.take 0).filter (dueR G p)) = emptyG := rfl
theorem due_yes {G : Gr} {p : Int} {l : List Rc} {k : Nat} {r : Rc} (h : l[k]? = some r) (hd : coverG G r * 100 < p * areaR r) : cellsG ((l.take (k + 1)).filter (dueR G p)) = orR (cellsG ((l.take k).filter (dueR G p))) r := by
  rw [filter_yes h (decide_eq_true hd), cellsG_snoc]
theorem due_no {G : Gr} {p : Int} {l : List Rc} {k : Nat} {r : Rc} (h : l[k]? = some r) (hd : ¬ coverG G r * 100 < p * areaR r) : cellsG ((l.take (k + 1)).filter (dueR G p)) = cellsG ((l.take k).filter (dueR G p)) := by
  rw [filter_no h (decide_eq_false hd)]
theorem due_all {G : Gr} {p : Int} {l : List Rc} {k : Nat} (h : l.length ≤ k) : cellsG ((l.take k).filter (dueR G p)) = cellsG (l.filter (dueR G p)) := by rw [List.take_of_length_le h]
theorem cover_bounds (rs : List Rc) {b : Rc} (hb : okRc b = true) : 0 ≤ coverG (cellsG rs) b ∧ coverG (cellsG rs) b ≤ 10000 := by
  have h1 := gotC_bounds (cellsG rs) hb (m := (b.y1 - b.y0).toNat) (k := 0) (by have := (okRc_iff b).1 hb; omega) (by omega)
  rw [gotC_all rfl] at h1
  exact h1
theorem due_prod {p : Int} (hp : 1 ≤ p ∧ p ≤ 100) {r : Rc} (h : okRc r = true) : 0 ≤ p * areaR r ∧ p * areaR r ≤ 640000 := by
  have h1 := areaR_bounds h
  constructor
  · exact Int.mul_nonneg (by omega) (by omega)
  · have := Int.mul_le_mul hp.2 h1.2 (by omega) (by omega)
    omega
theorem put_other {w w' : World} {g B : Nat} {v : Value} {rs : List Rc} {G : Gr} (hR : RL w B v rs) (hG : GB w g 89 G) (hg : w.grownBy w' (some g)) : RL w' B v rs := by
  obtain ⟨cs, hb, _⟩ := hG
  refine World.ownsRow.kept hR hg ?_
  right
  intro he
  exact hb.apart' hR (by decide) he.symm

set_option maxHeartbeats 1600000 in
set_option maxRecDepth 100000 in
theorem markd_impl (v : Value) (rs : List Rc) (s p : Int) (w : World) (hv : RL w 0 v rs) : Calls Tryz.prog 88 #[v, .int .i64 s, .int .i64 p] w fun e w' => ∃ u, e = .returned u ∧ RL w' w.heap.size u (densV rs s p) ∧ Below w.heap.size w w' := by
  by_cases h : isReg rs = true
  · by_cases hs : inB 4 s 40 = true
    · by_cases hp : inB 1 p 100 = true
      · rw [densV_yes h hs hp]
        have hp' := (inB_iff _ _ _).1 hp
        have Hreg := Lib.hid h
        have hl := Nat.le_trans ((isReg_iff rs).1 h).1 (show 3200 ≤ 100000 by omega)
        have Hok := Lib.hid (wins_ok s)
        have Hlen := Lib.hid (wins_length s)
        go_enter Tryz.func88, Tryz.ntmps88
        go_wp2_with fail
        refine (isRegion_any v rs _ hv).mono ?_
        rintro e w1 ⟨rfl, hb1⟩
        rw [h]
        replace hv := hv.on hb1
        go_wp2_with fail
        refine (within_any _ _ _ _).mono ?_
        rintro e _ ⟨rfl, rfl⟩
        rw [hs]
        go_wp2_with fail
        refine (within_any _ _ _ _).mono ?_
        rintro e _ ⟨rfl, rfl⟩
        rw [hp]
        have g0 := GB.zero w1 89
        have t0 := hb1.alloc hb1.size (.cells Tryz.zeroCells89 89)
        replace hv := hv.alloc (.cells Tryz.zeroCells89 89)
        have hs1 := hb1.size
        go_wp2_with fail
        refine (dens_impl_any s _).mono ?_
        rintro e w2 ⟨u2, rfl, hW, hb2⟩
        replace g0 := g0.on hb2
        replace t0 := t0.trans (hb2.mono t0.size)
        replace hv := hv.on hb2
        replace hW := hW.less (Nat.zero_le _)
        clear hb1 hb2 hs hp h
        obtain ⟨A, c, rfl, hc, hm, -⟩ := hW.form
        have hm' : (wins s).length ≤ 9223372036854775807 := by have := Hlen.out; omega
        go_wp2
        go_loopw [28] (fun iv wr => ∃ k : Nat, k ≤ (wins s).length ∧ iv = .int .i64 k ∧ GB wr w1.heap.size 89 (cellsG (((wins s).take k).filter (dueR (cellsG rs) p))) ∧ RL wr 0 (.slice A (wins s).length c) (wins s) ∧ RL wr 0 v rs ∧ Below w.heap.size w wr) (fun iv _ => (wins s).length - (intOf iv).toNat)
        case atStart => exact ⟨0, Nat.zero_le _, rfl, g0, hW, hv, t0⟩
        case round =>
          obtain ⟨k, hk, rfl, hG, hL, hr0, hb⟩ := hrel
          clear g0 hW hv t0
          by_cases hlt : k < (wins s).length
          · obtain ⟨g, x0, y0, x1, y1, rfl, hr, hg, f0, f1, f2, f3⟩ := hL.elem hlt
            have hok := okAll_at Hok.out hr
            have har := areaR_bounds hok
            have hcb := cover_bounds rs hok
            have hpr := due_prod hp' hok
            have hw1 := Go.IntWalk.i64_in (p * areaR ⟨x0, y0, x1, y1⟩) (by omega)
            have hw2 := Go.IntWalk.i64_in (coverG (cellsG rs) ⟨x0, y0, x1, y1⟩ * 100) (by omega)
            have Hc := Lib.hid (cover_reg Hreg.out hok)
            have zc := (Bk.new wr 75 #[.int .i64 x0, .int .i64 y0, .int .i64 x1, .int .i64 y1]).drew
            have tc := (hb.alloc hb.size (.cells #[.int .i64 x0, .int .i64 y0, .int .i64 x1, .int .i64 y1] 75)).drew
            have r0 := (hr0.alloc (.cells #[.int .i64 x0, .int .i64 y0, .int .i64 x1, .int .i64 y1] 75)).on ((Below.refl _ _).drew)
            have l0 := (hL.alloc (.cells #[.int .i64 x0, .int .i64 y0, .int .i64 x1, .int .i64 y1] 75)).on ((Below.refl _ _).drew)
            have gg := (hG.alloc (.cells #[.int .i64 x0, .int .i64 y0, .int .i64 x1, .int .i64 y1] 75)).drew
            by_cases hd : coverG (cellsG rs) ⟨x0, y0, x1, y1⟩ * 100 < p * areaR ⟨x0, y0, x1, y1⟩
            · have Hn := Lib.hid (due_yes hr hd)
              clear hr
              go_wp2
              go_region_held3 (fun w' => w'.cell? ⟨wr.heap.size, 0, none⟩ = some (.int .i64 x0) ∧ w'.cell? ⟨wr.heap.size, 1, none⟩ = some (.int .i64 y0) ∧ w'.cell? ⟨wr.heap.size, 2, none⟩ = some (.int .i64 x1) ∧ w'.cell? ⟨wr.heap.size, 3, none⟩ = some (.int .i64 y1)) (with_reducible exact box4 zc)
                (first | (go_at_call 120; refine (coveredCells_any v rs ⟨x0, y0, x1, y1⟩ _ r0 hl).mono ?_; rw [← Hc.out]; rintro e w4 ⟨rfl, hb4⟩; have zc := zc.on hb4; have tc := tc.trans (hb4.mono tc.size); have r0 := r0.on hb4; have l0 := l0.on hb4; have gg := gg.on hb4)
                       | (go_at_call 121; refine (area_impl ⟨x0, y0, x1, y1⟩ hok _).mono ?_; rintro e w5 ⟨rfl, hb5⟩; have zc := zc.on hb5; have tc := tc.trans (hb5.mono tc.size); have r0 := r0.on hb5; have l0 := l0.on hb5; have gg := gg.on hb5))
              obtain ⟨e0, e1, e2, e3⟩ := box4 zc
              go_wp2_with fail
              refine (put_any _ _ ⟨x0, y0, x1, y1⟩ _ gg).mono ?_
              rintro e w6 ⟨rfl, hG6, hO6⟩
              go_wp2
              refine ⟨⟨k + 1, by omega, by go_num, hG6.cong Hn.out.symm, put_other l0 gg hO6, put_other r0 gg hO6, only_far tc hO6 tc.size hs1⟩, by simp [intOf]; omega⟩
            · have Hn := Lib.hid (due_no hr hd)
              have hd2 : decide (coverG (cellsG rs) ⟨x0, y0, x1, y1⟩ * 100 < p * areaR ⟨x0, y0, x1, y1⟩) = false := decide_eq_false hd
              clear hr
              go_wp2
              go_region_held3 (fun w' => w'.cell? ⟨wr.heap.size, 0, none⟩ = some (.int .i64 x0) ∧ w'.cell? ⟨wr.heap.size, 1, none⟩ = some (.int .i64 y0) ∧ w'.cell? ⟨wr.heap.size, 2, none⟩ = some (.int .i64 x1) ∧ w'.cell? ⟨wr.heap.size, 3, none⟩ = some (.int .i64 y1)) (with_reducible exact box4 zc)
                (first | (go_at_call 120; refine (coveredCells_any v rs ⟨x0, y0, x1, y1⟩ _ r0 hl).mono ?_; rw [← Hc.out]; rintro e w4 ⟨rfl, hb4⟩; have zc := zc.on hb4; have tc := tc.trans (hb4.mono tc.size); have r0 := r0.on hb4; have l0 := l0.on hb4; have gg := gg.on hb4)
                       | (go_at_call 121; refine (area_impl ⟨x0, y0, x1, y1⟩ hok _).mono ?_; rintro e w5 ⟨rfl, hb5⟩; have zc := zc.on hb5; have tc := tc.trans (hb5.mono tc.size); have r0 := r0.on hb5; have l0 := l0.on hb5; have gg := gg.on hb5))
              go_wp2
              exact ⟨⟨k + 1, by omega, by go_num, gg.cong Hn.out.symm, l0, r0, tc⟩, by simp [intOf]; omega⟩
          · have He := Lib.hid (due_all (G := cellsG rs) (p := p) (l := wins s) (k := k) (by omega))
            go_wp2_with fail
            refine (region_any _ _ _ hG).mono ?_
            rintro e w7 ⟨u7, rfl, hR7, hb7⟩
            go_wp2_with fail
            refine (diff_any u7 v _ rs _ (hR7.less (Nat.zero_le _)) (hr0.on hb7) (isReg_canon _) Hreg.out).mono ?_
            rintro e w8 ⟨u8, rfl, hR8, hb8⟩
            have t7 := hb.trans (hb7.mono hb.size)
            go_wp2
            go_ret
            refine ⟨_, rfl, ?_, t7.trans (hb8.mono t7.size)⟩
            rw [canon_congr (diff_same (cells_canon _)), He.out] at hR8
            exact hR8.less t7.size
      · have hp' : inB 1 p 100 = false := by simpa using hp
        clear hp
        rw [densV_no3 hp']
        go_enter Tryz.func88, Tryz.ntmps88
        go_wp2_with fail
        refine (isRegion_any v rs _ hv).mono ?_
        rintro e w1 ⟨rfl, hb1⟩
        rw [h]
        go_wp2_with fail
        refine (within_any _ _ _ _).mono ?_
        rintro e _ ⟨rfl, rfl⟩
        rw [hs]
        go_wp2_with fail
        refine (within_any _ _ _ _).mono ?_
        rintro e _ ⟨rfl, rfl⟩
        rw [hp']
        go_wp2
        go_ret
        exact ⟨_, rfl, RL.nil _ _, hb1⟩
    · have hs' : inB 4 s 40 = false := by simpa using hs
      clear hs
      rw [densV_no2 hs']
      go_enter Tryz.func88, Tryz.ntmps88
      go_wp2_with fail
      refine (isRegion_any v rs _ hv).mono ?_
      rintro e w1 ⟨rfl, hb1⟩
      rw [h]
      go_wp2_with fail
      refine (within_any _ _ _ _).mono ?_
      rintro e _ ⟨rfl, rfl⟩
      rw [hs']
      go_wp2
      go_ret
      exact ⟨_, rfl, RL.nil _ _, hb1⟩
  · have h' : isReg rs = false := by simpa using h
    clear h
    rw [densV_no1 h']
    go_enter Tryz.func88, Tryz.ntmps88
    go_wp2_with fail
    refine (isRegion_any v rs _ hv).mono ?_
    rintro e w1 ⟨rfl, hb1⟩
    rw [h']
    go_wp2
    go_ret
    exact ⟨_, rfl, RL.nil _ _, hb1⟩

end Go.Proofs.YtjiljodchebniaaGreat

namespace Go.Proofs.YtjiljodchebniaaGreat
open Go.RowKit

theorem sumI_split (f : Int → Int) (a : Int) (n : Nat) : ∀ m : Nat, sumI f a (n + m) = sumI f a n + sumI f (a + n) m
  | 0 => by simp [sumI]
  | m + 1 => by
    have e : a + (((n + m : Nat) : Nat) : Int) = a + n + m := by omega
    rw [← Nat.add_assoc, sumI, sumI_split f a n m, sumI, e]
    omega
theorem boxC_splitY (F : Nat → Int) (x0 y0 : Int) (n m1 m2 : Nat) : boxC F x0 y0 n (m1 + m2) = boxC F x0 y0 n m1 + boxC F x0 (y0 + m1) n m2 := sumI_split _ _ _ _
theorem boxC_splitX (F : Nat → Int) (x0 y0 : Int) (n1 n2 m : Nat) : boxC F x0 y0 (n1 + n2) m = boxC F x0 y0 n1 m + boxC F (x0 + n1) y0 n2 m := by
  unfold boxC
  rw [← sumI_add]
  exact sumI_congr m fun y _ _ => sumI_split _ _ _ _
/-- Two counts that agree on the cells of the box. -/
theorem box_congr {F H : Nat → Int} {b : Rc} (hb : okRc b = true) (h : ∀ i, i < 6400 → inR b i = true → F i = H i) : boxC F b.x0 b.y0 (b.x1 - b.x0).toNat (b.y1 - b.y0).toNat = boxC H b.x0 b.y0 (b.x1 - b.x0).toNat (b.y1 - b.y0).toNat := by
  rw [okRc_iff] at hb
  unfold boxC rowC
  refine sumI_congr _ fun y h1 h2 => sumI_congr _ fun x h3 h4 => h _ ?_ ?_
  · unfold ix
    omega
  · rw [inR_iff]
    unfold ix
    omega
theorem sumI_const (a k : Int) : ∀ n : Nat, sumI (fun _ => k) a n = k * n
  | 0 => by simp [sumI]
  | n + 1 => by simp only [sumI, sumI_const a k n, Int.natCast_add, Int.mul_add]; simp
theorem box_one {b : Rc} (hb : okRc b = true) : boxC (fun _ => 1) b.x0 b.y0 (b.x1 - b.x0).toNat (b.y1 - b.y0).toNat = areaR b := by
  rw [okRc_iff] at hb
  unfold boxC rowC areaR
  have e : ∀ y : Int, sumI (fun x => (fun _ : Nat => (1 : Int)) (ix x y).toNat) b.x0 (b.x1 - b.x0).toNat = ((b.x1 - b.x0).toNat : Int) := fun y => by
    have := sumI_const b.x0 1 (b.x1 - b.x0).toNat
    rw [Int.one_mul] at this
    exact this
  have e2 : ((b.x1 - b.x0).toNat : Int) = b.x1 - b.x0 := by omega
  have e3 : ((b.y1 - b.y0).toNat : Int) = b.y1 - b.y0 := by omega
  calc sumI (fun y => sumI (fun x => (fun _ : Nat => (1 : Int)) (ix x y).toNat) b.x0 (b.x1 - b.x0).toNat) b.y0 (b.y1 - b.y0).toNat
      = sumI (fun _ => b.x1 - b.x0) b.y0 (b.y1 - b.y0).toNat := sumI_congr _ fun y _ _ => (e y).trans e2
    _ = (b.x1 - b.x0) * ((b.y1 - b.y0).toNat : Int) := sumI_const _ _ _
    _ = (b.x1 - b.x0) * (b.y1 - b.y0) := by rw [e3]

/-! ## A sum over a list -/

def sumF (f : Rc → Int) : List Rc → Int
  | [] => 0
  | r :: rs => f r + sumF f rs
theorem sumF_append (f : Rc → Int) : ∀ a b : List Rc, sumF f (a ++ b) = sumF f a + sumF f b
  | [], b => by simp [sumF]
  | r :: a, b => by simp only [List.cons_append, sumF, sumF_append f a b]; omega
theorem sumF_step (f : Rc → Int) {rs : List Rc} {k : Nat} {r : Rc} (h : rs[k]? = some r) : sumF f (rs.take (k + 1)) = sumF f (rs.take k) + f r := by
  rw [List.take_add_one, h, Option.toList, sumF_append]
  simp [sumF]
theorem sumF_le {f : Rc → Int} {m : Int} (hm : 0 ≤ m) : ∀ {rs : List Rc}, (∀ r ∈ rs, 0 ≤ f r ∧ f r ≤ m) → 0 ≤ sumF f rs ∧ sumF f rs ≤ m * rs.length
  | [], _ => by simp [sumF]
  | r :: rs, h => by
    have h1 := h r (by simp)
    have h2 := sumF_le hm (rs := rs) fun q hq => h q (by simp [hq])
    rw [sumF, List.length_cons, Int.natCast_add, Int.mul_add]
    have e : m * ((1 : Nat) : Int) = m := by simp
    omega
theorem sumF_area (rs : List Rc) : sumF areaR rs = sumA rs := by
  induction rs with
  | nil => rfl
  | cons r rs ih => rw [sumF, sumA, ih]

/-! ## The windows -/

theorem sum_winX (F : Nat → Int) {s y : Int} (hs : 0 < s) : ∀ (n : Nat) (x : Int), 40 - x ≤ (n : Int) → -40 ≤ x →
    sumF (fun b => boxC F b.x0 b.y0 (b.x1 - b.x0).toNat (b.y1 - b.y0).toNat) (winX s y x) = boxC F x y (40 - x).toNat (min (y + s) 40 - y).toNat := by
  intro n
  induction n with
  | zero =>
    intro x hx _
    have e : (40 - x).toNat = 0 := by omega
    rw [winX_stop s y x (by omega), e, sumF]
    unfold boxC rowC
    exact (sumI_zero _ _).symm
  | succ n ih =>
    intro x hx h40
    by_cases hx4 : x < 40
    · rw [winX_step s y x hs hx4, sumF_append, ih (x + s) (by omega) (by omega)]
      simp only [sumF]
      by_cases hc : x + s ≤ 40
      · have e1 : (40 - x).toNat = (min (x + s) 40 - x).toNat + (40 - (x + s)).toNat := by omega
        have e2 : x + (((min (x + s) 40 - x).toNat : Nat) : Int) = x + s := by omega
        rw [e1, boxC_splitX, e2]
        omega
      · have e1 : (40 - x).toNat = (min (x + s) 40 - x).toNat := by omega
        have e3 : (40 - (x + s)).toNat = 0 := by omega
        rw [e1, e3]
        have e4 : boxC F (x + s) y 0 (min (y + s) 40 - y).toNat = 0 := by unfold boxC rowC; exact sumI_zero _ _
        rw [e4]
        omega
    · have e : (40 - x).toNat = 0 := by omega
      rw [winX_stop s y x (by omega), e, sumF]
      unfold boxC rowC
      exact (sumI_zero _ _).symm
theorem sum_winY (F : Nat → Int) {s : Int} (hs : 0 < s) : ∀ (n : Nat) (y : Int), 40 - y ≤ (n : Int) → -40 ≤ y →
    sumF (fun b => boxC F b.x0 b.y0 (b.x1 - b.x0).toNat (b.y1 - b.y0).toNat) (winY s y) = boxC F (-40) y 80 (40 - y).toNat := by
  intro n
  induction n with
  | zero =>
    intro y hy _
    have e : (40 - y).toNat = 0 := by omega
    rw [winY_stop s y (by omega), e, sumF]
    rfl
  | succ n ih =>
    intro y hy h40
    by_cases hy4 : y < 40
    · rw [winY_step s y hs hy4, sumF_append, ih (y + s) (by omega) (by omega), sum_winX F hs 80 (-40) (by omega) (by omega)]
      by_cases hc : y + s ≤ 40
      · have e1 : (40 - y).toNat = (min (y + s) 40 - y).toNat + (40 - (y + s)).toNat := by omega
        have e2 : y + (((min (y + s) 40 - y).toNat : Nat) : Int) = y + s := by omega
        rw [e1, boxC_splitY, e2]
        rfl
      · have e1 : (40 - y).toNat = (min (y + s) 40 - y).toNat := by omega
        have e3 : (40 - (y + s)).toNat = 0 := by omega
        rw [e1, e3]
        exact Int.add_zero _
    · have e : (40 - y).toNat = 0 := by omega
      rw [winY_stop s y (by omega), e, sumF]
      rfl
theorem sum_cover (G : Gr) {s : Int} (h : 4 ≤ s ∧ s ≤ 40) : sumF (coverG G) (wins s) = countG G := by
  unfold wins
  rw [if_pos h]
  exact sum_winY (oneG G) (by omega) 80 (-40) (by omega) (by omega)
theorem sum_area {s : Int} (h : 4 ≤ s ∧ s ≤ 40) : sumF areaR (wins s) = 6400 := by
  have key : ∀ l : List Rc, okAll l = true → sumF areaR l = sumF (fun b => boxC (fun _ => 1) b.x0 b.y0 (b.x1 - b.x0).toNat (b.y1 - b.y0).toNat) l := by
    intro l
    induction l with
    | nil => intro _; rfl
    | cons r rs ih =>
      intro hok
      have h1 : okRc r = true ∧ okAll rs = true := by simpa [okAll] using hok
      rw [sumF, sumF, ih h1.2, box_one h1.1]
  rw [key _ (wins_ok s)]
  unfold wins
  rw [if_pos h, sum_winY (fun _ => 1) (by omega) 80 (-40) (by omega) (by omega)]
  have e := box_one fullR_ok
  have e2 : areaR fullR = 6400 := by decide
  rw [e2] at e
  exact e

/-! ## The windows lie apart -/

def apartR (a b : Rc) : Prop := a.x1 ≤ b.x0 ∨ a.y1 ≤ b.y0
theorem winX_ge (s y : Int) (hs : 0 < s) : ∀ (n : Nat) (x : Int), 40 - x ≤ (n : Int) → ∀ r ∈ winX s y x, x ≤ r.x0 ∧ r.y0 = y ∧ r.y1 ≤ y + s := by
  intro n
  induction n with
  | zero => intro x h r hr; rw [winX_stop s y x (by omega)] at hr; cases hr
  | succ n ih =>
    intro x h r hr
    by_cases hx4 : x < 40
    · rw [winX_step s y x hs hx4] at hr
      rcases List.mem_append.1 hr with hr | hr
      · rw [List.mem_singleton] at hr
        subst hr
        dsimp only
        omega
      · have := ih (x + s) (by omega) r hr
        omega
    · rw [winX_stop s y x (by omega)] at hr; cases hr
theorem winX_apart (s y : Int) (hs : 0 < s) : ∀ (n : Nat) (x : Int), 40 - x ≤ (n : Int) → (winX s y x).Pairwise apartR := by
  intro n
  induction n with
  | zero => intro x h; rw [winX_stop s y x (by omega)]; exact List.Pairwise.nil
  | succ n ih =>
    intro x h
    by_cases hx4 : x < 40
    · rw [winX_step s y x hs hx4, List.singleton_append, List.pairwise_cons]
      refine ⟨fun r hr => ?_, ih (x + s) (by omega)⟩
      have := winX_ge s y hs n (x + s) (by omega) r hr
      left
      dsimp only
      omega
    · rw [winX_stop s y x (by omega)]; exact List.Pairwise.nil
theorem winY_ge (s : Int) (hs : 0 < s) : ∀ (n : Nat) (y : Int), 40 - y ≤ (n : Int) → ∀ r ∈ winY s y, y ≤ r.y0 := by
  intro n
  induction n with
  | zero => intro y h r hr; rw [winY_stop s y (by omega)] at hr; cases hr
  | succ n ih =>
    intro y h r hr
    by_cases hy4 : y < 40
    · rw [winY_step s y hs hy4] at hr
      rcases List.mem_append.1 hr with hr | hr
      · have := winX_ge s y hs 80 (-40) (by omega) r hr
        omega
      · have := ih (y + s) (by omega) r hr
        omega
    · rw [winY_stop s y (by omega)] at hr; cases hr
theorem winY_apart (s : Int) (hs : 0 < s) : ∀ (n : Nat) (y : Int), 40 - y ≤ (n : Int) → (winY s y).Pairwise apartR := by
  intro n
  induction n with
  | zero => intro y h; rw [winY_stop s y (by omega)]; exact List.Pairwise.nil
  | succ n ih =>
    intro y h
    by_cases hy4 : y < 40
    · rw [winY_step s y hs hy4, List.pairwise_append]
      refine ⟨winX_apart s y hs 80 (-40) (by omega), ih (y + s) (by omega), fun a ha b hb => ?_⟩
      have h1 := winX_ge s y hs 80 (-40) (by omega) a ha
      have h2 := winY_ge s hs n (y + s) (by omega) b hb
      right
      omega
    · rw [winY_stop s y (by omega)]; exact List.Pairwise.nil
theorem wins_one {s : Int} {a b : Rc} (ha : a ∈ wins s) (hb : b ∈ wins s) {i : Nat} (h1 : inR a i = true) (h2 : inR b i = true) : a = b := by
  unfold wins at ha hb
  split at ha
  · rename_i hs
    rw [if_pos hs] at hb
    obtain ⟨m, hm, rfl⟩ := List.mem_iff_getElem.1 ha
    obtain ⟨n, hn, rfl⟩ := List.mem_iff_getElem.1 hb
    have hp := winY_apart s (by omega) 80 (-40) (by omega)
    rw [List.pairwise_iff_getElem] at hp
    rw [inR_iff] at h1 h2
    rcases Nat.lt_trichotomy m n with h | h | h
    · have := hp m n hm hn h
      unfold apartR at this
      omega
    · subst h; rfl
    · have := hp n m hn hm h
      unfold apartR at this
      omega
  · cases ha
/-- What the markers of a density rule cover of a window. -/
theorem due_cover {G : Gr} {s p : Int} {r : Rc} (hr : r ∈ wins s) : coverG (cellsG (canon (diffG (cellsG (dueL G s p)) G))) r = if coverG G r * 100 < p * areaR r then areaR r - coverG G r else 0 := by
  have hok : okRc r = true := by
    have := wins_ok s
    rw [okAll, List.all_eq_true] at this
    exact this r hr
  have key : ∀ i, i < 6400 → inR r i = true → cellsG (canon (diffG (cellsG (dueL G s p)) G)) i = (dueR G p r && !G i) := by
    intro i hi h1
    rw [cells_canon _ i hi]
    unfold diffG
    congr 1
    rw [Bool.eq_iff_iff, cellsG_iff]
    unfold dueL
    constructor
    · rintro ⟨q, hq, h2⟩
      rw [List.mem_filter] at hq
      have e := wins_one hr hq.1 h1 h2
      rw [e]
      exact hq.2
    · intro hd
      exact ⟨r, List.mem_filter.2 ⟨hr, hd⟩, h1⟩
  by_cases hd : coverG G r * 100 < p * areaR r
  · have hd' : dueR G p r = true := decide_eq_true hd
    rw [if_pos hd]
    have e1 : coverG (cellsG (canon (diffG (cellsG (dueL G s p)) G))) r + coverG G r = areaR r := by
      unfold coverG
      rw [← boxC_add, ← box_one hok]
      refine box_congr hok fun i hi h1 => ?_
      unfold oneG
      rw [key i hi h1, hd', Bool.true_and]
      cases G i <;> simp
    omega
  · have hd' : dueR G p r = false := decide_eq_false hd
    rw [if_neg hd]
    have e1 : coverG (cellsG (canon (diffG (cellsG (dueL G s p)) G))) r = boxC (fun _ => 0) r.x0 r.y0 (r.x1 - r.x0).toNat (r.y1 - r.y0).toNat := by
      unfold coverG
      refine box_congr hok fun i hi h1 => ?_
      unfold oneG
      rw [key i hi h1, hd', Bool.false_and]
      simp
    rw [e1]
    unfold boxC rowC
    rw [sumI_congr _ fun y _ _ => sumI_zero _ _]
    exact sumI_zero _ _

end Go.Proofs.YtjiljodchebniaaGreat
