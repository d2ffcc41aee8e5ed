/- Contracts: the program's covers, Covers, sizable, Grow. No conditions (of covers: valid rectangles). -/
import Derived.Test.YtooglkdloaaomaaEncA
import Derived.Test.YtooglkdloaaomaaCombA
namespace Go.Proofs.Ytooglkdloaaomaa
open Go.RowKit

/-- All cells of H belong to G. -/
def subG (H G : Gr) : Bool := (List.range 6400).all fun i => !H i || G i
theorem subG_iff {H G : Gr} : subG H G = true ↔ ∀ i, i < 6400 → H i = true → G i = true := by
  unfold subG
  rw [List.all_eq_true]
  constructor
  · intro h i hi hH
    have := h i (List.mem_range.2 hi)
    rw [hH] at this
    simpa using this
  · intro h i hi
    have := h i (List.mem_range.1 hi)
    revert this
    cases H i <;> cases G i <;> simp
theorem onC_lt {x y : Int} (h : onC x y = true) : (ix x y).toNat < 6400 := by
  have := ix_nat h; omega
theorem subG_yes {H G : Gr} (h : ∀ i, i < 6400 → H i = true → G i = true) : subG H G = true := subG_iff.2 h
theorem subG_no {H G : Gr} {i : Nat} (hi : i < 6400) (hH : H i = true) (hG : G i = false) : subG H G = false := by
  rw [Bool.eq_false_iff]
  intro h
  rw [subG_iff.1 h i hi hH] at hG
  cases hG
/-- What is known of the cells of a rectangle. -/
def InG (G : Gr) (r : Rc) : Prop := ∀ i, i < 6400 → inR r i = true → G i = true
theorem inG_none (G : Gr) {r : Rc} (h : r.x1 ≤ r.x0 ∨ r.y1 ≤ r.y0) : InG G r := fun i _ hr => by
  rw [inR_iff] at hr; omega
theorem inG_cell {G : Gr} {x0 x y : Int} (h : InG G ⟨x0, y, x, y + 1⟩) (hc : onC x y = true) (hG : hasG G x y = true) : InG G ⟨x0, y, x + 1, y + 1⟩ := fun i hi hr => by
  rw [onC_iff] at hc
  by_cases e : i = (ix x y).toNat
  · rw [hasG_on (by rw [onC_iff]; omega)] at hG
    rw [e]; exact hG
  · refine h i hi ?_
    rw [inR_iff] at hr ⊢
    unfold ix at e
    dsimp only at hr ⊢
    omega
theorem inG_row {G : Gr} {x0 x1 y0 y : Int} (h : InG G ⟨x0, y0, x1, y⟩) (h2 : InG G ⟨x0, y, x1, y + 1⟩) : InG G ⟨x0, y0, x1, y + 1⟩ := fun i hi hr => by
  by_cases e : ((i / 80 : Nat) : Int) = y + 40
  · refine h2 i hi ?_
    rw [inR_iff] at hr ⊢
    dsimp only at hr ⊢
    omega
  · refine h i hi ?_
    rw [inR_iff] at hr ⊢
    dsimp only at hr ⊢
    omega
theorem inG_take {G : Gr} {rs : List Rc} {k : Nat} {r : Rc} (h : ∀ i, i < 6400 → cellsG (rs.take k) i = true → G i = true) (hr : rs[k]? = some r) (h2 : InG G r) : ∀ i, i < 6400 → cellsG (rs.take (k + 1)) i = true → G i = true := fun i hi hc => by
  rw [cellsG_take_succ hr] at hc
  unfold orR at hc
  rw [Bool.or_eq_true] at hc
  rcases hc with hc | hc
  · exact h i hi hc
  · exact h2 i hi hc
theorem cells_mem {rs : List Rc} {k : Nat} {r : Rc} (hr : rs[k]? = some r) {x y : Int} (hc : onC x y = true) (h : r.x0 ≤ x ∧ x < r.x1 ∧ r.y0 ≤ y ∧ y < r.y1) : cellsG rs (ix x y).toNat = true := by
  rw [onC_iff] at hc
  refine (cellsG_iff _ _).2 ⟨r, List.mem_of_getElem? hr, ?_⟩
  rw [inR_iff]
  unfold ix
  omega

set_option maxHeartbeats 1600000 in
set_option maxRecDepth 100000 in
/-- covers. -/
theorem covers_any (g : Nat) (G : Gr) (v : Value) (rs : List Rc) (w : World) (hG : GB w g 77 G) (hv : RL w 0 v rs) (hok : okAll rs = true) :
    Calls Try.prog 89 #[.pointer (some ⟨g, 0, none⟩), v] w fun e w' => e = .returned (.bool (subG (cellsG rs) G)) ∧ Below w.heap.size w w' := by
  obtain ⟨A, c, rfl, hc, hm, -⟩ := hv.form
  unfold maxLen at hm
  have Hok := Lib.hid hok
  clear hok
  go_enter Try.func89, Try.ntmps89
  go_wp2
  go_loopw [11] (fun iv wr => ∃ k : Nat, k ≤ rs.length ∧ iv = .int .i64 k ∧ (∀ i, i < 6400 → cellsG (rs.take k) i = true → G i = true) ∧ GB wr g 77 G ∧ RL wr 0 (.slice A rs.length c) rs ∧ Below w.heap.size w wr) (fun iv _ => rs.length - (intOf iv).toNat)
  case atStart => exact ⟨0, Nat.zero_le _, rfl, fun i _ h => by simp [cellsG] at h, hG, hv, Below.refl _ _⟩
  case round =>
    obtain ⟨k, hk, rfl, hin, hG1, hv1, hb1⟩ := hrel
    have Hin := Lib.hid hin
    clear hG hv hin
    by_cases hlt : k < rs.length
    · obtain ⟨ga, x0, y0, x1, y1, rfl, hr, hga, f0, f1, f2, f3⟩ := hv1.elem hlt
      have Hr := Lib.hid hr
      have hrok := (okRc_iff _).1 (okAll_get Hok.out hr)
      dsimp only at hrok
      have z0 := Bk.new wr 32 #[.int .i64 x0, .int .i64 y0, .int .i64 x1, .int .i64 y1]
      have hG2 := hG1.alloc (.cells #[.int .i64 x0, .int .i64 y0, .int .i64 x1, .int .i64 y1] 32)
      have hv2 := RL.alloc hv1 (.cells #[.int .i64 x0, .int .i64 y0, .int .i64 x1, .int .i64 y1] 32)
      have hb2 := hb1.alloc hb1.size (.cells #[.int .i64 x0, .int .i64 y0, .int .i64 x1, .int .i64 y1] 32)
      obtain ⟨c0, c1, c2, c3⟩ := box4 z0
      clear hr hG1 hv1
      go_wp2
      revert z0 hG2 hv2 hb2 c0 c1 c2 c3
      generalize wr.alloc (.cells #[.int .i64 x0, .int .i64 y0, .int .i64 x1, .int .i64 y1] 32) = w2
      generalize wr.heap.size = b
      intro z0 hG2 hv2 hb2 c0 c1 c2 c3
      go_loopw [7] (fun yv wi => ∃ y : Int, y0 ≤ y ∧ y ≤ y1 ∧ yv = .int .i64 y ∧ InG G ⟨x0, y0, x1, y⟩ ∧ Bk wi b 32 #[.int .i64 x0, .int .i64 y0, .int .i64 x1, .int .i64 y1] ∧ GB wi g 77 G ∧ RL wi 0 (.slice (some ⟨ga, 0, none⟩) rs.length c) rs ∧ Below w.heap.size w wi) (fun yv _ => (40 - intOf yv).toNat)
      case atStart => exact ⟨y0, by omega, by omega, rfl, inG_none _ (.inr (Int.le_refl _)), z0, hG2, hv2, hb2⟩
      case round =>
        obtain ⟨y, hy0, hy1, rfl, hI, z3, hG3, hv3, hb3⟩ := hrel
        have HI := Lib.hid hI
        clear z0 hG2 hv2 hb2 hI c0 c1 c2 c3
        obtain ⟨c0, c1, c2, c3⟩ := box4 z3
        by_cases hy : y < y1
        · go_wp2
          go_loopw [8] (fun xv wj => ∃ x : Int, x0 ≤ x ∧ x ≤ x1 ∧ xv = .int .i64 x ∧ InG G ⟨x0, y, x, y + 1⟩ ∧ Bk wj b 32 #[.int .i64 x0, .int .i64 y0, .int .i64 x1, .int .i64 y1] ∧ GB wj g 77 G ∧ RL wj 0 (.slice (some ⟨ga, 0, none⟩) rs.length c) rs ∧ Below w.heap.size w wj) (fun xv _ => (40 - intOf xv).toNat)
          case atStart => exact ⟨x0, by omega, by omega, rfl, inG_none _ (.inl (Int.le_refl _)), z3, hG3, hv3, hb3⟩
          case round =>
            obtain ⟨x, hx0, hx1, rfl, hJ, z4, hG4, hv4, hb4⟩ := hrel
            have HJ := Lib.hid hJ
            clear z3 hG3 hv3 hb3 hJ c0 c1 c2 c3
            obtain ⟨c0, c1, c2, c3⟩ := box4 z4
            by_cases hx : x < x1
            · have hon : onC x y = true := (onC_iff x y).2 (by omega)
              have Hon := Lib.hid hon
              clear hon
              go_wp2_with fail
              refine (has_any g G x y _ hG4).mono ?_
              rintro e w5 ⟨rfl, hb5⟩
              have z5 := z4.on hb5
              have hG5 := hG4.on hb5
              have hv5 := hv4.on hb5
              replace hb5 := hb4.trans (hb5.mono hb4.size)
              clear z4 hG4 hv4 hb4 c0 c1 c2 c3
              by_cases hh : hasG G x y = true
              · rw [hh]
                go_wp2
                exact ⟨⟨x + 1, by omega, by omega, rfl, inG_cell HJ.out Hon.out hh, z5, hG5, hv5, hb5⟩, by simp [intOf]; omega⟩
              · have hh' : hasG G x y = false := by simpa using hh
                have Hh := Lib.hid hh'
                rw [hh']
                clear hh hh'
                go_wp2
                go_ret
                refine ⟨ret_bool (Eq.symm (subG_no (i := (ix x y).toNat) (onC_lt Hon.out) (cells_mem Hr.out Hon.out (by dsimp only; omega)) ?_)), hb5⟩
                have := Hh.out
                rw [hasG_on Hon.out] at this
                exact this
            · have hxe : x = x1 := by omega
              subst hxe
              go_wp2
              exact ⟨⟨y + 1, by omega, by omega, rfl, inG_row HI.out HJ.out, z4, hG4, hv4, hb4⟩, by simp [intOf]; omega⟩
        · have hye : y = y1 := by omega
          subst hye
          go_wp2
          exact ⟨⟨k + 1, by omega, by go_num, inG_take Hin.out Hr.out HI.out, hG3, hv3, hb3⟩, by simp [intOf]; omega⟩
    · have hke : k = rs.length := by omega
      subst hke
      go_wp2
      go_ret
      have := Hin.out
      rw [List.take_length] at this
      exact ⟨ret_bool (Eq.symm (subG_yes this)), hb1⟩

set_option maxHeartbeats 800000 in
set_option maxRecDepth 100000 in
theorem covers_impl (v u : Value) (rs qs : List Rc) (w : World) (hv : RL w 0 v rs) (hu : RL w 0 u qs) : Calls Try.prog 31 #[v, u] w fun e w' => e = .returned (.bool (isReg rs && (isReg qs && subG (cellsG qs) (cellsG rs)))) ∧ Below w.heap.size w w' := by
  by_cases h1 : isReg rs = true
  · by_cases h2 : isReg qs = true
    · have ho1 := okAll_of_reg h1
      have ho2 := okAll_of_reg h2
      rw [h1, h2, Bool.true_and, Bool.true_and]
      have H1 := Lib.hid h1
      have H2 := Lib.hid h2
      clear h1 h2
      go_enter Try.func31, Try.ntmps31
      go_wp2_with fail
      refine (isRegion_any v rs _ hv).mono ?_
      rintro e w1 ⟨rfl, hb1⟩
      rw [H1.out]
      have hu1 := hu.on hb1
      have hv1 := hv.on hb1
      clear hu hv
      go_wp2_with fail
      refine (isRegion_any u qs _ hu1).mono ?_
      rintro e w2 ⟨rfl, hb2⟩
      rw [H2.out]
      have hu2 := hu1.on hb2
      have hv2 := hv1.on hb2
      replace hb2 := hb1.trans (hb2.mono hb1.size)
      clear hu1 hv1 hb1
      go_wp2_with fail
      refine (cellsOf_any v rs _ hv2).mono ?_
      rintro e w3 ⟨g, rfl, hg, hG3, hb3⟩
      have hu3 := hu2.on hb3
      replace hb3 := hb2.trans (hb3.mono hb2.size)
      go_wp2_with fail
      refine (covers_any g _ u qs _ hG3 hu3 ho2).mono ?_
      rintro e w4 ⟨rfl, hb4⟩
      go_wp2
      go_ret
      exact ⟨rfl, hb3.trans (hb4.mono hb3.size)⟩
    · have h2' : isReg qs = false := by simpa using h2
      rw [h1, h2', Bool.true_and, Bool.false_and]
      have H1 := Lib.hid h1
      have H2 := Lib.hid h2'
      clear h1 h2 h2'
      go_enter Try.func31, Try.ntmps31
      go_wp2_with fail
      refine (isRegion_any v rs _ hv).mono ?_
      rintro e w1 ⟨rfl, hb1⟩
      rw [H1.out]
      have hu1 := hu.on hb1
      clear hu hv
      go_wp2_with fail
      refine (isRegion_any u qs _ hu1).mono ?_
      rintro e w2 ⟨rfl, hb2⟩
      rw [H2.out]
      replace hb2 := hb1.trans (hb2.mono hb1.size)
      go_wp2
      go_ret
      exact ⟨rfl, hb2⟩
  · have h1' : isReg rs = false := by simpa using h1
    rw [h1', Bool.false_and]
    have H1 := Lib.hid h1'
    clear h1 h1'
    go_enter Try.func31, Try.ntmps31
    go_wp2_with fail
    refine (isRegion_any v rs _ hv).mono ?_
    rintro e w1 ⟨rfl, hb1⟩
    rw [H1.out]
    go_wp2
    go_ret
    exact ⟨rfl, hb1⟩

set_option maxHeartbeats 400000 in
set_option maxRecDepth 100000 in
theorem sizable_yes (v : Value) (rs : List Rc) (k : Int) (w : World) (hv : RL w 0 v rs) (h : isReg rs = true) (hk : 0 ≤ k ∧ k ≤ 10) : Calls Try.prog 90 #[v, .int .i64 k] w fun e w' => e = .returned (.bool true) ∧ Below w.heap.size w w' := by
  have hkb : inB 0 k 10 = true := (inB_iff _ _ _).2 hk
  go_enter Try.func90, Try.ntmps90
  go_wp2_with fail
  refine (isRegion_any v rs _ hv).mono ?_
  rintro e w1 ⟨rfl, hb1⟩
  rw [h]
  go_wp2_with fail
  refine (within_any k 0 10 _).mono ?_
  rintro e w2 ⟨rfl, rfl⟩
  rw [hkb]
  go_wp2
  go_ret
  exact ⟨rfl, hb1⟩

set_option maxHeartbeats 400000 in
/-- Grow of a region by a margin in range. -/
theorem grow_impl (v : Value) (rs : List Rc) (k : Int) (w : World) (hv : RL w 0 v rs) (h : isReg rs = true) (hk : 0 ≤ k ∧ k ≤ 10) : Calls Try.prog 32 #[v, .int .i64 k] w fun e w' => ∃ u, e = .returned u ∧ RL w' w.heap.size u (canon (grownG rs k)) ∧ Below w.heap.size w w' := by
  have hok := okAll_of_reg h
  go_enter Try.func32, Try.ntmps32
  go_wp2_with fail
  refine (sizable_yes v rs k _ hv h hk).mono ?_
  rintro e w1 ⟨rfl, hb1⟩
  go_wp2_with fail
  refine (grow_any v rs k _ (hv.on hb1) hok (by omega)).mono ?_
  rintro e w2 ⟨u, rfl, hR, hb2⟩
  go_wp2
  go_ret
  exact ⟨_, rfl, hR.less hb1.size, hb1.trans (hb2.mono hb1.size)⟩

end Go.Proofs.Ytooglkdloaaomaa
