/- Contracts: WidthHistogram of the reference and of the program. No conditions. -/
import Derived.Test.YtooglkdloaaomaaInts
import Derived.Test.YtooglkdloaaomaaAllRuns
import Derived.Test.YtooglkdloaaomaaShort1
import Derived.Test.YtooglkdloaaomaaWidth1
namespace Go.Proofs.Ytooglkdloaaomaa
open Go.RowKit

/-- How many runs have the length j + 1. -/
def histAt (rs : List Rc) (j : Nat) : Int := ((rs.filter fun r => decide (areaR r = (j : Int) + 1)).length : Nat)
def histL (rs : List Rc) : List Int := (List.range 8).map (histAt rs)
theorem histL_length (rs : List Rc) : (histL rs).length = 8 := by simp [histL]
theorem hist_get (rs : List Rc) {j : Nat} (h : j < 8) : (histL rs)[j]? = some (histAt rs j) := by simp [histL, h]
theorem histAt_step {rs : List Rc} {k : Nat} {r : Rc} (h : rs[k]? = some r) (i : Nat) : histAt (rs.take (k + 1)) i = histAt (rs.take k) i + if areaR r = (i : Int) + 1 then 1 else 0 := by
  unfold histAt
  rw [List.take_add_one, h, Option.toList, List.filter_append, List.length_append, List.filter_cons, List.filter_nil]
  by_cases hc : areaR r = (i : Int) + 1
  · rw [if_pos (decide_eq_true hc), if_pos hc]; simp
  · rw [if_neg (by rw [decide_eq_false hc]; simp), if_neg hc]; simp
theorem histAt_bounds (rs : List Rc) (i : Nat) : 0 ≤ histAt rs i ∧ histAt rs i ≤ rs.length := by
  unfold histAt
  have := List.length_filter_le (fun r => decide (areaR r = (i : Int) + 1)) rs
  omega
theorem hist_yes {rs : List Rc} {k j : Nat} {r : Rc} (h : rs[k]? = some r) (hj : j < 8) (ha : areaR r = (j : Int) + 1) : (histL (rs.take k)).set j (histAt (rs.take k) j + 1) = histL (rs.take (k + 1)) := by
  apply List.ext_getElem?
  intro i
  rw [List.getElem?_set, histL_length]
  by_cases hi : i < 8
  · rw [hist_get _ hi, hist_get _ hi, histAt_step h]
    by_cases e : j = i
    · subst e; rw [if_pos rfl, if_pos hj, if_pos ha]
    · rw [if_neg e, if_neg (by omega), Int.add_zero]
  · rw [if_neg (by omega), List.getElem?_eq_none (by rw [histL_length]; omega), List.getElem?_eq_none (by rw [histL_length]; omega)]
theorem hist_no {rs : List Rc} {k : Nat} {r : Rc} (h : rs[k]? = some r) (ha : ¬ areaR r ≤ 8) : histL (rs.take k) = histL (rs.take (k + 1)) := by
  apply List.ext_getElem?
  intro i
  by_cases hi : i < 8
  · rw [hist_get _ hi, hist_get _ hi, histAt_step h, if_neg (by omega), Int.add_zero]
  · rw [List.getElem?_eq_none (by rw [histL_length]; omega), List.getElem?_eq_none (by rw [histL_length]; omega)]
/-- The histogram of a region. -/
def histV (rs : List Rc) : List Int := if isReg rs = true then histL (allG (cellsG rs)) else []
theorem histV_yes {rs : List Rc} (h : isReg rs = true) : histV rs = histL (allG (cellsG rs)) := if_pos h
theorem histV_no {rs : List Rc} (h : isReg rs = false) : histV rs = [] := if_neg (by rw [h]; simp)
theorem histV_length (rs : List Rc) : (histV rs).length ≤ 1000000 := by
  unfold histV
  split
  · rw [histL_length]; omega
  · simp

def zeros8 : Array Value := madeCells #[.int .i64 0] 8
theorem zeros8_list : zeros8.toList = valsI (histL []) := by
  have h1 : zeros8.toList = List.replicate 8 (.int .i64 0) := toList_madeCells_one _ _
  rw [h1]; rfl
theorem run_make_8 (w : World) : (Instr.makeSlice 36 (.int .i64 8) (.int .i64 8)).run Try.prog w = .ok (.slice (some ⟨w.heap.size, 0, none⟩) 8 8) (w.alloc (.cells zeros8 2)) := by
  obtain ⟨i, hi, hz, hsz, hby⟩ := info_parts infoInt
  have := run_make (P := Try.prog) w 36 2 i (.int .i64 0) Try.underlying36 hi hz .i64 .i64 8 8 (by omega) (by omega) (by rw [hby]; decide) (by omega)
  rw [this, hsz]
  rfl
theorem IL.made (w : World) : IL (w.alloc (.cells zeros8 2)) w.heap.size (.slice (some ⟨w.heap.size, 0, none⟩) 8 8) (histL []) := by
  unfold IL
  rw [← zeros8_list, histL_length]
  exact World.ownsRow_lit w zeros8 8 (Nat.le_refl _) (by simp [maxLen]) (size_madeCells _ _)
theorem row_emptyI (w : World) (B n : Nat) (h : w.heap.size = n) (hB : B ≤ n) : IL (w.alloc (.cells #[] 2)) B (.slice (some ⟨n, 0, none⟩) 0 0) [] := by
  subst h
  exact World.ownsRow_lit w #[] 0 hB (by simp [maxLen]) rfl

theorem all_len (G : Gr) : (allG G).length ≤ 12800 := allG_length G

set_option maxHeartbeats 800000 in
set_option maxRecDepth 100000 in
theorem hist_impl (v : Value) (rs : List Rc) (w : World) (hv : RL w 0 v rs) : Calls Try.prog 24 #[v] w fun e w' => ∃ u, e = .returned u ∧ IL w' w.heap.size u (histV rs) ∧ Below w.heap.size w w' := by
  by_cases h : isReg rs = true
  · rw [histV_yes h]
    have Hall := Lib.hid (allG_ok (cellsG rs))
    have Hlen := Lib.hid (all_len (cellsG rs))
    go_enter Try.func24, Try.ntmps24
    go_wp2_with fail
    refine (isRegion_any v rs _ hv).mono ?_
    rintro e w1 ⟨rfl, hb1⟩
    rw [h]
    have hmk := run_make_8
    have i0 := IL.made w1
    have t1 := hb1.alloc hb1.size (.cells zeros8 2)
    have hs1 := hb1.size
    replace hv := (hv.on hb1).alloc (.cells zeros8 2)
    clear hb1
    go_wp2_with fail
    clear hmk
    refine (allRuns_any v rs _ hv).mono ?_
    rintro e w2 ⟨u, rfl, hR, hb2⟩
    replace i0 := (i0.on hb2).less hs1
    replace t1 := t1.trans (hb2.mono t1.size)
    have hS : RL w2 (w1.heap.size + 1) u (allG (cellsG rs)) := by simpa using hR
    clear hb2 hv hR
    obtain ⟨A, c, rfl, hc, hm, -⟩ := hS.form
    have hm' : (allG (cellsG rs)).length ≤ 9223372036854775807 := by have := Hlen.out; omega
    go_wp2
    go_loopw [14] (fun iv wr => ∃ k : Nat, k ≤ (allG (cellsG rs)).length ∧ iv = .int .i64 k ∧ IL wr w.heap.size (.slice (some ⟨w1.heap.size, 0, none⟩) 8 8) (histL ((allG (cellsG rs)).take k)) ∧ RL wr (w1.heap.size + 1) (.slice A (allG (cellsG rs)).length c) (allG (cellsG rs)) ∧ Below w.heap.size w wr) (fun iv _ => (allG (cellsG rs)).length - (intOf iv).toNat)
    case atStart => exact ⟨0, Nat.zero_le _, rfl, i0, hS, t1⟩
    case round =>
      obtain ⟨k, hk, rfl, hI, hR, hb⟩ := hrel
      clear i0 hS t1
      by_cases hlt : k < (allG (cellsG rs)).length
      · obtain ⟨g, x0, y0, x1, y1, rfl, hr, hg, f0, f1, f2, f3⟩ := hR.elem hlt
        have hok := okAll_at Hall.out hr
        have har := areaR_bounds hok
        have tA := hb.alloc hb.size (.cells #[.int .i64 x0, .int .i64 y0, .int .i64 x1, .int .i64 y1] 32)
        have hRA := hR.alloc (.cells #[.int .i64 x0, .int .i64 y0, .int .i64 x1, .int .i64 y1] 32)
        have hIA := hI.alloc (.cells #[.int .i64 x0, .int .i64 y0, .int .i64 x1, .int .i64 y1] 32)
        have hB := (own_lt hR _ rfl).1
        by_cases ha : areaR ⟨x0, y0, x1, y1⟩ ≤ 8
        · obtain ⟨j, hj⟩ : ∃ j : Nat, areaR ⟨x0, y0, x1, y1⟩ = (j : Int) + 1 := ⟨(areaR ⟨x0, y0, x1, y1⟩ - 1).toNat, by omega⟩
          have hj8 : (0 : Int) ≤ (j : Int) ∧ (j : Int) < 8 ∧ (j : Int) + 1 ≤ 8 := by omega
          have Hn := Lib.hid (hist_yes hr (show j < 8 by omega) hj)
          have hbd := histAt_bounds ((allG (cellsG rs)).take k) j
          rw [List.length_take] at hbd
          have hbd2 : 0 ≤ histAt ((allG (cellsG rs)).take k) j ∧ histAt ((allG (cellsG rs)).take k) j ≤ 12800 := by have := Hlen.out; omega
          clear hbd hr
          go_wp2_with fail
          refine (runLength_any ⟨x0, y0, x1, y1⟩ hok _).mono ?_
          rintro e w3 ⟨rfl, hb3⟩
          rw [hj]
          have hI3 := hIA.on hb3
          obtain ⟨g2, x, hA2, hx2, -, -, c0⟩ := hI3.elem (k := j) (by rw [histL_length]; omega)
          rw [hist_get _ (show j < 8 by omega)] at hx2
          simp only [Option.some.injEq, Addr.mk.injEq] at hA2 hx2
          obtain ⟨rfl, -⟩ := hA2
          subst hx2
          have z0 := hI3.frozen j
          have HI := Lib.hid (hI3.set j (histAt ((allG (cellsG rs)).take k) j + 1))
          clear hI hIA ha hj har
          go_wp2
          refine ⟨⟨k + 1, by omega, by go_num, ?_, ?_, (tA.trans (hb3.mono tA.size)).setCell (by show w.heap.size ≤ w1.heap.size; exact hs1) _⟩, by simp [intOf]; omega⟩
          · rw [← Hn.out]; exact HI.out
          · exact own_other (hRA.on hb3) (p := ⟨w1.heap.size, _, none⟩) (by simp [Value.ownBlock]; omega) _
        · have Hn := Lib.hid (hist_no hr ha)
          clear hr har
          go_wp2_with fail
          refine (runLength_any ⟨x0, y0, x1, y1⟩ hok _).mono ?_
          rintro e w3 ⟨rfl, hb3⟩
          go_wp2
          exact ⟨⟨k + 1, by omega, by go_num, by rw [← Hn.out]; exact hIA.on hb3, hRA.on hb3, tA.trans (hb3.mono tA.size)⟩, by simp [intOf]; omega⟩
      · have hkn : k = (allG (cellsG rs)).length := by omega
        have Hk := Lib.hid hkn
        clear hkn
        go_wp2
        go_ret
        rw [Hk.out, List.take_length] at hI
        exact ⟨_, rfl, hI, hb⟩
  · have h' : isReg rs = false := by simpa using h
    clear h
    rw [histV_no h']
    go_enter Try.func24, Try.ntmps24
    go_wp2_with fail
    refine (isRegion_any v rs _ hv).mono ?_
    rintro e w1 ⟨rfl, hb1⟩
    rw [h']
    go_wp2
    go_ret
    exact ⟨_, rfl, IL.nil _ _, hb1⟩

end Go.Proofs.Ytooglkdloaaomaa
