/- Contracts: compareEdges; slices.SortFunc at a list of edges. Condition: the list in memory. -/
import Derived.Test.YtjiljodchebniaaGreatQ26
import Derived.Test.YtjiljodchebniaaGreatQ10
import Derived.Shelf.SlSortCmp.NoneTotal
import Derived.Shelf.SlGeneric
import Derived.Ground.SlsfProg
import Derived.StillTailTactics

namespace Go.Proofs
open Go.Shelf
def Tryz.sortE_ren : Go.Shelf.Ren := ⟨fun | 6 => 30 | 15 => 71 | 14 => 70 | 28 => 100 | 29 => 101 | 20 => 92 | 21 => 93 | 22 => 94 | 23 => 95 | 24 => 96 | 25 => 97 | 26 => 98 | 27 => 99 | 46 => 131 | 47 => 132 | 48 => 133 | 49 => 134 | 50 => 135 | 57 => 153 | n => n, fun | 22 => 41 | 24 => 48 | 25 => 68 | 3 => 3 | 39 => 107 | 0 => 0 | 53 => 135 | 55 => 137 | 4 => 4 | 46 => 128 | 45 => 127 | 50 => 132 | 5 => 5 | 9 => 9 | 66 => 155 | 70 => 159 | 76 => 174 | 77 => 175 | n => n, fun | n => n⟩
theorem Tryz.sortE : Go.Proofs.SlLaysF0.n6 Tryz.prog Tryz.sortE_ren := {
  mixed := by kernel_rfl
  f6 := ⟨Tryz.f30.name, by decide, Tryz.func30.trans (congrArg some (by kernel_rfl))⟩
  f14 := ⟨Tryz.f70.name, by decide, Tryz.func70.trans (congrArg some (by kernel_rfl))⟩
  f15 := Tryz.func71.trans (congrArg some (by kernel_rfl))
  f20 := ⟨Tryz.f92.name, by decide, Tryz.func92.trans (congrArg some (by kernel_rfl))⟩
  f21 := ⟨Tryz.f93.name, by decide, Tryz.func93.trans (congrArg some (by kernel_rfl))⟩
  f22 := ⟨Tryz.f94.name, by decide, Tryz.func94.trans (congrArg some (by kernel_rfl))⟩
  f23 := ⟨Tryz.f95.name, by decide, Tryz.func95.trans (congrArg some (by kernel_rfl))⟩
  f24 := ⟨Tryz.f96.name, by decide, Tryz.func96.trans (congrArg some (by kernel_rfl))⟩
  f25 := ⟨Tryz.f97.name, by decide, Tryz.func97.trans (congrArg some (by kernel_rfl))⟩
  f26 := ⟨Tryz.f98.name, by decide, Tryz.func98.trans (congrArg some (by kernel_rfl))⟩
  f27 := ⟨Tryz.f99.name, by decide, Tryz.func99.trans (congrArg some (by kernel_rfl))⟩
  f28 := Tryz.func100.trans (congrArg some (by kernel_rfl))
  f29 := Tryz.func101.trans (congrArg some (by kernel_rfl))
  f46 := ⟨Tryz.f131.name, by decide, Tryz.func131.trans (congrArg some (by kernel_rfl))⟩
  f47 := Tryz.func132.trans (congrArg some (by kernel_rfl))
  f48 := Tryz.func133.trans (congrArg some (by kernel_rfl))
  f49 := ⟨Tryz.f134.name, by decide, Tryz.func134.trans (congrArg some (by kernel_rfl))⟩
  f50 := ⟨Tryz.f135.name, by decide, Tryz.func135.trans (congrArg some (by kernel_rfl))⟩
  f57 := ⟨Tryz.f153.name, by decide, Tryz.func153.trans (congrArg some (by kernel_rfl))⟩
  t0 := Tryz.underlying0
  a0 := Tryz.isAgg0
  z0 := Tryz.sizeOf0
  v0 := Tryz.zeroValue0
  t3 := Tryz.underlying3
  a3 := Tryz.isAgg3
  z3 := Tryz.sizeOf3
  v3 := Tryz.zeroValue3
  t4 := Tryz.underlying4
  a4 := Tryz.isAgg4
  z4 := Tryz.sizeOf4
  v4 := Tryz.zeroValue4
  t5 := Tryz.underlying5
  a5 := Tryz.isAgg5
  z5 := Tryz.sizeOf5
  v5 := Tryz.zeroValue5
  t9 := Tryz.underlying9
  a9 := Tryz.isAgg9
  z9 := Tryz.sizeOf9
  v9 := Tryz.zeroValue9
  t22 := Tryz.underlying41
  a22 := Tryz.isAgg41
  z22 := Tryz.sizeOf41
  v22 := Tryz.zeroValue41
  t25 := Tryz.underlying68
  a25 := Tryz.isAgg68
  z25 := Tryz.sizeOf68
  v25 := Tryz.zeroValue68
  t39 := Tryz.underlying107
  a39 := Tryz.isAgg107
  z39 := Tryz.sizeOf107
  v39 := Tryz.zeroValue107
  t45 := Tryz.underlying127
  a45 := Tryz.isAgg127
  z45 := Tryz.sizeOf127
  v45 := Tryz.zeroValue127
  t46 := Tryz.underlying128
  a46 := Tryz.isAgg128
  z46 := Tryz.sizeOf128
  v46 := Tryz.zeroValue128
  t50 := Tryz.underlying132
  a50 := Tryz.isAgg132
  z50 := Tryz.sizeOf132
  v50 := Tryz.zeroValue132
  t53 := Tryz.underlying135
  a53 := Tryz.isAgg135
  z53 := Tryz.sizeOf135
  v53 := Tryz.zeroValue135
  t55 := Tryz.underlying137
  a55 := Tryz.isAgg137
  z55 := Tryz.sizeOf137
  v55 := Tryz.zeroValue137
  t66 := Tryz.underlying155
  a66 := Tryz.isAgg155
  z66 := Tryz.sizeOf155
  v66 := Tryz.zeroValue155
  t70 := Tryz.underlying159
  a70 := Tryz.isAgg159
  z70 := Tryz.sizeOf159
  v70 := Tryz.zeroValue159
  t76 := Tryz.underlying174
  a76 := Tryz.isAgg174
  z76 := Tryz.sizeOf174
  v76 := Tryz.zeroValue174
  t77 := Tryz.underlying175
  a77 := Tryz.isAgg175
  z77 := Tryz.sizeOf175
  v77 := Tryz.zeroValue175 }
end Go.Proofs
namespace Go.Proofs.YtjiljodchebniaaGreat
open Go.Shelf Go.RowKit Go.Lib Go.Sort

def cmpE (a b : Ed) : Int := nz (cmpI a.y0 b.y0) (nz (cmpI a.x0 b.x0) (nz (cmpI a.y1 b.y1) (cmpI a.x1 b.x1)))
set_option maxHeartbeats 1600000 in
set_option maxRecDepth 100000 in
/-- compareEdges. -/
theorem compareEdges_any (a b : Ed) (w : World) : Calls Tryz.prog 31 #[a.val, b.val] w fun e w' => e = .returned (.int .i64 (cmpE a b)) ∧ ∃ q os', w' = Sort.grow (w.drewN q) os' := by
  have z0 := (Bk.new w 48 #[.int .i64 a.x0, .int .i64 a.y0, .int .i64 a.x1, .int .i64 a.y1]).alloc (.cells #[.int .i64 b.x0, .int .i64 b.y0, .int .i64 b.x1, .int .i64 b.y1] 48)
  have z1 := Bk.new (w.alloc (.cells #[.int .i64 a.x0, .int .i64 a.y0, .int .i64 a.x1, .int .i64 a.y1] 48)) 48 #[.int .i64 b.x0, .int .i64 b.y0, .int .i64 b.x1, .int .i64 b.y1]
  have ez : (w.alloc (.cells #[.int .i64 a.x0, .int .i64 a.y0, .int .i64 a.x1, .int .i64 a.y1] 48)).heap.size = w.heap.size + 1 := by simp
  rw [ez] at z1
  clear ez
  obtain ⟨p0, p1, p2, p3⟩ := box4 z0
  obtain ⟨q0, q1, q2, q3⟩ := box4 z1
  unfold Ed.val
  go_enter Tryz.func31, Tryz.ntmps31
  go_upto_region 1 with fail
  obtain ⟨W, hW⟩ : ∃ W, W = (w.alloc (.cells #[.int .i64 a.x0, .int .i64 a.y0, .int .i64 a.x1, .int .i64 a.y1] 48)).alloc (.cells #[.int .i64 b.x0, .int .i64 b.y0, .int .i64 b.x1, .int .i64 b.y1] 48) := ⟨_, rfl⟩
  rw [← hW] at p0 p1 p2 p3 q0 q1 q2 q3 ⊢
  have HW := Lib.hid hW
  clear hW z0 z1
  refine wp_region_still_tail 20 (by kernel_rfl) (by kernel_rfl) ?_
  simp only [List.take_succ_cons, List.take_zero, List.drop_succ_cons, List.drop_zero]
  iterate 4 still_step
  still_call (still_of (compare_any a.y0 b.y0 _))
  iterate 4 still_step
  still_call (still_of (compare_any a.x0 b.x0 _))
  iterate 4 still_step
  still_call (still_of (compare_any a.y1 b.y1 _))
  iterate 4 still_step
  still_call (still_of (compare_any a.x1 b.x1 _))
  refine wpStill_nil ?_
  change wpList _ _ _ _ _ W.drew
  have hO : Bk (W.drew.alloc (.cells #[.int .i64 (cmpI a.y0 b.y0), .int .i64 (cmpI a.x0 b.x0), .int .i64 (cmpI a.y1 b.y1), .int .i64 (cmpI a.x1 b.x1)] 3)) W.heap.size 3 #[.int .i64 (cmpI a.y0 b.y0), .int .i64 (cmpI a.x0 b.x0), .int .i64 (cmpI a.y1 b.y1), .int .i64 (cmpI a.x1 b.x1)] := Bk.new W.drew 3 _
  go_wp2_with (go_at_call 63; refine (or_any _ _ _ _ _ _ hO).mono ?_; rintro e w1 ⟨rfl, rfl⟩)
  go_ret
  refine ⟨rfl, 1, #[.cells #[.int .i64 a.x0, .int .i64 a.y0, .int .i64 a.x1, .int .i64 a.y1] 48 (0, 0), .cells #[.int .i64 b.x0, .int .i64 b.y0, .int .i64 b.x1, .int .i64 b.y1] 48 (0, 0), .cells #[.int .i64 (cmpI a.y0 b.y0), .int .i64 (cmpI a.x0 b.x0), .int .i64 (cmpI a.y1 b.y1), .int .i64 (cmpI a.x1 b.x1)] 3 (0, 0)], ?_⟩
  rw [HW.out]
  simp only [Sort.alloc_eq_grow, Sort.drew_grow, Sort.grow_grow]
  rfl
theorem lt_cmpE (a b : Ed) : ltOf cmpE a b = edLt a b := by
  unfold ltOf cmpE edLt nz cmpI
  by_cases h1 : a.y0 = b.y0
  · rw [h1]
    by_cases h2 : a.x0 = b.x0
    · rw [h2]
      by_cases h3 : a.y1 = b.y1
      · rw [h3]
        by_cases h4 : a.x1 < b.x1
        · simp [h4]
        · by_cases h5 : b.x1 < a.x1 <;> simp [h4, h5]
      · by_cases h4 : a.y1 < b.y1
        · simp [h3, h4]
        · have h5 : b.y1 < a.y1 := by omega
          simp [h3, h4, h5]
    · by_cases h4 : a.x0 < b.x0
      · simp [h2, h4]
      · have h5 : b.x0 < a.x0 := by omega
        simp [h2, h4, h5]
  · by_cases h4 : a.y0 < b.y0
    · simp [h1, h4]
    · have h5 : b.y0 < a.y0 := by omega
      simp [h1, h4, h5]
theorem swo_cmpE : SWO (ltOf cmpE) where
  irrefl x := by rw [lt_cmpE]; exact edLt_irr x
  trans x y z h1 h2 := by rw [lt_cmpE] at *; exact edLt_trans h1 h2
  ntrans x y z h1 h2 := by
    rw [lt_cmpE] at *
    cases h : edLt x z with
    | false => rfl
    | true =>
      rcases edLt_or h1 with rfl | h3
      · rw [h2] at h; cases h
      · have := edLt_trans h3 h
        rw [h2] at this; cases this
theorem tot_cmpE (x y : Ed) (h1 : ltOf cmpE x y = false) (h2 : ltOf cmpE y x = false) : x = y := by
  rw [lt_cmpE] at *
  rcases edLt_or h1 with h | h
  · exact h
  · rw [h2] at h; cases h
instance : Inhabited Ed := ⟨⟨0, 0, 0, 0⟩⟩
theorem flat_edges (rs : List Ed) : flatK Ed.vals 4 rs.toArray = (flatE rs).toArray := by
  apply Array.ext
  · rw [size_flatK, List.size_toArray, List.size_toArray, flatE_length]
  · intro t h1 h2
    rw [size_flatK, List.size_toArray] at h1
    have hk : t / 4 < rs.length := by omega
    have hx : rs[t / 4]? = some rs[t / 4] := List.getElem?_eq_getElem hk
    obtain ⟨f0, f1, f2, f3⟩ := flatE_get rs (t / 4) _ hx
    have e : (flatK Ed.vals 4 rs.toArray)[t] = (Ed.vals rs[t / 4])[t % 4]! := by
      have := get_flatK Ed.vals 4 rs.toArray t (by rw [List.size_toArray]; exact h1)
      rw [getElem!_pos _ t (by rw [size_flatK, List.size_toArray]; exact h1)] at this
      rw [this]
      simp [hk]
    rw [e, List.getElem_toArray]
    have hr : t % 4 = 0 ∨ t % 4 = 1 ∨ t % 4 = 2 ∨ t % 4 = 3 := by omega
    have ht : t = t / 4 * 4 + t % 4 := by omega
    have key : ∀ {v : Value} {j : Nat}, (flatE rs)[t / 4 * 4 + j]? = some v → t % 4 = j → (flatE rs)[t]'(by simpa using h2) = v := fun {v j} hv hj => by
      have h5 : (flatE rs)[t]? = some v := by rw [← hv]; congr 1; omega
      rw [List.getElem?_eq_getElem (by simpa using h2)] at h5
      exact Option.some.inj h5
    rcases hr with hr | hr | hr | hr
    · rw [key (j := 0) f0 hr, hr]; rfl
    · rw [key f1 hr, hr]; rfl
    · rw [key f2 hr, hr]; rfl
    · rw [key f3 hr, hr]; rfl
theorem take_putE (cur : Array Value) (vs : List Value) (h : vs.length ≤ cur.size) : (putCells (id : Value → Value) 0 vs.toArray cur).toList.take vs.length = vs := by
  apply List.ext_getElem?
  intro j
  by_cases hj : j < vs.length
  · rw [List.getElem?_take_of_lt hj, Array.getElem?_toList]
    simp [putCells, hj, show j < cur.size by omega]
  · rw [List.getElem?_take_eq_none (by omega), List.getElem?_eq_none (by omega)]

set_option maxHeartbeats 1600000 in
/-- slices.SortFunc at edges. -/
theorem sortE_any (v : Value) (rs : List Ed) (w : World) (B : Nat) (hv : EL w B v rs) (hl : rs.length ≤ 100000) :
    Calls Tryz.prog 30 #[v, .func (.func 31) #[] #[]] w fun e w' => e = .returned (.tuple #[]) ∧ EL w' B v (srtE rs) ∧ w.grownBy w' v.ownBlock := by
  have hv0 := hv
  have hnone : ∀ (p : Option Addr) (cap : Nat), v = .slice p 0 cap → rs = [] → Calls Tryz.prog 30 #[v, .func (.func 31) #[] #[]] w fun e w' => e = .returned (.tuple #[]) ∧ EL w' B v (srtE rs) ∧ w.grownBy w' v.ownBlock := by
    rintro p cap rfl rfl
    refine (AnyF.slices_SortFunc_none Tryz.sortE p cap _ w).mono ?_
    rintro e w' ⟨rfl, rfl⟩
    exact ⟨rfl, by simpa [srtE] using hv0, only_refl _ _⟩
  rcases hv.2 with ⟨hvn, h0⟩ | ⟨g, cap, cur, rfl, hBg, hh, hnc, hcm, hcs, htake⟩
  · exact hnone none 0 hvn (List.eq_nil_of_length_eq_zero h0)
  · have hlt : g < w.heap.size := (own_lt hv g rfl).2
    have eg : ∀ args w, (callFunc 31 args).run Tryz.prog w = .ok (.enter 31 args) w := enters_of Tryz.func31 (by kernel_rfl) rfl
    have hcmp : CmpLays Tryz.prog 31 #[] Ed.vals 4 cmpE g 0 rs.toArray.size w := by
      intro m os dk hdk x y
      exact compareEdges_any x y _
    have hH : HoldsK Ed.vals 4 w g 0 rs.toArray := by
      unfold HoldsK
      rw [flat_edges]
      intro j hj
      rw [List.size_toArray] at hj
      rw [Nat.zero_add]
      refine ⟨?_, World.ownsRow.frozenAt hv j⟩
      rw [World.ownsRow.cellAt hv j (by rw [flatE_length] at hj; exact hj), List.getElem?_eq_getElem hj]
      simp [hj]
    have hcon := AnyQ.slices_SortFunc_total Tryz.sortE 4 Tryz.isAgg48 Tryz.sizeOf48 Ed.vals (fun _ => rfl) (fun x v hv => by simp [Ed.vals] at hv; rcases hv with rfl | rfl | rfl | rfl <;> rfl) cmpE swo_cmpE 31 #[] g 0 cap rs.toArray w eg hcmp hH hlt (by rw [List.size_toArray]; omega) tot_cmpE
    rw [List.size_toArray] at hcon
    refine hcon.mono ?_
    rintro e w' ⟨rfl, n, os, rfl⟩
    have hs : (rs.toArray.toList.mergeSort fun x y => !(ltOf cmpE) y x) = srtE rs := by
      unfold srtE
      congr 1
      funext x y
      rw [lt_cmpE]
    rw [hs]
    unfold sortWorldK putRowK
    rw [flat_edges]
    have hheap : (grow (putRow id (Sort.ahead w n) g 0 (flatE (srtE rs)).toArray) os).heap[g]? = some (.cells (putCells id 0 (flatE (srtE rs)).toArray cur) 48 (0, 0)) := by
      rw [heap_grow_old _ _ (by simpa using hlt)]
      simp [putRow, mapBlock, Sort.ahead, Array.getElem?_modify, hh, onCells]
    have hsl : (flatE (srtE rs)).length = rs.length * 4 := by rw [flatE_length, srtE_len]
    refine ⟨rfl, ⟨by rw [flatE_length], .inr ⟨g, cap, _, by rw [srtE_len], hBg, hheap, by rw [srtE_len]; exact hnc, hcm, by rw [← hcs]; simp [putCells], ?_⟩⟩, ?_⟩
    · rw [srtE_len, ← hsl]
      exact take_putE _ _ (by rw [hsl, hcs]; exact Nat.mul_le_mul_right 4 hnc)
    · refine ⟨rfl, rfl, rfl, by simp, fun k hk hne => ?_⟩
      rw [heap_grow_old _ _ (by simpa using hk)]
      have : g ≠ k := fun e => hne (by rw [e]; rfl)
      simp [putRow, mapBlock, Sort.ahead, Array.getElem?_modify, this]

end Go.Proofs.YtjiljodchebniaaGreat
