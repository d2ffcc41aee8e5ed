/- Contracts: the names, shapes, labels and instances that the laws draw. Condition: a well-formed source. -/
import Derived.Test.YtgegbgkokkdmpaaGreatQ11
import Derived.Test.YtgegbgkokkdmpaaGreatQ03
import Derived.Test.YtgegbgkokkdmpaaGreatQ12
import Derived.Deep.CutRange

namespace Go.Proofs.YtgegbgkokkdmpaaGreat
open Go.RowKit

theorem own_keptG {w w' : World} {g B s n : Nat} {e : TypeId} {v : Value} {xs : List Value} (h : w.ownsRow B e s v n xs) (hg : w.grownBy w' (some g)) (hB : g < B) : w'.ownsRow B e s v n xs := by
  refine World.ownsRow.kept h hg ?_
  cases hv : v.ownBlock with
  | none => exact .inl rfl
  | some q =>
    right
    intro he
    rw [Option.some.injEq] at he
    have := (own_lt h q hv).1
    omega

abbrev nameT : ByteArray := ⟨#[97, 98, 99, 100, 120, 121, 122, 48, 49, 57]⟩
theorem name_tab (m : Nat) (h : m < 10) : byteOk (nameT[m]'h) = true := (by decide : ∀ i : Fin 10, byteOk (nameT[i.1]'i.2) = true) ⟨m, h⟩
set_option maxHeartbeats 1600000 in
set_option maxRecDepth 100000 in
/-- l09DrawName. -/
theorem drawName_any (g : Nat) (w : World) (hD : Dice w g) : Calls Tryz.prog 66 #[.pointer (some ⟨g, 0, none⟩)] w fun e w' => ∃ nm : ByteArray, e = .returned (.string nm) ∧ (nm.data.toList.all byteOk = true ∧ 1 ≤ nm.size ∧ nm.size ≤ 3) ∧ Dice w' g ∧ w.grownBy w' (some g) := by
  have hg := hD.lt
  have r0 : BY (w.alloc (.cells #[] 5)) w.heap.size (.slice (some ⟨w.heap.size, 0, none⟩) 0 0) [] := BY.lit0 w (Nat.le_refl _)
  have hD0 := hD.alloc (.cells #[] 5)
  have hA := only_alloc (only_refl w (some g)) (.cells #[] 5)
  clear hD
  go_enter Tryz.func66, Tryz.ntmps66
  go_wp2_with fail
  refine (next_any g 3 _ hD0 (by omega)).mono ?_
  rintro e w1 ⟨k1, rfl, hk1, hD1, hG1⟩
  have e1 := Go.IntWalk.i64_in (1 + k1) (by omega)
  have hA1 := only_trans hA hG1
  have r1 : BY w1 w.heap.size _ [] := own_keptG r0 hG1 hg
  clear r0 hD0 hG1 hA
  go_wp2
  go_loopw [3, 4] (fun lv nv wr => ∃ (k : Int) (bs : List UInt8), 0 ≤ k ∧ k ≤ 3 ∧ (bs.length : Int) + k = 1 + k1 ∧ nv = .int .i64 k ∧ BY wr w.heap.size lv bs ∧ bs.all byteOk = true ∧ Dice wr g ∧ w.grownBy wr (some g)) (fun _ nv _ => (intOf nv).toNat)
  case atStart => exact ⟨1 + k1, [], by omega, by omega, by simp, rfl, r1, rfl, hD1, hA1⟩
  case round =>
    obtain ⟨k, bs, h0, h3, hql, rfl, hR, hok, hDr, hGr⟩ := hrel
    have Hok := Lib.hid hok
    clear r1 hD1 hA1 hok
    by_cases hk : k > 0
    · have ek := Go.IntWalk.i64_in (k - 1) (by omega)
      go_wp2_with fail
      refine (next_any g 10 _ hDr (by omega)).mono ?_
      rintro e w3 ⟨j, rfl, hj, hD3, hG3⟩
      obtain ⟨m, rfl⟩ : ∃ m : Nat, j = m := ⟨j.toNat, by omega⟩
      have hm : m < 10 := by omega
      have hR3 : BY w3 w.heap.size _ bs := own_keptG hR hG3 hg
      have hA3 := only_trans hGr hG3
      have hsz := hA3.size
      have hl3 : bs.length + 1 ≤ 1000000 := by omega
      have Hb := Lib.hid (name_tab m hm)
      have hs4 : w.heap.size ≤ (w3.alloc (.cells #[byteV (nameT[m]'hm)] 5)).heap.size := by simp; omega
      have hR4 : BY (w3.alloc (.cells #[byteV (nameT[m]'hm)] 5)) w.heap.size _ bs := hR3.alloc _
      have hL := BY.lit1 w3 (Nat.le_refl _) (nameT[m]'hm)
      have hD4 := hD3.alloc (.cells #[byteV (nameT[m]'hm)] 5)
      have hA4 := only_alloc hA3 (.cells #[byteV (nameT[m]'hm)] 5)
      clear hR hDr hGr hG3 hR3 hD3 hA3
      go_wp2_with (at_builtin; refine wpList_append_YY rfl (.tmp 13) (.tmp 17) rfl w.heap.size w3.heap.size _ _ bs [nameT[m]'hm] rfl hR4 rfl hL hl3 hs4 ?_; intro v' w' p1 p2)
      exact ⟨⟨k - 1, bs ++ [nameT[m]'hm], by omega, by omega, by rw [List.length_append, List.length_singleton]; omega, rfl, p1, by rw [List.all_append, Hok.out, List.all_cons, Hb.out]; rfl, hD4.below p2 hg, only_above hA4 p2⟩, by simp [intOf]; omega⟩
    · have hne : bs ≠ [] := by rintro rfl; simp at hql; omega
      have hcv := run_string_Y hR hne
      go_wp2
      go_ret
      refine ⟨⟨bs.toArray⟩, rfl, ⟨by first | exact Hok.out | (show bs.toArray.all byteOk = true; rw [← Array.all_toList]; exact Hok.out), ?_, ?_⟩, hDr, hGr⟩
      · have : (⟨bs.toArray⟩ : ByteArray).size = bs.length := by simp [ByteArray.size]
        omega
      · have : (⟨bs.toArray⟩ : ByteArray).size = bs.length := by simp [ByteArray.size]
        omega

set_option maxHeartbeats 1600000 in
set_option maxRecDepth 100000 in
/-- l09DrawBox. -/
theorem drawBox_any (g : Nat) (w : World) (hD : Dice w g) : Calls Tryz.prog 25 #[.pointer (some ⟨g, 0, none⟩)] w fun e w' => ∃ x0 y0 x1 y1 : Int, e = .returned (.agg #[.int .i64 x0, .int .i64 y0, .int .i64 x1, .int .i64 y1]) ∧ okRc ⟨x0, y0, x1, y1⟩ = true ∧ Dice w' g ∧ w.grownBy w' (some g) := by
  have hg := hD.lt
  have z0 := Bk.new w 60 #[.int .i64 0, .int .i64 0, .int .i64 0, .int .i64 0]
  have hD0 := hD.alloc (.cells #[.int .i64 0, .int .i64 0, .int .i64 0, .int .i64 0] 60)
  have hA := only_alloc (only_refl w (some g)) (.cells #[.int .i64 0, .int .i64 0, .int .i64 0, .int .i64 0] 60)
  clear hD
  go_enter Tryz.func25, Tryz.ntmps25
  go_wp2_with fail
  refine (next_any g 16 _ hD0 (by omega)).mono ?_
  rintro e w1 ⟨k1, rfl, hk1, hD1, hG1⟩
  have e1 := Go.IntWalk.i64_in (k1 - 8) (by omega)
  go_wp2_with fail
  refine (next_any g 16 _ hD1 (by omega)).mono ?_
  rintro e w2 ⟨k2, rfl, hk2, hD2, hG2⟩
  have e2 := Go.IntWalk.i64_in (k2 - 8) (by omega)
  have e5 := Go.IntWalk.i64_in ((k1 - 8) + 1) (by omega)
  have e6 := Go.IntWalk.i64_in ((k2 - 8) + 1) (by omega)
  go_wp2_with fail
  refine (next_any g 6 _ hD2 (by omega)).mono ?_
  rintro e w3 ⟨k3, rfl, hk3, hD3, hG3⟩
  have e3 := Go.IntWalk.i64_in ((k1 - 8) + 1 + k3) (by omega)
  go_wp2_with fail
  refine (next_any g 6 _ hD3 (by omega)).mono ?_
  rintro e w4 ⟨k4, rfl, hk4, hD4, hG4⟩
  have e4 := Go.IntWalk.i64_in ((k2 - 8) + 1 + k4) (by omega)
  have hGz := only_trans (only_trans (only_trans hG1 hG2) hG3) hG4
  have hz := z0.grown hGz (by simp; omega)
  obtain ⟨c0, c1, c2, c3⟩ := box4 hz
  have f0 := hz.frozen 0
  have f1 := hz.frozen 1
  have f2 := hz.frozen 2
  have f3 := hz.frozen 3
  have hA4 := only_trans hA hGz
  clear hD0 hD1 hD2 hD3 hG1 hG2 hG3 hG4 z0 hA hGz hz
  go_wp2
  refine bodyPost_ret (v := .agg #[.int .i64 (k1 - 8), .int .i64 (k2 - 8), .int .i64 ((k1 - 8) + 1 + k3), .int .i64 ((k2 - 8) + 1 + k4)]) (by simp [results, Tryz.results25, go_sem, *]) rfl ?_
  refine ⟨_, _, _, _, rfl, ?_, (dice_four hD4 hg hA4 _ _ _ _).1, (dice_four hD4 hg hA4 _ _ _ _).2⟩
  rw [okRc_iff]
  dsimp only
  omega

theorem dg_set {w W : World} {g b : Nat} (h : Dice W g ∧ w.grownBy W (some g)) (hg : g < b) (hb : w.heap.size ≤ b) (i : Nat) (x : Value) : Dice (W.setCell ⟨b, i, none⟩ x) g ∧ w.grownBy (W.setCell ⟨b, i, none⟩ x) (some g) :=
  ⟨h.1.other (p := ⟨b, i, none⟩) hg x, only_above h.2 ((Below.refl _ _).setCell (p := ⟨b, i, none⟩) hb x)⟩

set_option maxHeartbeats 1600000 in
set_option maxRecDepth 100000 in
/-- l09DrawShape. -/
theorem drawShape_any (g : Nat) (w : World) (hD : Dice w g) : Calls Tryz.prog 67 #[.pointer (some ⟨g, 0, none⟩)] w fun e w' => ∃ l x0 y0 x1 y1 : Int, e = .returned (.agg #[.int .i64 l, .int .i64 x0, .int .i64 y0, .int .i64 x1, .int .i64 y1]) ∧ shapeB ⟨l, ⟨x0, y0, x1, y1⟩⟩ = true ∧ Dice w' g ∧ w.grownBy w' (some g) := by
  have hg := hD.lt
  have z0 := Bk.new w 70 #[.int .i64 0, .int .i64 0, .int .i64 0, .int .i64 0, .int .i64 0]
  have hD0 := hD.alloc (.cells #[.int .i64 0, .int .i64 0, .int .i64 0, .int .i64 0, .int .i64 0] 70)
  have hA := only_alloc (only_refl w (some g)) (.cells #[.int .i64 0, .int .i64 0, .int .i64 0, .int .i64 0, .int .i64 0] 70)
  clear hD
  go_enter Tryz.func67, Tryz.ntmps67
  go_wp2_with fail
  refine (next_any g 8 _ hD0 (by omega)).mono ?_
  rintro e w1 ⟨l, rfl, hl, hD1, hG1⟩
  go_wp2_with fail
  refine (drawBox_any g _ hD1).mono ?_
  rintro e w2 ⟨x0, y0, x1, y1, rfl, hrc, hD2, hG2⟩
  have hGz := only_trans hG1 hG2
  have hz := z0.grown hGz (by simp; omega)
  have c0 := hz.cell 0
  have c1 := hz.cell 1
  have c2 := hz.cell 2
  have c3 := hz.cell 3
  have c4 := hz.cell 4
  have fz := hz.frozen
  have hA4 := only_trans hA hGz
  have Hrc := Lib.hid hrc
  clear hD0 hD1 hG1 hG2 z0 hA hGz hz hrc
  go_wp2
  refine bodyPost_ret (v := .agg #[.int .i64 l, .int .i64 x0, .int .i64 y0, .int .i64 x1, .int .i64 y1]) (by simp [results, Tryz.results67, go_sem, *]) rfl ?_
  refine ⟨_, _, _, _, _, rfl, ?_, (by repeat (first | (with_reducible exact ⟨hD2, hA4⟩) | refine dg_set ?_ hg (Nat.le_refl _) _ _))⟩
  unfold shapeB
  rw [Hrc.out, (inB_iff _ _ _).2 (by dsimp only; omega)]
  rfl

set_option maxHeartbeats 1600000 in
set_option maxRecDepth 100000 in
/-- l09DrawLabel. -/
theorem drawLabel_any (g : Nat) (w : World) (hD : Dice w g) : Calls Tryz.prog 77 #[.pointer (some ⟨g, 0, none⟩)] w fun e w' => ∃ (l x y : Int) (nm : ByteArray), e = .returned (.agg #[.int .i64 l, .int .i64 x, .int .i64 y, .string nm]) ∧ labelB ⟨l, x, y, nm⟩ = true ∧ nm.size ≤ 3 ∧ Dice w' g ∧ w.grownBy w' (some g) := by
  have hg := hD.lt
  have z0 := Bk.new w 121 #[.int .i64 0, .int .i64 0, .int .i64 0, .string ⟨#[]⟩]
  have hD0 := hD.alloc (.cells #[.int .i64 0, .int .i64 0, .int .i64 0, .string ⟨#[]⟩] 121)
  have hA := only_alloc (only_refl w (some g)) (.cells #[.int .i64 0, .int .i64 0, .int .i64 0, .string ⟨#[]⟩] 121)
  clear hD
  go_enter Tryz.func77, Tryz.ntmps77
  go_wp2_with fail
  refine (next_any g 8 _ hD0 (by omega)).mono ?_
  rintro e w1 ⟨l, rfl, hl, hD1, hG1⟩
  go_wp2_with fail
  refine (next_any g 16 _ hD1 (by omega)).mono ?_
  rintro e w2 ⟨k2, rfl, hk2, hD2, hG2⟩
  have e2 := Go.IntWalk.i64_in (k2 - 8) (by omega)
  go_wp2_with fail
  refine (next_any g 16 _ hD2 (by omega)).mono ?_
  rintro e w3 ⟨k3, rfl, hk3, hD3, hG3⟩
  have e3 := Go.IntWalk.i64_in (k3 - 8) (by omega)
  go_wp2_with fail
  refine (drawName_any g _ hD3).mono ?_
  rintro e w4 ⟨nm, rfl, ⟨hb, hn1, hn2⟩, hD4, hG4⟩
  have hGz := only_trans (only_trans (only_trans hG1 hG2) hG3) hG4
  have hz := z0.grown hGz (by simp; omega)
  have c0 := hz.cell 0
  have c1 := hz.cell 1
  have c2 := hz.cell 2
  have c3 := hz.cell 3
  have fz := hz.frozen
  have hA4 := only_trans hA hGz
  have Hb := Lib.hid hb
  clear hD0 hD1 hD2 hD3 hG1 hG2 hG3 hG4 z0 hA hGz hz hb
  go_wp2
  refine bodyPost_ret (v := .agg #[.int .i64 l, .int .i64 (k2 - 8), .int .i64 (k3 - 8), .string nm]) (by simp [results, Tryz.results77, go_sem, *]) rfl ?_
  refine ⟨_, _, _, _, rfl, ?_, hn2, (by repeat (first | (with_reducible exact ⟨hD4, hA4⟩) | refine dg_set ?_ hg (Nat.le_refl _) _ _))⟩
  unfold labelB nameB
  rw [(inB_iff _ _ _).2 (by dsimp only; omega), (onC_iff _ _).2 (by dsimp only; omega)]
  simp only [Hb.out, Bool.true_and, Bool.and_eq_true, decide_eq_true_eq]
  omega

theorem Bk.fill8 {w : World} {g : Nat} {t : TypeId} {z0 z1 z2 z3 z4 z5 z6 z7 : Value} (h : Bk w g t #[z0, z1, z2, z3, z4, z5, z6, z7]) (v0 v1 v2 v3 v4 v5 v6 v7 : Value) :
    Bk ((((((((w.setCell ⟨g, 0, none⟩ v0).setCell ⟨g, 1, none⟩ v1).setCell ⟨g, 2, none⟩ v2).setCell ⟨g, 3, none⟩ v3).setCell ⟨g, 4, none⟩ v4).setCell ⟨g, 5, none⟩ v5).setCell ⟨g, 6, none⟩ v6).setCell ⟨g, 7, none⟩ v7) g t #[v0, v1, v2, v3, v4, v5, v6, v7] := by
  have h8 := (((((((h.store 0 v0).store 1 v1).store 2 v2).store 3 v3).store 4 v4).store 5 v5).store 6 v6).store 7 v7
  simpa using h8
/-- An instance under way, in block b. -/
structure InSt (w W : World) (g b : Nat) (c o x y cols rows sx sy : Int) : Prop where
  res : Bk W w.heap.size 74 #[.int .i64 0, .int .i64 0, .int .i64 0, .int .i64 0, .int .i64 0, .int .i64 0, .int .i64 0, .int .i64 0]
  box : Bk W b 74 #[.int .i64 c, .int .i64 o, .int .i64 x, .int .i64 y, .int .i64 cols, .int .i64 rows, .int .i64 sx, .int .i64 sy]
  dice : Dice W g
  gro : w.grownBy W (some g)
  hg : g < w.heap.size
  hb : w.heap.size < b
theorem InSt.next {w W W' : World} {g b : Nat} {c o x y cols rows sx sy : Int} (h : InSt w W g b c o x y cols rows sx sy) (hD : Dice W' g) (hG : W.grownBy W' (some g)) : InSt w W' g b c o x y cols rows sx sy :=
  ⟨h.res.grown hG (by have := h.hg; simp; omega), h.box.grown hG (by have := h.hg; have := h.hb; simp; omega), hD, only_trans h.gro hG, h.hg, h.hb⟩
theorem InSt.put {w W : World} {g b : Nat} {c o x y cols rows sx sy : Int} (h : InSt w W g b c o x y cols rows sx sy) (i : Nat) (z c' o' x' y' cols' rows' sx' sy' : Int)
    (e : (#[.int .i64 c, .int .i64 o, .int .i64 x, .int .i64 y, .int .i64 cols, .int .i64 rows, .int .i64 sx, .int .i64 sy] : Array Value).setIfInBounds i (.int .i64 z) = #[.int .i64 c', .int .i64 o', .int .i64 x', .int .i64 y', .int .i64 cols', .int .i64 rows', .int .i64 sx', .int .i64 sy']) :
    InSt w (W.setCell ⟨b, i, none⟩ (.int .i64 z)) g b c' o' x' y' cols' rows' sx' sy' := by
  have hg := h.hg
  have hb := h.hb
  have h2 := dg_set ⟨h.dice, h.gro⟩ (show g < b by omega) (show w.heap.size ≤ b by omega) i (.int .i64 z)
  refine ⟨h.res.grown (only_store (only_refl W (some b)) i _) (by simp; omega), ?_, h2.1, h2.2, hg, hb⟩
  rw [← e]
  exact h.box.store i _
theorem stepB_one {s n : Int} (h : s = 0 ∨ 1 < n) : stepB s n = true := by
  unfold stepB
  simpa using h

theorem inst_ok {c o x y cols rows sx sy k : Int} (h1 : 0 ≤ c ∧ c ≤ k - 1) (h2 : 0 ≤ o ∧ o ≤ 7) (h3 : -80 ≤ x ∧ x ≤ 80) (h4 : -80 ≤ y ∧ y ≤ 80) (h5 : 1 ≤ cols ∧ cols ≤ 4) (h6 : 1 ≤ rows ∧ rows ≤ 4) (h7 : -80 ≤ sx ∧ sx ≤ 80) (h8 : -80 ≤ sy ∧ sy ≤ 80) (h9 : sx = 0 ∨ 1 < cols) (h10 : sy = 0 ∨ 1 < rows) : instB ⟨c, o, x, y, cols, rows, sx, sy⟩ k = true := by
  unfold instB transB
  rw [(inB_iff _ _ _).2 h1, (inB_iff _ _ _).2 h2, (inB_iff _ _ _).2 h3, (inB_iff _ _ _).2 h4, (inB_iff _ _ _).2 h5, (inB_iff _ _ _).2 h6, (inB_iff _ _ _).2 h7, (inB_iff _ _ _).2 h8, stepB_one h9, stepB_one h10]
  rfl
set_option maxHeartbeats 12800000 in
set_option maxRecDepth 100000 in
/-- l09DrawInstance. -/
theorem drawInst_any (g : Nat) (k : Int) (w : World) (hD : Dice w g) (hk : 1 ≤ k ∧ k ≤ 1000) : Calls Tryz.prog 65 #[.pointer (some ⟨g, 0, none⟩), .int .i64 k] w fun e w' => ∃ c o x y cols rows sx sy : Int,
    e = .returned (.agg #[.int .i64 c, .int .i64 o, .int .i64 x, .int .i64 y, .int .i64 cols, .int .i64 rows, .int .i64 sx, .int .i64 sy]) ∧ instB ⟨c, o, x, y, cols, rows, sx, sy⟩ k = true ∧ Dice w' g ∧ w.grownBy w' (some g) := by
  have hg := hD.lt
  have z0 := Bk.new w 74 #[.int .i64 0, .int .i64 0, .int .i64 0, .int .i64 0, .int .i64 0, .int .i64 0, .int .i64 0, .int .i64 0]
  have hD0 := hD.alloc (.cells #[.int .i64 0, .int .i64 0, .int .i64 0, .int .i64 0, .int .i64 0, .int .i64 0, .int .i64 0, .int .i64 0] 74)
  have hA := only_alloc (only_refl w (some g)) (.cells #[.int .i64 0, .int .i64 0, .int .i64 0, .int .i64 0, .int .i64 0, .int .i64 0, .int .i64 0, .int .i64 0] 74)
  clear hD
  go_enter Tryz.func65, Tryz.ntmps65
  go_wp2_with fail
  refine (next_ge1 g k _ hD0 (by omega)).mono ?_
  rintro e w1 ⟨c, rfl, hc, hD1, hG1⟩
  go_wp2_with fail
  refine (next_any g 8 _ hD1 (by omega)).mono ?_
  rintro e w2 ⟨o, rfl, ho, hD2, hG2⟩
  go_wp2_with fail
  refine (next_any g 24 _ hD2 (by omega)).mono ?_
  rintro e w3 ⟨k3, rfl, hk3, hD3, hG3⟩
  have e3 := Go.IntWalk.i64_in (k3 - 12) (by omega)
  go_wp2_with fail
  refine (next_any g 24 _ hD3 (by omega)).mono ?_
  rintro e w4 ⟨k4, rfl, hk4, hD4, hG4⟩
  have e4 := Go.IntWalk.i64_in (k4 - 12) (by omega)
  have hGz := only_trans (only_trans (only_trans hG1 hG2) hG3) hG4
  have hz := z0.grown hGz (by simp; omega)
  have hA4 := only_trans hA hGz
  clear hD0 hD1 hD2 hD3 hG1 hG2 hG3 hG4 z0 hA hGz
  have S0 : InSt w (w4.alloc (.cells #[.int .i64 c, .int .i64 o, .int .i64 (k3 - 12), .int .i64 (k4 - 12), .int .i64 1, .int .i64 1, .int .i64 0, .int .i64 0] 74)) g w4.heap.size c o (k3 - 12) (k4 - 12) 1 1 0 0 := ⟨hz.alloc _, Bk.new _ _ _, hD4.alloc _, only_alloc hA4 _, hg, hz.lt⟩
  clear hz hD4 hA4
  go_wp2_with fail
  refine (next_any g 3 _ S0.dice (by omega)).mono ?_
  rintro e v1 ⟨q1, rfl, hq1, D1, G1⟩
  have S1 := S0.next D1 G1
  clear S0 D1 G1
  go_upto_if 21 with fail
  go_cut [] from 6 to 46 (fun wx => ∃ cols sx : Int, (1 ≤ cols ∧ cols ≤ 3) ∧ (-7 ≤ sx ∧ sx ≤ 7) ∧ (sx = 0 ∨ 1 < cols) ∧ InSt w wx g w4.heap.size c o (k3 - 12) (k4 - 12) cols 1 sx 0)
  case first =>
    by_cases hz1 : q1 = 0
    · subst hz1
      go_wp2_with fail
      refine (next_any g 2 _ S1.dice (by omega)).mono ?_
      rintro e v2 ⟨j1, rfl, hj1, D2, G2⟩
      have S2 := S1.next D2 G2
      clear S1 D2 G2
      have c3 := S2.box.cell 4
      have f3 := S2.box.frozen 4
      have e3 := Go.IntWalk.i64_in (2 + j1) (by omega)
      have S3 := S2.put 4 (2 + j1) c o (k3 - 12) (k4 - 12) (2 + j1) 1 0 0 rfl
      clear S2
      go_wp2_with fail
      clear c3 f3
      refine (next_any g 15 _ S3.dice (by omega)).mono ?_
      rintro e v4 ⟨j2, rfl, hj2, D4, G4⟩
      have S4 := S3.next D4 G4
      clear S3 D4 G4
      have c5 := S4.box.cell 6
      have f5 := S4.box.frozen 6
      have e5 := Go.IntWalk.i64_in (j2 - 7) (by omega)
      have S5 := S4.put 6 (j2 - 7) c o (k3 - 12) (k4 - 12) (2 + j1) 1 (j2 - 7) 0 rfl
      clear S4
      go_wp2_with fail
      clear c5 f5
      go_meet
      exact ⟨2 + j1, j2 - 7, by omega, by omega, by omega, S5⟩
    · have hz1' : (q1 == 0) = false := by simpa using hz1
      go_wp2_with fail
      go_meet
      exact ⟨1, 0, by omega, by omega, by omega, S1⟩
  clear hq1 S1
  obtain ⟨cols, sx, hC, hX, hCX, SA⟩ := hcut
  obtain ⟨w5, rfl⟩ : ∃ W : World, W = wc := ⟨_, rfl⟩
  go_wp2_with fail
  refine (next_any g 4 _ SA.dice (by omega)).mono ?_
  rintro e v6 ⟨q2, rfl, hq2, D6, G6⟩
  have S6 := SA.next D6 G6
  clear SA D6 G6
  go_upto_if 32 with fail
  go_cut [] from 6 to 46 (fun wx => ∃ rows sy : Int, (1 ≤ rows ∧ rows ≤ 2) ∧ (-7 ≤ sy ∧ sy ≤ 7) ∧ (sy = 0 ∨ 1 < rows) ∧ InSt w wx g w4.heap.size c o (k3 - 12) (k4 - 12) cols rows sx sy)
  case first =>
    by_cases hz2 : q2 = 0
    · subst hz2
      have c7 := S6.box.cell 5
      have f7 := S6.box.frozen 5
      have S7 := S6.put 5 2 c o (k3 - 12) (k4 - 12) cols 2 sx 0 rfl
      clear S6
      go_wp2_with fail
      clear c7 f7
      refine (next_any g 15 _ S7.dice (by omega)).mono ?_
      rintro e v8 ⟨j3, rfl, hj3, D8, G8⟩
      have S8 := S7.next D8 G8
      clear S7 D8 G8
      have c9 := S8.box.cell 7
      have f9 := S8.box.frozen 7
      have e9 := Go.IntWalk.i64_in (j3 - 7) (by omega)
      have S9 := S8.put 7 (j3 - 7) c o (k3 - 12) (k4 - 12) cols 2 sx (j3 - 7) rfl
      clear S8
      go_wp2_with fail
      clear c9 f9
      go_meet
      exact ⟨2, j3 - 7, by omega, by omega, by omega, S9⟩
    · have hz2' : (q2 == 0) = false := by simpa using hz2
      go_wp2_with fail
      go_meet
      exact ⟨1, 0, by omega, by omega, by omega, S6⟩
  clear hq2 S6
  obtain ⟨rows, sy, hR, hY, hRY, SB⟩ := hcut
  obtain ⟨w6, rfl⟩ : ∃ W : World, W = wc := ⟨_, rfl⟩
  go_wp2_with fail
  refine (next_any g 24 _ SB.dice (by omega)).mono ?_
  rintro e v10 ⟨q3, rfl, hq3, D10, G10⟩
  have S10 := SB.next D10 G10
  clear SB D10 G10
  go_upto_if 40 with fail
  go_cut [] from 6 to 46 (fun wx => ∃ x : Int, (-80 ≤ x ∧ x ≤ 80) ∧ InSt w wx g w4.heap.size c o x (k4 - 12) cols rows sx sy)
  case first =>
    by_cases hz3 : q3 = 0
    · subst hz3
      have ex := Go.IntWalk.i64_in ((k3 - 12) * 6) (by omega)
      have c11 := S10.box.cell 2
      have f11 := S10.box.frozen 2
      have S11 := S10.put 2 ((k3 - 12) * 6) c o ((k3 - 12) * 6) (k4 - 12) cols rows sx sy rfl
      clear S10
      go_wp2_with fail
      clear c11 f11
      go_meet
      exact ⟨(k3 - 12) * 6, by omega, S11⟩
    · have hz3' : (q3 == 0) = false := by simpa using hz3
      go_wp2_with fail
      go_meet
      exact ⟨k3 - 12, by omega, S10⟩
  clear hq3 S10
  obtain ⟨x, hx, SC⟩ := hcut
  obtain ⟨w7, rfl⟩ : ∃ W : World, W = wc := ⟨_, rfl⟩
  have r := Lib.hid SC.res
  have bx := SC.box
  have x0 := bx.cell 0
  have x1 := bx.cell 1
  have x2 := bx.cell 2
  have x3 := bx.cell 3
  have x4 := bx.cell 4
  have x5 := bx.cell 5
  have x6 := bx.cell 6
  have x7 := bx.cell 7
  have r0 := r.out.cell 0
  have r1 := r.out.cell 1
  have r2 := r.out.cell 2
  have r3 := r.out.cell 3
  have r4 := r.out.cell 4
  have r5 := r.out.cell 5
  have r6 := r.out.cell 6
  have r7 := r.out.cell 7
  have fr := r.out.frozen
  have D := SC.dice
  have G := SC.gro
  have hb9 := SC.hb
  have HB := Lib.hid (show (0 ≤ c ∧ c ≤ k - 1) ∧ (0 ≤ o ∧ o ≤ 7) ∧ (-80 ≤ x ∧ x ≤ 80) ∧ (-80 ≤ k4 - 12 ∧ k4 - 12 ≤ 80) ∧ (1 ≤ cols ∧ cols ≤ 4) ∧ (1 ≤ rows ∧ rows ≤ 4) ∧ (-80 ≤ sx ∧ sx ≤ 80) ∧ (-80 ≤ sy ∧ sy ≤ 80) ∧ (sx = 0 ∨ 1 < cols) ∧ (sy = 0 ∨ 1 < rows) from by omega)
  have DG := Lib.hid (And.intro D G)
  clear SC bx D G hx hR hY hRY hC hX hCX hc ho hk3 hk4 e3 e4 hk
  go_wp2
  have DG2 := Lib.hid (dg_set (dg_set (dg_set (dg_set (dg_set (dg_set (dg_set (dg_set DG.out hg (Nat.le_refl _) 0 (.int .i64 c)) hg (Nat.le_refl _) 1 (.int .i64 o)) hg (Nat.le_refl _) 2 (.int .i64 x)) hg (Nat.le_refl _) 3 (.int .i64 (k4 - 12))) hg (Nat.le_refl _) 4 (.int .i64 cols)) hg (Nat.le_refl _) 5 (.int .i64 rows)) hg (Nat.le_refl _) 6 (.int .i64 sx)) hg (Nat.le_refl _) 7 (.int .i64 sy))
  have RF := r.out.fill8 (.int .i64 c) (.int .i64 o) (.int .i64 x) (.int .i64 (k4 - 12)) (.int .i64 cols) (.int .i64 rows) (.int .i64 sx) (.int .i64 sy)
  clear x0 r0 x1 r1 x2 r2 x3 r3 x4 r4 x5 r5 x6 r6 x7 r7 fr DG r
  revert DG2 RF
  generalize ((((((((w7.setCell ⟨w.heap.size, 0, none⟩ (.int .i64 c)).setCell ⟨w.heap.size, 1, none⟩ (.int .i64 o)).setCell ⟨w.heap.size, 2, none⟩ (.int .i64 x)).setCell ⟨w.heap.size, 3, none⟩ (.int .i64 (k4 - 12))).setCell ⟨w.heap.size, 4, none⟩ (.int .i64 cols)).setCell ⟨w.heap.size, 5, none⟩ (.int .i64 rows)).setCell ⟨w.heap.size, 6, none⟩ (.int .i64 sx)).setCell ⟨w.heap.size, 7, none⟩ (.int .i64 sy)) = W8
  intro DG2 RF
  have Z0 := RF.cell 0
  have Z1 := RF.cell 1
  have Z2 := RF.cell 2
  have Z3 := RF.cell 3
  have Z4 := RF.cell 4
  have Z5 := RF.cell 5
  have Z6 := RF.cell 6
  have Z7 := RF.cell 7
  refine bodyPost_ret (v := .agg #[.int .i64 c, .int .i64 o, .int .i64 x, .int .i64 (k4 - 12), .int .i64 cols, .int .i64 rows, .int .i64 sx, .int .i64 sy]) (by simp [results, Tryz.results65, go_sem, Z0, Z1, Z2, Z3, Z4, Z5, Z6, Z7]) rfl ?_
  refine ⟨c, o, x, k4 - 12, cols, rows, sx, sy, rfl, ?_, DG2.out⟩
  obtain ⟨b1, b2, b3, b4, b5, b6, b7, b8, b9, b10⟩ := HB.out
  exact inst_ok b1 b2 b3 b4 b5 b6 b7 b8 b9 b10

end Go.Proofs.YtgegbgkokkdmpaaGreat
