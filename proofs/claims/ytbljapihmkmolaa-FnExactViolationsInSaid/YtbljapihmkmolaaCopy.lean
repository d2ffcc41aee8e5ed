/- Contracts: a violation copied (by the reference, by the program); an append to a list of violations of the call's own. Conditions: lists in memory, not empty. -/
import Derived.Test.YtbljapihmkmolaaVOps
import Derived.Test.YtbljapihmkmolaaCompKit
import Derived.StillTailTactics
import Derived.BigRegion
import Derived.Deep.CutRange
namespace Go.Proofs.Ytbljapihmkmolaa
open Go.RowKit

theorem flat_cells {w : World} {B : Nat} {u : Value} {qs : List Rc} (hu : RL w B u qs) (hne : qs ≠ []) : ∃ g cap, u = .slice (some ⟨g, 0, none⟩) qs.length cap ∧ ∀ (j : Nat) (y : Value), (flatR qs)[j]? = some y → w.cell? ⟨g, j, none⟩ = some y := by
  unfold RL at hu
  rcases hu.2 with ⟨hv, hn⟩ | ⟨g, cap, cur, hv, hg, hh, hnc, hcm, hcs, htake⟩
  · exact absurd (List.length_eq_zero_iff.1 hn) hne
  · refine ⟨g, cap, hv, fun j y hy => ?_⟩
    rw [cell_of_row w g j cur _ (0, 0) hh]
    rw [← htake, List.getElem?_take] at hy
    split at hy
    · simpa using hy
    · cases hy
theorem flat_one (qs : List Rc) : ∀ y ∈ flatR qs, y.oneCell' = true := by
  intro y hy
  simp only [flatR, List.mem_flatMap, Rc.vals] at hy
  obtain ⟨r, _, hy⟩ := hy
  simp at hy
  rcases hy with rfl | rfl | rfl | rfl <;> rfl
/-- 'append(list, more...)' in a region that draws its order. -/
theorem step_append_RR {W : World} {ops : Array Oper} {o : Oper} {a : Act} {K : Act → World → Prop} {Q : Exit → Act → World → Prop} {E : Prop} (hgd : o.guard = none) (s x : Operand)
    (ho : o.op = .call { callee := .builtin .append, args := #[s, x], argTypes := #[27, 27] })
    (B B' : Nat) (v u : Value) (rs qs : List Rc) (hs : a.eval s = v) (hown : RL W B v rs) (hx : a.eval x = u) (hu : RL W B' u qs) (hne : qs ≠ [])
    (hlen : rs.length + qs.length ≤ 1000000) (hB : B ≤ W.heap.size)
    (h : ∀ v' w', RL w' B v' (rs ++ qs) → W.grownBy w' v.ownBlock → Below B W w' → K (a.put o.dst v') w') :
    if Region.wanted o (yielded ops a.tmps) = true then Oper.wp Try.prog o a W K Q else E := by
  obtain ⟨i, hi, hz, hsz, hby⟩ := info_parts infoRect
  obtain ⟨g, cap, rfl, hc⟩ := flat_cells hu hne
  rw [if_pos (by simp [Region.wanted, hgd])]
  refine wp_append_own _ s x 27 ho B 34 i _ 4 32 Try.underlying27 hi hz hsz hby rfl (by decide) v rs.length (flatR rs) hs hown ⟨g, 0, none⟩ qs.length cap
    (flatR qs) hx (flatR_length qs) ?_ (flat_one qs) (by simp only [maxLen]; omega) (by omega) hB ?_
  · intro j u hu
    rw [Addr.add_lit, Nat.zero_add]
    exact hc j u hu
  · intro v' w' h1 h2 _
    refine h v' w' ?_ h2 (below_own hown h2 hB)
    unfold RL
    rw [flatR_append, List.length_append]
    exact h1
theorem RL.lit0 (w : World) {B : Nat} (hB : B ≤ w.heap.size) : RL (w.alloc (.cells #[] 34)) B (.slice (some ⟨w.heap.size, 0, none⟩) 0 0) [] := World.ownsRow_lit w #[] 0 hB (by simp [maxLen]) rfl

set_option maxHeartbeats 800000 in
set_option maxRecDepth 100000 in
/-- slices.Clone of a list of rectangles. -/
theorem clone_any (v : Value) (rs : List Rc) (w : World) (hv : RL w 0 v rs) (hne : rs ≠ []) (hl : rs.length ≤ 1000000) :
    Calls Try.prog 69 #[v] w fun e w' => ∃ u, e = .returned u ∧ RL w' w.heap.size u rs ∧ Below w.heap.size w w' := by
  obtain ⟨g, cap, rfl, hc⟩ := flat_cells hv hne
  have hv1 := RL.alloc hv (.cells #[] 34)
  have l1 := RL.lit0 w (B := w.heap.size) (Nat.le_refl _)
  have b1 := (Below.refl w.heap.size w).alloc (Nat.le_refl _) (.cells #[] 34)
  have hs := b1.size
  have hnil : ∀ w : World, (binOp .eql 27 (.slice (some ⟨g, 0, none⟩) rs.length cap) (.slice none 0 0)).run Try.prog w = .ok (.bool false) w := fun w => Lib.run_eql_slice_nil w 27 34 _ _ _ _ _ Try.underlying27
  clear hc hv
  go_enter Try.func69, Try.ntmps69
  go_wp2_with (at_builtin; refine wpList_append_RR rfl (.tmp 5) (.tmp 6) rfl w.heap.size 0 _ _ [] rs rfl l1 rfl hv1 (by simpa using hl) hs ?_; intro v' w3 hR4 hb4)
  go_ret
  exact ⟨_, rfl, by simpa using hR4, b1.trans hb4⟩

/-- What lies in memory for a violation that was copied. -/
def CopyOf (w : World) (k : Int) (rs : List Rc) (e : Ending) (w' : World) : Prop := ∃ u, e = .returned (.agg #[.int .i64 k, u]) ∧ RL w' w.heap.size u rs ∧ Below w.heap.size w w'

set_option maxHeartbeats 800000 in
set_option maxRecDepth 100000 in
theorem copy_impl (k : Int) (v : Value) (rs : List Rc) (w : World) (hv : RL w 0 v rs) (hne : rs ≠ []) (hl : rs.length ≤ 1000000) :
    Calls Try.prog 56 #[.agg #[.int .i64 k, v]] w (CopyOf w k rs) := by
  obtain ⟨A, c, rfl, -, -, -⟩ := hv.form
  have e1 : (w.alloc (.cells #[.int .i64 k, .slice A rs.length c] 29)).heap.size = w.heap.size + 1 := by simp
  have x0 := (Bk.new w 29 #[.int .i64 k, .slice A rs.length c]).alloc (.cells #[.int .i64 0, .slice none 0 0] 29)
  have y0 := Bk.new (w.alloc (.cells #[.int .i64 k, .slice A rs.length c] 29)) 29 #[.int .i64 0, .slice none 0 0]
  rw [e1] at y0
  have hV := RL.alloc (RL.alloc hv (.cells #[.int .i64 k, .slice A rs.length c] 29)) (.cells #[.int .i64 0, .slice none 0 0] 29)
  have hB := ((Below.refl w.heap.size w).alloc (Nat.le_refl _) (.cells #[.int .i64 k, .slice A rs.length c] 29)).alloc (by simp) (.cells #[.int .i64 0, .slice none 0 0] 29)
  have hsz : ((w.alloc (.cells #[.int .i64 k, .slice A rs.length c] 29)).alloc (.cells #[.int .i64 0, .slice none 0 0] 29)).heap.size = w.heap.size + 2 := by simp
  have Hsz := Lib.hid hsz
  clear hv e1 hsz
  go_enter Try.func56, Try.ntmps56
  go_upto_region 1 with fail
  obtain ⟨W, hW⟩ : ∃ W, W = (w.alloc (.cells #[.int .i64 k, .slice A rs.length c] 29)).alloc (.cells #[.int .i64 0, .slice none 0 0] 29) := ⟨_, rfl⟩
  rw [← hW] at x0 y0 hV hB ⊢
  rw [← hW] at Hsz
  clear hW
  have vv : RL W.drew 0 _ rs := hV
  have xx := x0.drew
  have yy := y0.drew
  have tc := hB.drew
  have Hsz2 := Lib.hid (show W.drew.heap.size = w.heap.size + 2 from Hsz.out)
  have Hle := Lib.hid (show w.heap.size ≤ W.drew.heap.size by have := Hsz2.out; omega)
  clear x0 y0 hV hB Hsz
  go_region_held3 (fun w' => w'.cell? ⟨w.heap.size, 0, none⟩ = some (.int .i64 k) ∧ w'.cell? ⟨w.heap.size, 1, none⟩ = some (.slice A rs.length c)) (first | exact box2 xx | exact box2 x7)
    ((go_at_call 69; refine (clone_any _ rs _ vv hne hl).mono ?_; rintro e w3 ⟨u, rfl, hU, hb3⟩; obtain ⟨Au, cu, rfl, -, -, -⟩ := hU.form; have xx := xx.on hb3; have yy := yy.on hb3; have tc := tc.trans (hb3.mono tc.size); have z0 := yy.frozen 0; have z1 := yy.frozen 1; obtain ⟨d0, d1⟩ := box2 yy; have x7 := (xx.other (p := ⟨w.heap.size + 1, 0, none⟩) (show w.heap.size ≠ w.heap.size + 1 by omega) (.int .i64 k)).other (p := ⟨w.heap.size + 1, 1, none⟩) (show w.heap.size ≠ w.heap.size + 1 by omega) (.slice Au rs.length cu)))
  have hwne : (Value.slice Au rs.length cu).ownBlock ≠ some (w.heap.size + 1) := by
    intro h
    have := (hU.lt _ h).1
    have := Hsz2.out
    omega
  have hs3 := hU.less Hle.out
  have Hu := Lib.hid (hs3.less (Nat.le_refl _))
  have y9 := yy
  have A1 := (yy.store 0 (.int .i64 k)).store 1 (.slice Au rs.length cu)
  have HU := Lib.hid (own_other (p := ⟨w.heap.size + 1, 1, none⟩) (own_other (p := ⟨w.heap.size + 1, 0, none⟩) hs3 hwne (.int .i64 k)) hwne (.slice Au rs.length cu))
  have Hb := Lib.hid ((tc.setCell (p := ⟨w.heap.size + 1, 0, none⟩) (Nat.le_succ _) (.int .i64 k)).setCell (p := ⟨w.heap.size + 1, 1, none⟩) (Nat.le_succ _) (.slice Au rs.length cu))
  have q0 := A1.cell 0
  have q1 := A1.cell 1
  simp at q0 q1
  clear hU hb3 y9 A1 Hsz2 hs3 Hu hwne vv x7 xx yy tc
  go_wp2
  refine bodyPost_ret (v := .agg #[.int .i64 k, .slice Au rs.length cu]) (by simp [results, Try.results56, go_sem, q0, q1]) rfl ?_
  exact ⟨_, rfl, HU.out, Hb.out⟩

set_option maxHeartbeats 800000 in
set_option maxRecDepth 100000 in
theorem copy_spec (k : Int) (v : Value) (rs : List Rc) (w : World) (hv : RL w 0 v rs) (hne : rs ≠ []) (hl : rs.length ≤ 1000000) :
    Calls Try.prog 54 #[.agg #[.int .i64 k, v]] w (CopyOf w k rs) := by
  obtain ⟨A, c, rfl, -, -, -⟩ := hv.form
  have e1 : (w.alloc (.cells #[.int .i64 k, .slice A rs.length c] 29)).heap.size = w.heap.size + 1 := by simp
  have x0 := (Bk.new w 29 #[.int .i64 k, .slice A rs.length c]).alloc (.cells #[.int .i64 0, .slice none 0 0] 29)
  have y0 := Bk.new (w.alloc (.cells #[.int .i64 k, .slice A rs.length c] 29)) 29 #[.int .i64 0, .slice none 0 0]
  rw [e1] at y0
  have hV := RL.alloc (RL.alloc hv (.cells #[.int .i64 k, .slice A rs.length c] 29)) (.cells #[.int .i64 0, .slice none 0 0] 29)
  have hB := ((Below.refl w.heap.size w).alloc (Nat.le_refl _) (.cells #[.int .i64 k, .slice A rs.length c] 29)).alloc (by simp) (.cells #[.int .i64 0, .slice none 0 0] 29)
  have hsz : ((w.alloc (.cells #[.int .i64 k, .slice A rs.length c] 29)).alloc (.cells #[.int .i64 0, .slice none 0 0] 29)).heap.size = w.heap.size + 2 := by simp
  have Hsz := Lib.hid hsz
  clear hv e1 hsz
  go_enter Try.func54, Try.ntmps54
  go_upto_region 1 with fail
  obtain ⟨W, hW⟩ : ∃ W, W = (w.alloc (.cells #[.int .i64 k, .slice A rs.length c] 29)).alloc (.cells #[.int .i64 0, .slice none 0 0] 29) := ⟨_, rfl⟩
  rw [← hW] at x0 y0 hV hB ⊢
  rw [← hW] at Hsz
  clear hW
  have Hle := Lib.hid (show w.heap.size ≤ W.heap.size by have := Hsz.out; omega)
  obtain ⟨c0, c1⟩ := box2 x0
  have k0 := fun o => (box2 (x0.alloc o)).1
  have k1 := fun o => (box2 (x0.alloc o)).2
  have v0 := (RL.alloc hV (.cells #[] 34)).drew
  have xa := (x0.alloc (.cells #[] 34)).drew
  have ya := (y0.alloc (.cells #[] 34)).drew
  have ta := (hB.alloc (Hle.out) (.cells #[] 34)).drew
  have l0 := (RL.lit0 W (B := W.heap.size) (Nat.le_refl _)).drew
  have hl2 : ([] : List Rc).length + rs.length ≤ 1000000 := by simpa using hl
  have Hs7 := Lib.hid (show (W.alloc (.cells #[] 34)).drew.heap.size = W.heap.size + 1 by show (W.alloc (.cells #[] 34)).heap.size = _; simp)
  have XA := Lib.hid xa
  have YA := Lib.hid ya
  have TA := Lib.hid ta
  clear x0 y0 hB hV xa ya ta
  go_region_law (refine step_append_RR rfl (.tmp 5) (.tmp 7) rfl W.heap.size 0 _ _ [] rs rfl l0 rfl v0 hne hl2 (by rw [Hs7.out]; omega) ?_; intro v1 w6 ho1 hg1 hb6; rw [List.nil_append] at ho1; obtain ⟨Au, cu, rfl, -, -, -⟩ := ho1.form; have xb := Lib.hid (XA.out.grown hg1 (show some w.heap.size ≠ some W.heap.size by have := Hsz.out; simp; omega)); have yb := Lib.hid (YA.out.grown hg1 (show some (w.heap.size + 1) ≠ some W.heap.size by have := Hsz.out; simp; omega)); have tb := Lib.hid (TA.out.trans (hb6.mono Hle.out)); obtain ⟨e0, e1⟩ := box2 xb.out; have z0 := yb.out.frozen 0; have z1 := yb.out.frozen 1; obtain ⟨d0, d1⟩ := box2 yb.out; have ho2 := Lib.hid ho1; clear ho1 hg1 hb6)
  all_goals
    have hwne : (Value.slice Au rs.length cu).ownBlock ≠ some (w.heap.size + 1) := by
      intro h
      have := (ho2.out.lt _ h).1
      have := Hsz.out
      omega
    have HU := Lib.hid (own_other (p := ⟨w.heap.size + 1, 1, none⟩) (own_other (p := ⟨w.heap.size + 1, 0, none⟩) (RL.less ho2.out Hle.out) hwne (.int .i64 k)) hwne (.slice Au rs.length cu))
    have Hb := Lib.hid ((tb.out.setCell (p := ⟨w.heap.size + 1, 0, none⟩) (Nat.le_succ _) (.int .i64 k)).setCell (p := ⟨w.heap.size + 1, 1, none⟩) (Nat.le_succ _) (.slice Au rs.length cu))
    have A1 := (yb.out.store 0 (.int .i64 k)).store 1 (.slice Au rs.length cu)
    have q0 := A1.cell 0
    have q1 := A1.cell 1
    simp at q0 q1
    clear A1 hwne e0 e1 d0 d1 c0 c1 k0 k1
    go_wp2
    refine bodyPost_ret (v := .agg #[.int .i64 k, .slice Au rs.length cu]) (by simp [results, Try.results54, go_sem, q0, q1]) rfl ?_
    exact ⟨_, rfl, HU.out, Hb.out⟩

/-- 'out = append(out, v)' on a list of violations of the call's own. -/
theorem wpList_append_XW {w : World} {ops : Array Oper} {rest : List Oper} {o : Oper} {a : Act} {Q : Exit → Act → World → Prop} (hgd : o.guard = none) (s x : Operand)
    (ho : o.op = .call { callee := .builtin .append, args := #[s, x], argTypes := #[41, 41] })
    (B : Nat) (v : Value) (us : List Value) (vs : List (Int × List Rc)) (hs : a.eval s = v) (hown : XW w B v us vs) (k : Int) (u : Value) (rs : List Rc) (hu : RL w B u rs) (hx : a.eval x = .slice (some ⟨w.heap.size, 0, none⟩) 1 1) (hlen : vs.length ≤ 1000000) (hB : B ≤ w.heap.size)
    (h : ∀ v' w', XW w' B v' (us ++ [u]) (vs ++ [(k, rs)]) → Below B w w' → wpList Try.prog ops Q rest (a.put o.dst v') w') :
    wpList Try.prog ops Q (o :: rest) a (w.alloc (.cells #[.int .i64 k, u] 29)) := by
  have hone : u.oneCell' = true := by obtain ⟨A, c, rfl, _⟩ := hu.form; rfl
  obtain ⟨i, hi, hz, hsz, hby⟩ := info_parts infoVio
  refine wpList_append_own_at _ hgd s x 41 ho B 29 i _ 2 32 Try.underlying41 hi hz hsz hby rfl (by decide) v vs.length (flatV vs us) hs (World.ownsRow.alloc hown.own _) ⟨w.heap.size, 0, none⟩ 1 1
    [.int .i64 k, u] hx rfl ?_ ?_ (by simp only [maxLen]; omega) (by omega) (by simp; omega) ?_
  · intro j y hy
    rw [Addr.add_lit, World.cell?_alloc_new]
    simpa using hy
  · intro y hy
    simp at hy
    rcases hy with rfl | rfl
    · rfl
    · exact hone
  · intro v' w' h1 h2 _ _
    have h3 := grown_of_alloc h2
    refine h v' w' ⟨by simp [hown.len], ?_, fun j y q hy hq => ?_⟩ (below_own hown.own h3 hB)
    · rw [flatV_append _ _ _ _ hown.len, List.length_append]
      exact h1
    · by_cases hj : j < vs.length
      · rw [List.getElem?_append_left (by rw [hown.len]; exact hj)] at hy
        rw [List.getElem?_append_left hj] at hq
        have hr := hown.each j y q hy hq
        exact World.ownsRow.kept hr h3 (own_apart hr hown.own (by decide))
      · have hke : j = vs.length := by have := (List.getElem?_eq_some_iff.1 hq).1; simp at this; omega
        subst hke
        rw [List.getElem?_append_right (by rw [hown.len]; exact Nat.le_refl _), hown.len, Nat.sub_self] at hy
        rw [List.getElem?_append_right (Nat.le_refl _), Nat.sub_self] at hq
        simp at hy hq
        subst hy hq
        exact World.ownsRow.kept hu h3 (own_apart hu hown.own (by decide))
theorem XW.lit0 (w : World) {B : Nat} (hB : B ≤ w.heap.size) : XW (w.alloc (.cells #[] 29)) B (.slice (some ⟨w.heap.size, 0, none⟩) 0 0) [] [] := ⟨rfl, World.ownsRow_lit w #[] 0 hB (by simp [maxLen]) rfl, fun k u q hu => by simp at hu⟩

end Go.Proofs.Ytbljapihmkmolaa
