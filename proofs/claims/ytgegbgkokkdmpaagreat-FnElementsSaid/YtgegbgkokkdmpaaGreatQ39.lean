/- Contracts: whether a list has a number; the layouts of an element's shapes and of the rest. Condition: the flattened cell is well. Contracts: hasElement, ElementLayout, RestLayout of the program. Condition: the flattened cell is well. -/
import Derived.Test.YtgegbgkokkdmpaaGreatQ38
import Derived.Test.YtgegbgkokkdmpaaGreatQ30

namespace Go.Proofs.YtgegbgkokkdmpaaGreat
open Go.RowKit

def inES (es : List Int) (r : Int) : Bool := es.contains r
set_option maxHeartbeats 800000 in
set_option maxRecDepth 100000 in
/-- slices.Index at int64: negative exactly if the number is missing. -/
theorem idxI_any (v : Value) (es : List Int) (r : Int) (w : World) (hv : IL w 0 v es) :
    Calls Tryz.prog 38 #[v, .int .i64 r] w fun e w' => ∃ m : Int, e = .returned (.int .i64 m) ∧ Hid (decide (0 ≤ m) = inES es r) ∧ Below w.heap.size w w' := by
  obtain ⟨A, c, rfl, hc, hm⟩ := hv.form
  have hm' : es.length ≤ 9223372036854775807 := by unfold maxLen at hm; omega
  have HV := Lib.hid hv
  clear hv hm
  go_enter Tryz.func38, Tryz.ntmps38
  go_wp2
  go_loopw [8] (fun iv wr => ∃ i : Nat, i ≤ es.length ∧ iv = .int .i64 i ∧ Hid ((es.take i).contains r = false) ∧ Below w.heap.size w wr) (fun iv _ => es.length - (intOf iv).toNat)
  case atStart => exact ⟨0, Nat.zero_le _, rfl, Lib.hid (by simp), Below.refl _ _⟩
  case round =>
    obtain ⟨i, hi, rfl, HA, hb⟩ := hrel
    by_cases hlt : i < es.length
    · obtain ⟨g, x, rfl, hx, -, hg, hc0⟩ := (IL.on HV.out hb).elem hlt
      have Hx := Lib.hid hx
      clear hx
      cases hrx : (r == x) with
      | true =>
        go_wp2
        go_ret
        refine ⟨i, rfl, Lib.hid ?_, hb⟩
        rw [decide_eq_true (by omega)]
        symm
        unfold inES
        rw [List.contains_iff_mem]
        have : r = x := by simpa using hrx
        rw [this]
        exact List.mem_of_getElem? Hx.out
      | false =>
        go_wp2
        refine ⟨⟨i + 1, by omega, by go_num, Lib.hid ?_, hb⟩, by simp [intOf]; omega⟩
        have h := HA.out
        rw [List.take_add_one, Hx.out, Option.toList_some]
        rw [Bool.eq_false_iff] at h ⊢
        intro hm
        rw [List.contains_iff_mem, List.mem_append, List.mem_singleton] at hm
        rcases hm with hm | hm
        · exact h (List.contains_iff_mem.2 hm)
        · rw [hm] at hrx
          simp at hrx
    · obtain rfl : i = es.length := by omega
      go_wp2
      go_ret
      refine ⟨-1, rfl, Lib.hid ?_, hb⟩
      have h := HA.out
      rw [List.take_length] at h
      unfold inES
      rw [h]
      rfl
set_option maxHeartbeats 800000 in
/-- slices.Contains at int64. -/
theorem hasI64_any (v : Value) (es : List Int) (r : Int) (w : World) (hv : IL w 0 v es) :
    Calls Tryz.prog 21 #[v, .int .i64 r] w fun e w' => e = .returned (.bool (inES es r)) ∧ Below w.heap.size w w' := by
  obtain ⟨A, c, rfl, hc, hm⟩ := hv.form
  go_enter Tryz.func21, Tryz.ntmps21
  go_wp2_with (go_at_call 38; (with_reducible refine (idxI_any _ es r _ hv).mono ?_); rintro e w1 ⟨m, rfl, Hm, hb1⟩)
  go_ret
  exact ⟨congrArg (fun b => Ending.returned (Value.bool b)) Hm.out, hb1⟩

set_option maxHeartbeats 800000 in
/-- The closure of ElementLayout. -/
theorem cloE_any (r e0 : Int) (eb : Nat) (w : World) (hc : w.cell? ⟨eb, 0, none⟩ = some (.int .i64 e0)) :
    Calls Tryz.prog 19 #[.int .i64 r, .pointer (some ⟨eb, 0, none⟩)] w fun e w' => e = .returned (.bool (decide (r = e0))) ∧ Below w.heap.size w w' := by
  go_enter Tryz.func19, Tryz.ntmps19
  go_wp2
  go_ret
  exact ⟨rfl, Below.refl _ _⟩
set_option maxHeartbeats 800000 in
/-- The closure of RestLayout. -/
theorem cloR_any (r : Int) (es : List Int) (v : Value) (eb : Nat) (w : World) (hv : IL w 0 v es) (hc : w.cell? ⟨eb, 0, none⟩ = some v) :
    Calls Tryz.prog 20 #[.int .i64 r, .pointer (some ⟨eb, 0, none⟩)] w fun e w' => e = .returned (.bool (!inES es r)) ∧ Below w.heap.size w w' := by
  obtain ⟨A, c, rfl, -, hm⟩ := hv.form
  go_enter Tryz.func20, Tryz.ntmps20
  go_wp2_with (go_at_call 21; (with_reducible refine (hasI64_any _ es r _ hv).mono ?_); rintro e w1 ⟨rfl, hb1⟩)
  go_ret
  exact ⟨rfl, hb1⟩

theorem pick_succ (p : Int → Bool) {xs : List (Int × ShapeD)} {i : Nat} {x : Int × ShapeD} (h : xs[i]? = some x) : pick p (xs.take (i + 1)) = if p x.1 then pick p (xs.take i) ++ [x.2] else pick p (xs.take i) := by
  unfold pick
  rw [List.take_add_one, h, Option.toList_some, List.filter_append, List.map_append]
  cases hp : p x.1 with
  | true => rw [if_pos rfl, List.filter_cons_of_pos (by simpa using hp), List.filter_nil]; rfl
  | false => rw [if_neg (by simp), List.filter_cons_of_neg (by simpa using hp), List.filter_nil, List.map_nil, List.append_nil]
theorem pick_len (p : Int → Bool) (xs : List (Int × ShapeD)) (i : Nat) : (pick p (xs.take i)).length ≤ xs.length := by
  unfold pick
  rw [List.length_map]
  refine Nat.le_trans (List.length_filter_le _ _) ?_
  rw [List.length_take]
  omega
theorem RtL.elem6 {w : World} {B : Nat} {A : Option Addr} {m c k : Nat} {xs : List (Int × ShapeD)} (h : RtL w B (.slice A m c) xs) (hk : k < xs.length) : ∃ g r l x0 y0 x1 y1, A = some ⟨g, 0, none⟩ ∧ xs[k]? = some (r, ⟨l, ⟨x0, y0, x1, y1⟩⟩) ∧ g < w.heap.size ∧
    w.cell? ⟨g, k * 6, none⟩ = some (.int .i64 r) ∧ w.cell? ⟨g, k * 6 + 1, none⟩ = some (.int .i64 l) ∧ w.cell? ⟨g, k * 6 + 2, none⟩ = some (.int .i64 x0) ∧ w.cell? ⟨g, k * 6 + 3, none⟩ = some (.int .i64 y0) ∧ w.cell? ⟨g, k * 6 + 4, none⟩ = some (.int .i64 x1) ∧ w.cell? ⟨g, k * 6 + 5, none⟩ = some (.int .i64 y1) := by
  obtain ⟨g, ⟨r, ⟨l, ⟨x0, y0, x1, y1⟩⟩⟩, hA, hp, -, hg, hc⟩ := FL.elem rshV_len h hk
  exact ⟨g, r, l, x0, y0, x1, y1, hA, hp, hg, hc 0 _ rfl, hc 1 _ rfl, hc 2 _ rfl, hc 3 _ rfl, hc 4 _ rfl, hc 5 _ rfl⟩
theorem box6r {w : World} {g : Nat} {t : TypeId} {a b c d e f : Value} (h : Bk w g t #[a, b, c, d, e, f]) : w.cell? ⟨g, 0, none⟩ = some a ∧ w.cell? ⟨g, 1, none⟩ = some b ∧ w.cell? ⟨g, 2, none⟩ = some c ∧ w.cell? ⟨g, 3, none⟩ = some d ∧ w.cell? ⟨g, 4, none⟩ = some e ∧ w.cell? ⟨g, 5, none⟩ = some f :=
  ⟨h.cell 0, h.cell 1, h.cell 2, h.cell 3, h.cell 4, h.cell 5⟩

set_option maxHeartbeats 3200000 in
set_option maxRecDepth 100000 in
/-- chosenLayers with the closure of ElementLayout. -/
theorem chosenE_any (v : Value) (xs : List (Int × ShapeD)) (w : World) (hv : RtL w 0 v xs) (hl : xs.length ≤ 10000) (e0 : Int) (eb : Nat) (hcE : w.cell? ⟨eb, 0, none⟩ = some (.int .i64 e0)) (hlE : eb < w.heap.size) :
    Calls Tryz.prog 18 #[v, .func (.func 19) #[] #[.pointer (some ⟨eb, 0, none⟩)]] w fun e w' => ∃ u, e = .returned u ∧ RLL w' w.heap.size u (layL (pick (fun r => decide (r = e0)) xs) 8) ∧ Below w.heap.size w w' := by
  obtain ⟨A, c, rfl, hc, hm⟩ := hv.form
  have HV := Lib.hid hv
  have l0 : ShL (w.alloc (.cells #[] 70)) w.heap.size (.slice (some ⟨w.heap.size, 0, none⟩) 0 0) [] := FL.lit9 w (Nat.le_refl _)
  have b0 := o_allocF w (.cells #[] 70)
  have HC := Lib.hid (fun (r : Int) (W : World) (h : Below w.heap.size w W) => cloE_any r e0 eb W (bcell1 h hlE hcE))
  clear hv hm hcE hlE
  go_enter Tryz.func18, Tryz.ntmps18
  go_wp2
  go_loopw [5, 11] (fun lw iv wr => ∃ i : Nat, i ≤ xs.length ∧ iv = .int .i64 i ∧ ShL wr w.heap.size lw (pick (fun r => decide (r = e0)) (xs.take i)) ∧ Below w.heap.size w wr) (fun _ iv _ => xs.length - (intOf iv).toNat)
  case atStart => exact ⟨0, Nat.zero_le _, rfl, by rw [show pick (fun r => decide (r = e0)) (xs.take 0) = [] by simp [pick]]; exact l0, b0⟩
  case round =>
    obtain ⟨wo, hwo⟩ : ∃ wo, wo = wr := ⟨_, rfl⟩
    subst hwo
    obtain ⟨i, hi, rfl, hR, hb⟩ := hrel
    clear l0 b0
    by_cases hlt : i < xs.length
    · obtain ⟨g, r, l, x0, y0, x1, y1, rfl, hx, hg, s0, s1, s2, s3, s4, s5⟩ := RtL.elem6 (FL.on HV.out hb) hlt
      have Hpk := Lib.hid (pick_succ (fun r => decide (r = e0)) hx)
      have hpl := pick_len (fun r => decide (r = e0)) xs i
      have z := Bk.new wo 87 #[.int .i64 r, .int .i64 l, .int .i64 x0, .int .i64 y0, .int .i64 x1, .int .i64 y1]
      have b1 := hb.alloc hb.size (.cells #[.int .i64 r, .int .i64 l, .int .i64 x0, .int .i64 y0, .int .i64 x1, .int .i64 y1] 87)
      have l1 := FL.alloc hR (.cells #[.int .i64 r, .int .i64 l, .int .i64 x0, .int .i64 y0, .int .i64 x1, .int .i64 y1] 87)
      obtain ⟨p0, p1, p2, p3, p4, p5⟩ := box6r z
      have HC1 := Lib.hid (HC.out r _ b1)
      obtain ⟨AO, cO, rfl, -, -⟩ := FL.form hR
      have hlen2 : (pick (fun r => decide (r = e0)) (xs.take i)).length ≤ 1000000 := by omega
      have Hlen2 := Lib.hid hlen2
      clear hx hlen2
      cases hp : (decide (r = e0)) with
      | true =>
        rw [hp] at HC1
        dsimp only at Hpk
        rw [hp, if_pos (by decide)] at Hpk
        clear hp
        go_upto_region 6 with (go_at_call 19; (with_reducible refine HC1.out.mono ?_); rintro e w5 ⟨rfl, hb5⟩)
        obtain ⟨q0, q1, q2, q3, q4, q5⟩ := box6r (z.on hb5)
        have l5 := FL.on l1 hb5
        have b5 := b1.trans (hb5.mono b1.size)
        clear s0 s1 s2 s3 s4 s5 p0 p1 p2 p3 p4 p5 z b1 l1 hR
        go_wp2_with (at_builtin; refine wpList_append_F (t := 70) (n := 5) (enc := ShapeD.vals) rfl (.tmp 19) (.tmp 22) 46 40 _ infoShape Tryz.underlying46 rfl (by decide) (by decide) rfl w.heap.size _ (pick (fun r => decide (r = e0)) (xs.take i)) ⟨l, ⟨x0, y0, x1, y1⟩⟩ rfl l5 rfl (shapeV_one _) rfl Hlen2.out b5.size ?_; intro v' w9 k1 k2)
        have l9 := FL.alloc l5 (.cells (ShapeD.vals ⟨l, ⟨x0, y0, x1, y1⟩⟩).toArray 70)
        have b9 := b5.alloc b5.size (.cells (ShapeD.vals ⟨l, ⟨x0, y0, x1, y1⟩⟩).toArray 70)
        exact ⟨⟨i + 1, by omega, by go_num, by rw [Hpk.out]; exact k1, b9.grown k2 b9.size (fun q hq => (World.ownsRow.lt l9 _ hq).1)⟩, by simp [intOf]; omega⟩
      | false =>
        rw [hp] at HC1
        dsimp only at Hpk
        rw [hp, if_neg (by decide)] at Hpk
        clear hp
        go_wp2_with (go_at_call 19; (with_reducible refine HC1.out.mono ?_); rintro e w5 ⟨rfl, hb5⟩)
        exact ⟨⟨i + 1, by omega, by go_num, by rw [Hpk.out]; exact FL.on l1 hb5, b1.trans (hb5.mono b1.size)⟩, by simp [intOf]; omega⟩
    · obtain rfl : i = xs.length := by omega
      rw [List.take_length] at hR
      have hpl := pick_len (fun r => decide (r = e0)) xs xs.length
      rw [List.take_length] at hpl
      have HL := Lib.hid (lay_impl _ _ wo (FL.less hR (Nat.zero_le _)) (by omega))
      clear hpl
      go_wp2_with (go_at_call 37; (with_reducible refine HL.out.mono ?_); rintro e w5 ⟨u5, rfl, hR5, hb5⟩)
      go_ret
      exact ⟨_, rfl, hR5.less hb.size, hb.trans (hb5.mono hb.size)⟩

set_option maxHeartbeats 3200000 in
set_option maxRecDepth 100000 in
/-- chosenLayers with the closure of RestLayout. -/
theorem chosenR_any (v : Value) (xs : List (Int × ShapeD)) (w : World) (hv : RtL w 0 v xs) (hl : xs.length ≤ 10000) (es : List Int) (ev : Value) (eb : Nat) (hvE : IL w 0 ev es) (hcE : w.cell? ⟨eb, 0, none⟩ = some ev) (hlE : eb < w.heap.size) :
    Calls Tryz.prog 18 #[v, .func (.func 20) #[] #[.pointer (some ⟨eb, 0, none⟩)]] w fun e w' => ∃ u, e = .returned u ∧ RLL w' w.heap.size u (layL (pick (fun r => !inES es r) xs) 8) ∧ Below w.heap.size w w' := by
  obtain ⟨A, c, rfl, hc, hm⟩ := hv.form
  have HV := Lib.hid hv
  have l0 : ShL (w.alloc (.cells #[] 70)) w.heap.size (.slice (some ⟨w.heap.size, 0, none⟩) 0 0) [] := FL.lit9 w (Nat.le_refl _)
  have b0 := o_allocF w (.cells #[] 70)
  have HC := Lib.hid (fun (r : Int) (W : World) (h : Below w.heap.size w W) => cloR_any r es ev eb W (IL.on hvE h) (bcell1 h hlE hcE))
  clear hv hm hvE hcE hlE
  go_enter Tryz.func18, Tryz.ntmps18
  go_wp2
  go_loopw [5, 11] (fun lw iv wr => ∃ i : Nat, i ≤ xs.length ∧ iv = .int .i64 i ∧ ShL wr w.heap.size lw (pick (fun r => !inES es r) (xs.take i)) ∧ Below w.heap.size w wr) (fun _ iv _ => xs.length - (intOf iv).toNat)
  case atStart => exact ⟨0, Nat.zero_le _, rfl, by rw [show pick (fun r => !inES es r) (xs.take 0) = [] by simp [pick]]; exact l0, b0⟩
  case round =>
    obtain ⟨wo, hwo⟩ : ∃ wo, wo = wr := ⟨_, rfl⟩
    subst hwo
    obtain ⟨i, hi, rfl, hR, hb⟩ := hrel
    clear l0 b0
    by_cases hlt : i < xs.length
    · obtain ⟨g, r, l, x0, y0, x1, y1, rfl, hx, hg, s0, s1, s2, s3, s4, s5⟩ := RtL.elem6 (FL.on HV.out hb) hlt
      have Hpk := Lib.hid (pick_succ (fun r => !inES es r) hx)
      have hpl := pick_len (fun r => !inES es r) xs i
      have z := Bk.new wo 87 #[.int .i64 r, .int .i64 l, .int .i64 x0, .int .i64 y0, .int .i64 x1, .int .i64 y1]
      have b1 := hb.alloc hb.size (.cells #[.int .i64 r, .int .i64 l, .int .i64 x0, .int .i64 y0, .int .i64 x1, .int .i64 y1] 87)
      have l1 := FL.alloc hR (.cells #[.int .i64 r, .int .i64 l, .int .i64 x0, .int .i64 y0, .int .i64 x1, .int .i64 y1] 87)
      obtain ⟨p0, p1, p2, p3, p4, p5⟩ := box6r z
      have HC1 := Lib.hid (HC.out r _ b1)
      obtain ⟨AO, cO, rfl, -, -⟩ := FL.form hR
      have hlen2 : (pick (fun r => !inES es r) (xs.take i)).length ≤ 1000000 := by omega
      have Hlen2 := Lib.hid hlen2
      clear hx hlen2
      cases hp : (inES es r) with
      | false =>
        rw [hp] at HC1
        dsimp only at Hpk
        rw [hp, if_pos (by decide)] at Hpk
        clear hp
        go_upto_region 6 with (go_at_call 20; (with_reducible refine HC1.out.mono ?_); rintro e w5 ⟨rfl, hb5⟩)
        obtain ⟨q0, q1, q2, q3, q4, q5⟩ := box6r (z.on hb5)
        have l5 := FL.on l1 hb5
        have b5 := b1.trans (hb5.mono b1.size)
        clear s0 s1 s2 s3 s4 s5 p0 p1 p2 p3 p4 p5 z b1 l1 hR
        go_wp2_with (at_builtin; refine wpList_append_F (t := 70) (n := 5) (enc := ShapeD.vals) rfl (.tmp 19) (.tmp 22) 46 40 _ infoShape Tryz.underlying46 rfl (by decide) (by decide) rfl w.heap.size _ (pick (fun r => !inES es r) (xs.take i)) ⟨l, ⟨x0, y0, x1, y1⟩⟩ rfl l5 rfl (shapeV_one _) rfl Hlen2.out b5.size ?_; intro v' w9 k1 k2)
        have l9 := FL.alloc l5 (.cells (ShapeD.vals ⟨l, ⟨x0, y0, x1, y1⟩⟩).toArray 70)
        have b9 := b5.alloc b5.size (.cells (ShapeD.vals ⟨l, ⟨x0, y0, x1, y1⟩⟩).toArray 70)
        exact ⟨⟨i + 1, by omega, by go_num, by rw [Hpk.out]; exact k1, b9.grown k2 b9.size (fun q hq => (World.ownsRow.lt l9 _ hq).1)⟩, by simp [intOf]; omega⟩
      | true =>
        rw [hp] at HC1
        dsimp only at Hpk
        rw [hp, if_neg (by decide)] at Hpk
        clear hp
        go_wp2_with (go_at_call 20; (with_reducible refine HC1.out.mono ?_); rintro e w5 ⟨rfl, hb5⟩)
        exact ⟨⟨i + 1, by omega, by go_num, by rw [Hpk.out]; exact FL.on l1 hb5, b1.trans (hb5.mono b1.size)⟩, by simp [intOf]; omega⟩
    · obtain rfl : i = xs.length := by omega
      rw [List.take_length] at hR
      have hpl := pick_len (fun r => !inES es r) xs xs.length
      rw [List.take_length] at hpl
      have HL := Lib.hid (lay_impl _ _ wo (FL.less hR (Nat.zero_le _)) (by omega))
      clear hpl
      go_wp2_with (go_at_call 37; (with_reducible refine HL.out.mono ?_); rintro e w5 ⟨u5, rfl, hR5, hb5⟩)
      go_ret
      exact ⟨_, rfl, hR5.less hb.size, hb.trans (hb5.mono hb.size)⟩
end Go.Proofs.YtgegbgkokkdmpaaGreat

namespace Go.Proofs.YtgegbgkokkdmpaaGreat
open Go.RowKit

set_option maxHeartbeats 800000 in
set_option maxRecDepth 100000 in
/-- hasElement. -/
theorem hasEl_any (cs : List CellD) (hlib : libB cs = true) (lv : Value) (k : Nat) (x : Int) (hk : k < cs.length) (w : World) (hL : LibV w 0 lv cs) :
    Calls Tryz.prog 17 #[.agg #[lv], .int .i64 k, .int .i64 x] w fun e w' => e = .returned (.bool (inB 0 x (((elAt cs (k : Int)).length : Int) - 1))) ∧ Below w.heap.size w w' := by
  obtain ⟨AL, cL, rfl, -, hm⟩ := hL.form
  have b0 := (Below.refl w.heap.size w).alloc (Nat.le_refl _) (.cells #[.slice AL cs.length cL] 26)
  have z0 := Bk.new w 26 #[.slice AL cs.length cL]
  have L0 := hL.on b0
  obtain ⟨gC, c, ⟨us, ul, ui⟩, rfl, hcell, hgl, f0, f1, f2, f3, h3⟩ := L0.elem hk
  obtain ⟨A1, k1, g1, -, -⟩ := h3.s.form
  obtain ⟨A2, k2, g2, -, -⟩ := h3.l.form
  obtain ⟨A3, k3, g3, -, -⟩ := h3.i.form
  dsimp only at g1 g2 g3 f0 f1 f2 f3
  subst g1 g2 g3
  have HF := Lib.hid ((lib_facts hlib).2 k c hcell)
  have HI := Lib.hid h3.i
  dsimp only at HI
  have hEl := elAt_of hcell
  have hl := elsOf_len HF.out.2.2.2 HF.out.2.1
  obtain ⟨m, hm9⟩ : ∃ m, m = (elsTo c.insts c.insts.length).length := ⟨_, rfl⟩
  have hEm : ((elAt cs (k : Int)).length : Int) = (m : Int) := by rw [hEl, hm9]; rfl
  have hml : m ≤ 128 := by rw [hm9]; exact hl
  rw [hEm]
  have Hm9 := Lib.hid hm9
  have i1 := Go.IntWalk.i64_in ((m : Int) - 1) (by omega)
  clear hL h3 hcell hEl hl hm9 hEm
  go_enter Tryz.func17, Tryz.ntmps17
  go_wp2_with (first
    | (go_at_call 36; (with_reducible refine (elements_any c.name A1 A2 A3 _ k1 _ k2 k3 c.insts k _ HI.out HF.out.2.1 HF.out.2.2.2).mono ?_); rintro e W3 ⟨ev, rfl, hE, hb3⟩; rw [show elsTo c.insts c.insts.length = elsTo c.insts c.insts.length from rfl] at hE; obtain ⟨Ae, ke, he, -, -⟩ := hE.form; rw [← Hm9.out] at he; subst he)
    | (go_at_call 35; (with_reducible refine (within_any x 0 ((m : Int) - 1) _).mono ?_); rintro e w2 ⟨rfl, rfl⟩))
  go_ret
  exact ⟨rfl, b0.trans (hb3.mono b0.size)⟩

set_option maxHeartbeats 3200000 in
set_option maxRecDepth 100000 in
/-- ElementLayout. -/
theorem elay_any (cs : List CellD) (hN : ∀ c ∈ cs, NmOk c) (lv : Value) (k : Nat) (x : Int) (hok : flatOk cs (k : Int)) (w : World) (hL : LibV w 0 lv cs) :
    Calls Tryz.prog 7 #[.agg #[lv], .int .i64 k, .int .i64 x] w fun e w' => ∃ (v : Value) (code : Int), e = .returned (.tuple #[v, .int .i64 code]) ∧ Below w.heap.size w w' ∧
      ((inB 0 x (((elAt cs (k : Int)).length : Int) - 1) = true ∧ code = 0 ∧ RLL w' w.heap.size v (layL (pick (fun r => decide (r = x)) (rsAll cs (occK cs (k : Int)))) 8)) ∨ (inB 0 x (((elAt cs (k : Int)).length : Int) - 1) = false ∧ code = 5)) := by
  have hkl : k < cs.length := by have := hok.2.1; omega
  have hfit : (rsAll cs (occK cs (k : Int))).length ≤ 10000 := by
    have := flS_fit hok
    rw [← flS_eq, List.length_map] at this
    exact this
  have HR := Lib.hid (fun W (h : LibV W 0 lv cs) => rooted_any cs hN lv k hok W h)
  have HH := Lib.hid (fun W (h : LibV W 0 lv cs) => hasEl_any cs hok.1 lv k x hkl W h)
  have Hfit := Lib.hid hfit
  clear hfit hok hN
  obtain ⟨AL, cL, rfl, -, hm⟩ := hL.form
  have z0 := (Bk.new w 26 #[.slice AL cs.length cL]).alloc (.cells #[.int .i64 x] 2)
  have ze := Bk.new (w.alloc (.cells #[.slice AL cs.length cL] 26)) 2 #[.int .i64 x]
  have e1 : (w.alloc (.cells #[.slice AL cs.length cL] 26)).heap.size = w.heap.size + 1 := by simp
  rw [e1] at ze
  have b0 := ((Below.refl w.heap.size w).alloc (Nat.le_refl _) (.cells #[.slice AL cs.length cL] 26)).alloc (by simp) (.cells #[.int .i64 x] 2)
  have L0 := hL.on b0
  have hs0 := b0.size
  clear hL hm e1
  cases hin : inB 0 x (((elAt cs (k : Int)).length : Int) - 1) with
  | true =>
    rw [hin] at HH
    clear hin
    go_enter Tryz.func7, Tryz.ntmps7
    go_wp2_with (first
      | (go_at_call 16; (with_reducible refine (HR.out _ L0).mono ?_); rintro e w1 ⟨v1, rfl, hT1, hb1⟩; have z1 := (z0.on hb1).cell 0; have y1 := (ze.on hb1).cell 0; have L1 := L0.on hb1; have b1 := b0.trans (hb1.mono hs0))
      | (go_at_call 17; (with_reducible refine (HH.out _ L1).mono ?_); rintro e w2 ⟨rfl, hb2⟩; have T2 := FL.on hT1 hb2; have b2 := b1.trans (hb2.mono b1.size); have y2 := ((ze.on hb1).on hb2).cell 0; have y3 := ((ze.on hb1).on hb2).lt; simp at y2)
      | (go_at_call 18; (with_reducible refine (chosenE_any v1 _ _ (FL.less T2 (Nat.zero_le _)) Hfit.out x (w.heap.size + 1) y2 y3).mono ?_); rintro e w3 ⟨u3, rfl, hR3, hb3⟩))
    refine bodyPost_ret (v := .tuple #[u3, .int .i64 0]) (by simp [results, Tryz.results7, go_sem, *]) rfl ?_
    exact ⟨_, 0, rfl, b2.trans (hb3.mono b2.size), .inl ⟨trivial, rfl, hR3.less b2.size⟩⟩
  | false =>
    rw [hin] at HH
    clear hin
    go_enter Tryz.func7, Tryz.ntmps7
    go_wp2_with (first
      | (go_at_call 16; (with_reducible refine (HR.out _ L0).mono ?_); rintro e w1 ⟨v1, rfl, hT1, hb1⟩; have z1 := (z0.on hb1).cell 0; have y1 := (ze.on hb1).cell 0; have L1 := L0.on hb1; have b1 := b0.trans (hb1.mono hs0))
      | (go_at_call 17; (with_reducible refine (HH.out _ L1).mono ?_); rintro e w2 ⟨rfl, hb2⟩))
    refine bodyPost_ret (v := .tuple #[.slice none 0 0, .int .i64 5]) (by simp [results, Tryz.results7, go_sem, *]) rfl ?_
    exact ⟨_, 5, rfl, b1.trans (hb2.mono b1.size), .inr ⟨trivial, rfl⟩⟩

set_option maxHeartbeats 3200000 in
set_option maxRecDepth 100000 in
/-- RestLayout, of elements that the cell has, in order. -/
theorem rest_any (cs : List CellD) (hN : ∀ c ∈ cs, NmOk c) (lv ev : Value) (k : Nat) (es : List Int) (hok : flatOk cs (k : Int)) (hsrt : ∀ (i : Nat) (a b : Int), es[i]? = some a → es[i + 1]? = some b → a < b) (hin : ∀ x ∈ es, inB 0 x (((elAt cs (k : Int)).length : Int) - 1) = true) (hel : es.length ≤ 1000)
    (w : World) (hL : LibV w 0 lv cs) (hE : IL w 0 ev es) :
    Calls Tryz.prog 8 #[.agg #[lv], .int .i64 k, ev] w fun e w' => ∃ v, e = .returned (.tuple #[v, .int .i64 0]) ∧ RLL w' w.heap.size v (layL (pick (fun r => !inES es r) (rsAll cs (occK cs (k : Int)))) 8) ∧ Below w.heap.size w w' := by
  have hkl : k < cs.length := by have := hok.2.1; omega
  have hfit : (rsAll cs (occK cs (k : Int))).length ≤ 10000 := by
    have := flS_fit hok
    rw [← flS_eq, List.length_map] at this
    exact this
  have HR := Lib.hid (fun W (h : LibV W 0 lv cs) => rooted_any cs hN lv k hok W h)
  have HH := Lib.hid (fun (x : Int) (hx : x ∈ es) W (h : LibV W 0 lv cs) => show Calls Tryz.prog 17 #[.agg #[lv], .int .i64 k, .int .i64 x] W fun e w' => e = .returned (.bool true) ∧ Below W.heap.size W w' by
    have := hasEl_any cs hok.1 lv k x hkl W h
    rw [hin x hx] at this
    exact this)
  have Hfit := Lib.hid hfit
  have Hsrt := Lib.hid hsrt
  clear hfit hok hN hsrt hin
  obtain ⟨AL, cL, rfl, -, hm⟩ := hL.form
  obtain ⟨AE, cE, rfl, -, -⟩ := hE.form
  have z0 := (Bk.new w 26 #[.slice AL cs.length cL]).alloc (.cells #[.slice AE es.length cE] 34)
  have ze := Bk.new (w.alloc (.cells #[.slice AL cs.length cL] 26)) 34 #[.slice AE es.length cE]
  have e1 : (w.alloc (.cells #[.slice AL cs.length cL] 26)).heap.size = w.heap.size + 1 := by simp
  rw [e1] at ze
  have b0 := ((Below.refl w.heap.size w).alloc (Nat.le_refl _) (.cells #[.slice AL cs.length cL] 26)).alloc (by simp) (.cells #[.slice AE es.length cE] 34)
  have L0 := hL.on b0
  have E0 := IL.on hE b0
  have hs0 := b0.size
  clear hL hE hm e1
  go_enter Tryz.func8, Tryz.ntmps8
  go_upto_region 4 with (go_at_call 16; (with_reducible refine (HR.out _ L0).mono ?_); rintro e w1 ⟨v1, rfl, hT1, hb1⟩)
  have z1 := z0.on hb1
  have y1 := ze.on hb1
  have L1 := L0.on hb1
  have b1 := b0.trans (hb1.mono hs0)
  have E1 := IL.on E0 hb1
  have hs1 := b1.size
  have yc := y1.cell 0
  simp at yc
  have HE := Lib.hid E1
  clear z0 ze L0 E0 b0 hb1 hs0 E1
  obtain ⟨AT, cT, rfl, -, -⟩ := FL.form hT1
  go_wp2
  go_loopw [10] (fun iv wr => ∃ i : Nat, i ≤ es.length ∧ iv = .int .i64 ((i : Int) + 1) ∧ Below w1.heap.size w1 wr) (fun iv _ => es.length + 1 - (intOf iv).toNat)
  case atStart => exact ⟨0, Nat.zero_le _, rfl, Below.refl _ _⟩
  case round =>
    obtain ⟨wo, hwo⟩ : ∃ wo, wo = wr := ⟨_, rfl⟩
    subst hwo
    obtain ⟨i, hi, rfl, hb⟩ := hrel
    have i1 := Go.IntWalk.i64_in ((i : Int) + 1) (by omega)
    have i2 := Go.IntWalk.i64_in ((i : Int) + 1 - 1) (by omega)
    have i3 := Go.IntWalk.i64_in ((i : Int) + 1 + 1) (by omega)
    have y9 := (y1.on hb).cell 0
    simp at y9
    by_cases hlt : i + 1 < es.length
    · have hz : ((i : Int) + 1) < (es.length : Int) := by omega
      obtain ⟨gE, a, hA, ha, -, hgE, c0⟩ := (IL.on HE.out hb).elem (k := i) (by omega)
      obtain ⟨gE', a', hA', ha', -, hgE', c1⟩ := (IL.on HE.out hb).elem (k := i + 1) (by omega)
      subst hA
      obtain rfl : gE = gE' := by simpa using hA'
      have hab := Hsrt.out i a a' ha ha'
      have hab2 : ¬ a ≥ a' := by omega
      have t1 : ((i : Int) + 1 - 1).toNat = i := by omega
      have t2 : ((i : Int) + 1).toNat = i + 1 := by omega
      have t3 : (0 : Int) ≤ (i : Int) + 1 - 1 := by omega
      have t4 : (i : Int) + 1 - 1 < (es.length : Int) := by omega
      have t5 : (0 : Int) ≤ (i : Int) + 1 := by omega
      clear hA' ha ha'
      go_upto_region 7 with fail
      go_quiet (fail)
      go_wp2
      exact ⟨⟨i + 1, by omega, by go_num, below_drewN hb _⟩, by simp [intOf]; omega⟩
    · have hz : ¬ ((i : Int) + 1) < (es.length : Int) := by omega
      go_wp2
      go_loopw [40] (fun iv wr => ∃ i : Nat, i ≤ es.length ∧ iv = .int .i64 i ∧ Below w1.heap.size w1 wr) (fun iv _ => es.length - (intOf iv).toNat)
      case atStart => exact ⟨0, Nat.zero_le _, rfl, hb⟩
      case round =>
        obtain ⟨wp, hwp⟩ : ∃ wp, wp = wr := ⟨_, rfl⟩
        subst hwp
        clear hb y9 i1 i2 i3 hi hz
        obtain ⟨i, hi, rfl, hb⟩ := hrel
        by_cases hlt2 : i < es.length
        · obtain ⟨gE, a, rfl, ha, -, hgE, c0⟩ := (IL.on HE.out hb).elem hlt2
          have HHa := Lib.hid (HH.out a (List.mem_of_getElem? ha) wp (L1.on hb))
          have q0 := (z1.on hb).cell 0
          simp at q0
          clear ha
          go_wp2_with (go_at_call 17; (with_reducible refine HHa.out.mono ?_); rintro e w5 ⟨rfl, hb5⟩)
          exact ⟨⟨i + 1, by omega, by go_num, hb.trans (hb5.mono hb.size)⟩, by simp [intOf]; omega⟩
        · obtain rfl : i = es.length := by omega
          have bw := b1.trans (hb.mono hs1)
          have y5 := (y1.on hb).cell 0
          simp at y5
          have HC := Lib.hid (chosenR_any (.slice AT _ cT) _ wp (FL.less (FL.on hT1 hb) (Nat.zero_le _)) Hfit.out es _ (w.heap.size + 1) (IL.on HE.out hb) y5 (y1.on hb).lt)
          go_wp2_with (go_at_call 18; (with_reducible refine HC.out.mono ?_); rintro e w5 ⟨u5, rfl, hR5, hb5⟩)
          refine bodyPost_ret (v := .tuple #[u5, .int .i64 0]) (by simp [results, Tryz.results8, go_sem, *]) rfl ?_
          exact ⟨_, rfl, hR5.less bw.size, bw.trans (hb5.mono bw.size)⟩

end Go.Proofs.YtgegbgkokkdmpaaGreat
