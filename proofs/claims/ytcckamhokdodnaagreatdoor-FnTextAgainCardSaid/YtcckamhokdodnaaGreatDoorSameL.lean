/- Contract: impl.SameLibrary of two libraries that hold the same. Condition: both lie in memory. -/
import Derived.Test.YtcckamhokdodnaaGreatDoorValT
import Derived.Laws.StructEq
namespace Go.Proofs.YtcckamhokdodnaaGreatDoor
open Go.RowKit

@[go_sem high] theorem run_neq_Shape (l x0 y0 x1 y1 : Int) (w : World) : (binOp .neq 62 (.agg #[.int .i64 l, .int .i64 x0, .int .i64 y0, .int .i64 x1, .int .i64 y1]) (.agg #[.int .i64 l, .int .i64 x0, .int .i64 y0, .int .i64 x1, .int .i64 y1])).run Tryz.prog w = .ok (.bool false) w := by
  rw [run_neq_struct]
  simp [go_sem]
set_option maxHeartbeats 800000 in
set_option maxRecDepth 100000 in
theorem eqShape_same (v u : Value) (xs : List ShapeD) (w : World) (hv : ShL w 0 v xs) (hu : ShL w 0 u xs) :
    Calls Tryz.prog 65 #[v, u] w fun e w' => e = .returned (.bool true) ∧ Below w.heap.size w w' := by
  obtain ⟨A, c, rfl, hc9, hm⟩ := hv.form
  obtain ⟨A2, c2, rfl, -, -⟩ := hu.form
  unfold maxLen at hm
  go_enter Tryz.func65, Tryz.ntmps65
  go_wp2
  go_loopw [13] (fun iv wr => ∃ k : Nat, k ≤ xs.length ∧ iv = .int .i64 k ∧ Below w.heap.size w wr) (fun iv _ => xs.length - (intOf iv).toNat)
  case atStart => exact ⟨0, Nat.zero_le _, rfl, Below.refl _ _⟩
  case round =>
    obtain ⟨k, hk, rfl, hb⟩ := hrel
    have hk8 : k < xs.length → k < 9223372036854775807 := fun _ => by omega
    by_cases hlt : k < xs.length
    · have hk9 := hk8 hlt
      obtain ⟨g, x, rfl, hx, -, hg, hc⟩ := (hv.on hb).elem ShapeD.len hlt
      obtain ⟨g2, x2, rfl, hx2, -, hg2, hc2⟩ := (hu.on hb).elem ShapeD.len hlt
      obtain rfl : x = x2 := Option.some.inj (hx.symm.trans hx2)
      obtain ⟨l, ⟨x0, y0, x1, y1⟩⟩ := x
      have p0 : wr.cell? ⟨g, k * 5, none⟩ = some (.int .i64 l) := hc 0 _ rfl
      have q0 : wr.cell? ⟨g2, k * 5, none⟩ = some (.int .i64 l) := hc2 0 _ rfl
      have p1 : wr.cell? ⟨g, k * 5 + 1, none⟩ = some (.int .i64 x0) := hc 1 _ rfl
      have q1 : wr.cell? ⟨g2, k * 5 + 1, none⟩ = some (.int .i64 x0) := hc2 1 _ rfl
      have p2 : wr.cell? ⟨g, k * 5 + 2, none⟩ = some (.int .i64 y0) := hc 2 _ rfl
      have q2 : wr.cell? ⟨g2, k * 5 + 2, none⟩ = some (.int .i64 y0) := hc2 2 _ rfl
      have p3 : wr.cell? ⟨g, k * 5 + 3, none⟩ = some (.int .i64 x1) := hc 3 _ rfl
      have q3 : wr.cell? ⟨g2, k * 5 + 3, none⟩ = some (.int .i64 x1) := hc2 3 _ rfl
      have p4 : wr.cell? ⟨g, k * 5 + 4, none⟩ = some (.int .i64 y1) := hc 4 _ rfl
      have q4 : wr.cell? ⟨g2, k * 5 + 4, none⟩ = some (.int .i64 y1) := hc2 4 _ rfl
      clear hx hx2 hc hc2
      go_wp2
      go_quiet (fail)
      go_wp2
      exact ⟨⟨k + 1, by omega, by go_num, below_drewN hb _⟩, by simp [intOf]; omega⟩
    · go_wp2
      go_ret
      exact ⟨rfl, hb⟩

@[go_sem high] theorem run_neq_Label (l x y : Int) (nm : ByteArray) (w : World) : (binOp .neq 67 (.agg #[.int .i64 l, .int .i64 x, .int .i64 y, .string nm]) (.agg #[.int .i64 l, .int .i64 x, .int .i64 y, .string nm])).run Tryz.prog w = .ok (.bool false) w := by
  rw [run_neq_struct]
  simp [go_sem]
set_option maxHeartbeats 800000 in
set_option maxRecDepth 100000 in
theorem eqLabel_same (v u : Value) (xs : List LabelD) (w : World) (hv : LaL w 0 v xs) (hu : LaL w 0 u xs) :
    Calls Tryz.prog 66 #[v, u] w fun e w' => e = .returned (.bool true) ∧ Below w.heap.size w w' := by
  obtain ⟨A, c, rfl, hc9, hm⟩ := hv.form
  obtain ⟨A2, c2, rfl, -, -⟩ := hu.form
  unfold maxLen at hm
  go_enter Tryz.func66, Tryz.ntmps66
  go_wp2
  go_loopw [13] (fun iv wr => ∃ k : Nat, k ≤ xs.length ∧ iv = .int .i64 k ∧ Below w.heap.size w wr) (fun iv _ => xs.length - (intOf iv).toNat)
  case atStart => exact ⟨0, Nat.zero_le _, rfl, Below.refl _ _⟩
  case round =>
    obtain ⟨k, hk, rfl, hb⟩ := hrel
    have hk8 : k < xs.length → k < 9223372036854775807 := fun _ => by omega
    by_cases hlt : k < xs.length
    · have hk9 := hk8 hlt
      obtain ⟨g, x, rfl, hx, -, hg, hc⟩ := (hv.on hb).elem LabelD.len hlt
      obtain ⟨g2, x2, rfl, hx2, -, hg2, hc2⟩ := (hu.on hb).elem LabelD.len hlt
      obtain rfl : x = x2 := Option.some.inj (hx.symm.trans hx2)
      obtain ⟨l, x, y, nm⟩ := x
      have p0 : wr.cell? ⟨g, k * 4, none⟩ = some (.int .i64 l) := hc 0 _ rfl
      have q0 : wr.cell? ⟨g2, k * 4, none⟩ = some (.int .i64 l) := hc2 0 _ rfl
      have p1 : wr.cell? ⟨g, k * 4 + 1, none⟩ = some (.int .i64 x) := hc 1 _ rfl
      have q1 : wr.cell? ⟨g2, k * 4 + 1, none⟩ = some (.int .i64 x) := hc2 1 _ rfl
      have p2 : wr.cell? ⟨g, k * 4 + 2, none⟩ = some (.int .i64 y) := hc 2 _ rfl
      have q2 : wr.cell? ⟨g2, k * 4 + 2, none⟩ = some (.int .i64 y) := hc2 2 _ rfl
      have p3 : wr.cell? ⟨g, k * 4 + 3, none⟩ = some (.string nm) := hc 3 _ rfl
      have q3 : wr.cell? ⟨g2, k * 4 + 3, none⟩ = some (.string nm) := hc2 3 _ rfl
      clear hx hx2 hc hc2
      go_wp2
      go_quiet (fail)
      go_wp2
      exact ⟨⟨k + 1, by omega, by go_num, below_drewN hb _⟩, by simp [intOf]; omega⟩
    · go_wp2
      go_ret
      exact ⟨rfl, hb⟩

@[go_sem high] theorem run_neq_Instance (a0 a1 a2 a3 a4 a5 a6 a7 : Int) (w : World) : (binOp .neq 72 (.agg #[.int .i64 a0, .int .i64 a1, .int .i64 a2, .int .i64 a3, .int .i64 a4, .int .i64 a5, .int .i64 a6, .int .i64 a7]) (.agg #[.int .i64 a0, .int .i64 a1, .int .i64 a2, .int .i64 a3, .int .i64 a4, .int .i64 a5, .int .i64 a6, .int .i64 a7])).run Tryz.prog w = .ok (.bool false) w := by
  rw [run_neq_struct]
  simp [go_sem]
set_option maxHeartbeats 800000 in
set_option maxRecDepth 100000 in
theorem eqInstance_same (v u : Value) (xs : List InstD) (w : World) (hv : InL w 0 v xs) (hu : InL w 0 u xs) :
    Calls Tryz.prog 67 #[v, u] w fun e w' => e = .returned (.bool true) ∧ Below w.heap.size w w' := by
  obtain ⟨A, c, rfl, hc9, hm⟩ := hv.form
  obtain ⟨A2, c2, rfl, -, -⟩ := hu.form
  unfold maxLen at hm
  go_enter Tryz.func67, Tryz.ntmps67
  go_wp2
  go_loopw [13] (fun iv wr => ∃ k : Nat, k ≤ xs.length ∧ iv = .int .i64 k ∧ Below w.heap.size w wr) (fun iv _ => xs.length - (intOf iv).toNat)
  case atStart => exact ⟨0, Nat.zero_le _, rfl, Below.refl _ _⟩
  case round =>
    obtain ⟨k, hk, rfl, hb⟩ := hrel
    have hk8 : k < xs.length → k < 9223372036854775807 := fun _ => by omega
    by_cases hlt : k < xs.length
    · have hk9 := hk8 hlt
      obtain ⟨g, x, rfl, hx, -, hg, hc⟩ := (hv.on hb).elem InstD.len hlt
      obtain ⟨g2, x2, rfl, hx2, -, hg2, hc2⟩ := (hu.on hb).elem InstD.len hlt
      obtain rfl : x = x2 := Option.some.inj (hx.symm.trans hx2)
      obtain ⟨a0, a1, a2, a3, a4, a5, a6, a7⟩ := x
      have p0 : wr.cell? ⟨g, k * 8, none⟩ = some (.int .i64 a0) := hc 0 _ rfl
      have q0 : wr.cell? ⟨g2, k * 8, none⟩ = some (.int .i64 a0) := hc2 0 _ rfl
      have p1 : wr.cell? ⟨g, k * 8 + 1, none⟩ = some (.int .i64 a1) := hc 1 _ rfl
      have q1 : wr.cell? ⟨g2, k * 8 + 1, none⟩ = some (.int .i64 a1) := hc2 1 _ rfl
      have p2 : wr.cell? ⟨g, k * 8 + 2, none⟩ = some (.int .i64 a2) := hc 2 _ rfl
      have q2 : wr.cell? ⟨g2, k * 8 + 2, none⟩ = some (.int .i64 a2) := hc2 2 _ rfl
      have p3 : wr.cell? ⟨g, k * 8 + 3, none⟩ = some (.int .i64 a3) := hc 3 _ rfl
      have q3 : wr.cell? ⟨g2, k * 8 + 3, none⟩ = some (.int .i64 a3) := hc2 3 _ rfl
      have p4 : wr.cell? ⟨g, k * 8 + 4, none⟩ = some (.int .i64 a4) := hc 4 _ rfl
      have q4 : wr.cell? ⟨g2, k * 8 + 4, none⟩ = some (.int .i64 a4) := hc2 4 _ rfl
      have p5 : wr.cell? ⟨g, k * 8 + 5, none⟩ = some (.int .i64 a5) := hc 5 _ rfl
      have q5 : wr.cell? ⟨g2, k * 8 + 5, none⟩ = some (.int .i64 a5) := hc2 5 _ rfl
      have p6 : wr.cell? ⟨g, k * 8 + 6, none⟩ = some (.int .i64 a6) := hc 6 _ rfl
      have q6 : wr.cell? ⟨g2, k * 8 + 6, none⟩ = some (.int .i64 a6) := hc2 6 _ rfl
      have p7 : wr.cell? ⟨g, k * 8 + 7, none⟩ = some (.int .i64 a7) := hc 7 _ rfl
      have q7 : wr.cell? ⟨g2, k * 8 + 7, none⟩ = some (.int .i64 a7) := hc2 7 _ rfl
      clear hx hx2 hc hc2
      go_wp2
      go_quiet (fail)
      go_wp2
      exact ⟨⟨k + 1, by omega, by go_num, below_drewN hb _⟩, by simp [intOf]; omega⟩
    · go_wp2
      go_ret
      exact ⟨rfl, hb⟩


set_option maxHeartbeats 800000 in
set_option maxRecDepth 100000 in
theorem sameCell_same (c : CellD) (u v : Sl3) (w : World) (hu : C3 w 0 u c) (hv : C3 w 0 v c) :
    Calls Tryz.prog 34 #[.agg #[.string c.name, u.s, u.l, u.i], .agg #[.string c.name, v.s, v.l, v.i]] w fun e w' => e = .returned (.bool true) ∧ Below w.heap.size w w' := by
  obtain ⟨us, ul, ui⟩ := u
  obtain ⟨vs, vl, vi⟩ := v
  obtain ⟨P1, k1, rfl, -, -⟩ := hu.s.form
  obtain ⟨P2, k2, rfl, -, -⟩ := hu.l.form
  obtain ⟨P3, k3, rfl, -, -⟩ := hu.i.form
  obtain ⟨Q1, j1, rfl, -, -⟩ := hv.s.form
  obtain ⟨Q2, j2, rfl, -, -⟩ := hv.l.form
  obtain ⟨Q3, j3, rfl, -, -⟩ := hv.i.form
  dsimp only
  have b2 := ((Below.refl w.heap.size w).alloc (Nat.le_refl _) (.cells #[.string c.name, .slice P1 c.shapes.length k1, .slice P2 c.labels.length k2, .slice P3 c.insts.length k3] 46)).alloc (by simp) (.cells #[.string c.name, .slice Q1 c.shapes.length j1, .slice Q2 c.labels.length j2, .slice Q3 c.insts.length j3] 46)
  have U := Lib.hid (hu.on b2)
  have V := Lib.hid (hv.on b2)
  clear hu hv
  go_enter Tryz.func34, Tryz.ntmps34
  go_wp2_with (first
    | (go_at_call 65; refine (eqShape_same _ _ c.shapes _ U.out.s V.out.s).mono ?_; rintro e w1 ⟨rfl, hb1⟩; obtain ⟨hc1, hf1⟩ := bcell3 hb1 (n := w.heap.size + 2) (by simp); have hz1 : w.heap.size + 2 ≤ w1.heap.size := (by have := hb1.size; simp at this; omega); have U1 := Lib.hid (U.out.on hb1); have V1 := Lib.hid (V.out.on hb1))
    | (go_at_call 66; refine (eqLabel_same _ _ c.labels _ U1.out.l V1.out.l).mono ?_; rintro e w2 ⟨rfl, hb2⟩; obtain ⟨hc2, hf2⟩ := bcell3 hb2 (n := w.heap.size + 2) hz1; have hz2 : w.heap.size + 2 ≤ w2.heap.size := Nat.le_trans hz1 hb2.size; have U2 := Lib.hid (U1.out.on hb2); have V2 := Lib.hid (V1.out.on hb2))
    | (go_at_call 67; refine (eqInstance_same _ _ c.insts _ U2.out.i V2.out.i).mono ?_; rintro e w3 ⟨rfl, hb3⟩))
  go_ret
  exact ⟨rfl, ((b2.trans (hb1.mono (by simp; omega))).trans (hb2.mono (by omega))).trans (hb3.mono (by omega))⟩

set_option maxHeartbeats 1600000 in
set_option maxRecDepth 100000 in
theorem eqFunc_same (v u : Value) (cs : List CellD) (w : World) (hv : LibV w 0 v cs) (hu : LibV w 0 u cs) :
    Calls Tryz.prog 33 #[v, u, .func (.func 34) #[] #[]] w fun e w' => e = .returned (.bool true) ∧ Below w.heap.size w w' := by
  obtain ⟨A, c1, rfl, hc1, hm1⟩ := hv.form
  obtain ⟨A2, c2, rfl, hc2, hm2⟩ := hu.form
  have hlen : cs.length ≤ 9223372036854775807 := by unfold maxLen at hm1; omega
  have HV := Lib.hid hv
  have HU := Lib.hid hu
  clear hv hu
  go_enter Tryz.func33, Tryz.ntmps33
  go_wp2
  go_loopw [17] (fun i wr => ∃ k : Nat, k ≤ cs.length ∧ i = .int .i64 k ∧ Below w.heap.size w wr) (fun i _ => cs.length - (intOf i).toNat)
  case atStart => exact ⟨0, Nat.zero_le _, rfl, Below.refl _ _⟩
  case round =>
    obtain ⟨k, hk, rfl, hb⟩ := hrel
    by_cases hlt : k < cs.length
    · obtain ⟨g, x, us, rfl, hx, hgl, f0, f1, f2, f3, hC⟩ := (HV.out.on hb).elem hlt
      obtain ⟨g', x', vs, rfl, hx', hgl', e0, e1, e2, e3, hC'⟩ := (HU.out.on hb).elem hlt
      obtain rfl : x' = x := Option.some.inj (hx'.symm.trans hx)
      obtain ⟨P1, k1, h1, -, -⟩ := hC.s.form
      obtain ⟨P2, k2, h2, -, -⟩ := hC.l.form
      obtain ⟨P3, k3, h3, -, -⟩ := hC.i.form
      obtain ⟨Q1, j1, h4, -, -⟩ := hC'.s.form
      obtain ⟨Q2, j2, h5, -, -⟩ := hC'.l.form
      obtain ⟨Q3, j3, h6, -, -⟩ := hC'.i.form
      obtain ⟨u1, u2, u3⟩ := us
      obtain ⟨v1, v2, v3⟩ := vs
      dsimp only at h1 h2 h3 h4 h5 h6 f1 f2 f3 e1 e2 e3
      subst h1 h2 h3 h4 h5 h6
      have b2 := ((Below.refl wr.heap.size wr).alloc (Nat.le_refl _) (.cells #[.string x'.name, .slice P1 x'.shapes.length k1, .slice P2 x'.labels.length k2, .slice P3 x'.insts.length k3] 46)).alloc (by simp) (.cells #[.string x'.name, .slice Q1 x'.shapes.length j1, .slice Q2 x'.labels.length j2, .slice Q3 x'.insts.length j3] 46)
      have HC := Lib.hid (hC.on b2)
      have HC' := Lib.hid (hC'.on b2)
      clear hx hx' hC hC'
      go_wp2_with (go_at_call 34; refine (sameCell_same x' ⟨_, _, _⟩ ⟨_, _, _⟩ _ HC.out HC'.out).mono ?_; rintro e w1 ⟨rfl, hb1⟩)
      exact ⟨⟨k + 1, by omega, by go_num, hb.trans ((b2.trans (hb1.mono b2.size)).mono hb.size)⟩, by simp [intOf]; omega⟩
    · go_wp2
      go_ret
      exact ⟨rfl, hb⟩

set_option maxHeartbeats 800000 in
set_option maxRecDepth 100000 in
/-- SameLibrary of two libraries that hold the same valid cells. -/
theorem same_same (v u : Value) (cs : List CellD) (w : World) (hv : LibV w 0 v cs) (hu : LibV w 0 u cs) (hN : ∀ c ∈ cs, NmOk c) (hok : libB cs = true) :
    Calls Tryz.prog 12 #[.agg #[v], .agg #[u]] w fun e w' => e = .returned (.bool true) ∧ Below w.heap.size w w' := by
  obtain ⟨A, c1, rfl, hc1, hm1⟩ := hv.form
  obtain ⟨A2, c2, rfl, hc2, hm2⟩ := hu.form
  have b2 := ((Below.refl w.heap.size w).alloc (Nat.le_refl _) (.cells #[.slice A cs.length c1] 26)).alloc (by simp) (.cells #[.slice A2 cs.length c2] 26)
  have V := Lib.hid (hv.on b2)
  have U := Lib.hid (hu.on b2)
  have HN := Lib.hid hN
  clear hu hv hN
  go_enter Tryz.func12, Tryz.ntmps12
  go_wp2_with fail
  refine (lib_impl _ cs _ V.out HN.out).mono ?_
  rintro e w1 ⟨rfl, hb1⟩
  rw [hok]
  obtain ⟨hc1, hf1⟩ := bcell3 hb1 (n := w.heap.size + 2) (by simp)
  have hz1 : w.heap.size + 2 ≤ w1.heap.size := by have := hb1.size; simp at this; omega
  have V1 := Lib.hid (V.out.on hb1)
  have U1 := Lib.hid (U.out.on hb1)
  have t1 := b2.trans (hb1.mono b2.size)
  clear V U
  go_wp2_with fail
  refine (lib_impl _ cs _ U1.out HN.out).mono ?_
  rintro e w2 ⟨rfl, hb2⟩
  rw [hok]
  obtain ⟨hc2, hf2⟩ := bcell3 hb2 (n := w.heap.size + 2) hz1
  have V2 := Lib.hid (V1.out.on hb2)
  have U2 := Lib.hid (U1.out.on hb2)
  have t2 := t1.trans (hb2.mono t1.size)
  clear V1 U1
  go_wp2_with fail
  refine (eqFunc_same _ _ cs _ V2.out U2.out).mono ?_
  rintro e w3 ⟨rfl, hb3⟩
  go_wp2
  go_ret
  exact ⟨rfl, t2.trans (hb3.mono t2.size)⟩

end Go.Proofs.YtcckamhokdodnaaGreatDoor
