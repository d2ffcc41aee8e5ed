/- Contracts: the lines of shapes, labels and instances, of the reference. Conditions: the shape, label or instance is valid. -/
import Derived.Test.YtcckamhokdodnaaGreatDoorFmtI
namespace Go.Proofs.YtcckamhokdodnaaGreatDoor
open Go.RowKit

theorem bytes_ext {a b : ByteArray} (h : a.data.toList = b.data.toList) : a = b := ByteArray.ext (Array.toList_inj.1 h)

set_option maxHeartbeats 1600000 in
set_option maxRecDepth 100000 in
theorem nums_spec (u : Value) (ns : List Int) (w : World) (hu : IL w 0 u ns) (hN : ∀ n ∈ ns, -9223372036854775808 ≤ n ∧ n ≤ 9223372036854775807) (hl : ns.length ≤ 6) :
    Calls Tryz.prog 69 #[u] w (IsStr (numsT ns) 140 w.heap.size w) := by
  obtain ⟨A, c, rfl, hc1, hc2⟩ := hu.form
  unfold maxLen at hc2
  have HN := Lib.hid hN
  have HU := Lib.hid hu
  clear hu hN
  go_enter Tryz.func69, Tryz.ntmps69
  go_wp2
  go_loopw [3, 4] (fun pv iv wr => ∃ (k : Nat) (p : ByteArray), k ≤ ns.length ∧ pv = .string p ∧ iv = .int .i64 k ∧ Hid (p = ⟨(numsT (ns.take k)).toArray⟩) ∧ Hid (p.size ≤ k * 22) ∧ Below w.heap.size w wr) (fun _ iv _ => ns.length - (intOf iv).toNat)
  case atStart => exact ⟨0, ⟨#[]⟩, Nat.zero_le _, rfl, rfl, Lib.hid rfl, Lib.hid (by decide), Below.refl _ _⟩
  case round =>
    obtain ⟨k, p, hk, rfl, rfl, Hp, Hps, hb⟩ := hrel
    have hp1 : p.size ≤ 200 := by have := Hps.out; omega
    have a0 : ¬ (9223372036854775807 < p.size + 1) := (by omega)
    by_cases hlt : k < ns.length
    · obtain ⟨g, x, rfl, hx, -, -, hc⟩ := (HU.out.on hb).elem hlt
      have hxN := HN.out x (List.mem_of_getElem? hx)
      have Hs := Lib.hid (numsT_snoc hx)
      clear hx
      go_wp2_with (go_at_call 73; refine (number_is x _ hxN).mono ?_; rintro e w9 ⟨js, rfl, hjs, hjl, hb9⟩; have Hjs := Lib.hid hjs; clear hjs; have a1 : ¬ (9223372036854775807 < p.size + 1 + js.size) := (by omega))
      go_roundw
      case rel =>
        refine ⟨k + 1, _, hlt, rfl, by go_num, Lib.hid ?_, Lib.hid ?_, hb.trans (hb9.mono hb.size)⟩
        · rw [Hs.out, Hp.out, Hjs.out, show (⟨#[32]⟩ : ByteArray) = ⟨([32] : List UInt8).toArray⟩ from rfl, cat3b]
        · rw [ByteArray.size_append, ByteArray.size_append, one_size]; have := Hps.out; omega
      case measure => simp [intOf]; omega
    · obtain rfl : k = ns.length := by omega
      go_wp2
      go_ret
      exact ⟨_, rfl, by rw [Hp.out, List.take_length], by have := Hps.out; omega, hb⟩

set_option maxHeartbeats 3200000 in
set_option maxRecDepth 100000 in
theorem shape_spec (s : ShapeD) (w : World) (h : shapeB s = true) :
    Calls Tryz.prog 37 #[.agg #[.int .i64 s.layer, .int .i64 s.box.x0, .int .i64 s.box.y0, .int .i64 s.box.x1, .int .i64 s.box.y1]] w (IsStr (shapeT s) 300 w.heap.size w) := by
  have hN := Lib.hid (shape_nums h)
  obtain ⟨nm, Hnm⟩ : ∃ nm, Hid (nm = nameOf layN s.layer) := ⟨_, Lib.hid rfl⟩
  have hnm : nm.size ≤ 21 := by rw [Hnm.out]; exact Nat.le_trans (lay_size _) (by decide)
  have a0 : ¬ (9223372036854775807 < 5 + nm.size) := (by omega)
  have b1 := (Below.refl w.heap.size w).alloc (Nat.le_refl _) (.cells #[.int .i64 s.layer, .int .i64 s.box.x0, .int .i64 s.box.y0, .int .i64 s.box.x1, .int .i64 s.box.y1] 62)
  obtain ⟨w1, hw1⟩ : ∃ w1, Hid (w.alloc (.cells #[.int .i64 s.layer, .int .i64 s.box.x0, .int .i64 s.box.y0, .int .i64 s.box.x1, .int .i64 s.box.y1] 62) = w1) := ⟨_, Lib.hid rfl⟩
  have x1 := Bk.new w 62 #[.int .i64 s.layer, .int .i64 s.box.x0, .int .i64 s.box.y0, .int .i64 s.box.x1, .int .i64 s.box.y1]
  rw [hw1.out] at b1 x1
  have HS := Lib.hid (show ∀ W, Below w1.heap.size w1 W → W.cell? ⟨w.heap.size, 0, none⟩ = some (.int .i64 s.layer) ∧ W.cell? ⟨w.heap.size, 1, none⟩ = some (.int .i64 s.box.x0) ∧ W.cell? ⟨w.heap.size, 2, none⟩ = some (.int .i64 s.box.y0) ∧ W.cell? ⟨w.heap.size, 3, none⟩ = some (.int .i64 s.box.x1) ∧ W.cell? ⟨w.heap.size, 4, none⟩ = some (.int .i64 s.box.y1) from fun W hW => ⟨(x1.on hW).cell 0, (x1.on hW).cell 1, (x1.on hW).cell 2, (x1.on hW).cell 3, (x1.on hW).cell 4⟩)
  have B1 := Lib.hid b1
  have hs1 := b1.size
  have t0 := Below.refl w1.heap.size w1
  have tc := Lib.hid t0.drew
  have TB := Lib.hid (t0.alloc (Nat.le_refl _) (.cells #[.int .i64 s.box.x0, .int .i64 s.box.y0, .int .i64 s.box.x1, .int .i64 s.box.y1] 2)).drew
  have IB := Lib.hid (IL.drew (IL.lit4 w1 (g := w1.heap.size) rfl s.box.x0 s.box.y0 s.box.x1 s.box.y1))
  have IA := Lib.hid (fun W : World => IL.lit4 W (g := W.heap.size) rfl s.box.x0 s.box.y0 s.box.x1 s.box.y1)
  clear t0
  clear x1 b1 h
  go_enter Tryz.func37, Tryz.ntmps37
  go_wp2
  rw [hw1.out]
  go_region_held3 (fun w' => w'.cell? ⟨w.heap.size, 0, none⟩ = some (.int .i64 s.layer) ∧ w'.cell? ⟨w.heap.size, 1, none⟩ = some (.int .i64 s.box.x0) ∧ w'.cell? ⟨w.heap.size, 2, none⟩ = some (.int .i64 s.box.y0) ∧ w'.cell? ⟨w.heap.size, 3, none⟩ = some (.int .i64 s.box.x1) ∧ w'.cell? ⟨w.heap.size, 4, none⟩ = some (.int .i64 s.box.y1))
    (first | with_reducible exact HS.out _ tc.out | with_reducible exact HS.out _ TB.out | with_reducible exact HS.out _ tz.out | with_reducible exact HS.out _ (tz.out.alloc tz.out.size _) | with_reducible exact HS.out _ ty.out)
    (first
    | (go_at_call 68; (with_reducible refine (layN_spec _ _).mono ?_); rintro e w7 ⟨rfl, hb7⟩; rw [← Hnm.out]; (first | (with_reducible have tz := Lib.hid (tc.out.trans (hb7.mono tc.out.size))) | (with_reducible have tz := Lib.hid (TB.out.trans (hb7.mono TB.out.size))) | (with_reducible have tz := Lib.hid (ty.out.trans (hb7.mono ty.out.size)))))
    | (go_at_call 69; (first | (with_reducible refine (nums_spec _ [s.box.x0, s.box.y0, s.box.x1, s.box.y1] _ IB.out hN.out (by simp)).mono ?_) | (with_reducible refine (nums_spec _ [s.box.x0, s.box.y0, s.box.x1, s.box.y1] _ (IB.out.on hb7) hN.out (by simp)).mono ?_) | (with_reducible refine (nums_spec _ [s.box.x0, s.box.y0, s.box.x1, s.box.y1] _ (IA.out w7) hN.out (by simp)).mono ?_)); rintro e w8 ⟨ps, rfl, hps, hpl, hb8⟩; have Hps := Lib.hid hps; clear hps; (first | (with_reducible have ty := Lib.hid (TB.out.trans (hb8.mono TB.out.size))) | (with_reducible have ty := Lib.hid (tz.out.trans (hb8.mono tz.out.size))) | (with_reducible have ty := Lib.hid ((tz.out.alloc tz.out.size _).trans (hb8.mono (tz.out.alloc tz.out.size _).size)))); have a1 : ¬ (9223372036854775807 < 5 + nm.size + ps.size) := (by omega)))
  all_goals
    go_wp2
    go_ret
    refine ⟨_, rfl, ?_, ?_, ?_⟩
    · rw [Hps.out, Hnm.out]
      apply bytes_ext
      simp [shapeT, rectW, numsT, ByteArray.data_append]
    · rw [ByteArray.size_append, ByteArray.size_append, show (⟨#[114, 101, 99, 116, 32]⟩ : ByteArray).size = 5 from rfl]; omega
    · first | exact B1.out.trans (ty.out.mono hs1) | exact B1.out.trans (tz.out.mono hs1)

set_option maxHeartbeats 3200000 in
set_option maxRecDepth 100000 in
theorem label_spec (l : LabelD) (w : World) (h : labelB l = true) :
    Calls Tryz.prog 38 #[.agg #[.int .i64 l.layer, .int .i64 l.x, .int .i64 l.y, .string l.name]] w (IsStr (labelT l) 400 w.heap.size w) := by
  obtain ⟨hp, hnmB⟩ := label_parts h
  have hls := name_small hnmB
  have hN := Lib.hid (show ∀ n ∈ [l.x, l.y], -9223372036854775808 ≤ n ∧ n ≤ 9223372036854775807 from by intro n hn; simp only [List.mem_cons, List.not_mem_nil, or_false] at hn; rcases hn with rfl | rfl <;> omega)
  obtain ⟨nm, Hnm⟩ : ∃ nm, Hid (nm = nameOf layN l.layer) := ⟨_, Lib.hid rfl⟩
  have hnm : nm.size ≤ 21 := by rw [Hnm.out]; exact Nat.le_trans (lay_size _) (by decide)
  have a0 : ¬ (9223372036854775807 < 6 + nm.size) := (by omega)
  have b1 := (Below.refl w.heap.size w).alloc (Nat.le_refl _) (.cells #[.int .i64 l.layer, .int .i64 l.x, .int .i64 l.y, .string l.name] 67)
  obtain ⟨w1, hw1⟩ : ∃ w1, Hid (w.alloc (.cells #[.int .i64 l.layer, .int .i64 l.x, .int .i64 l.y, .string l.name] 67) = w1) := ⟨_, Lib.hid rfl⟩
  have x1 := Bk.new w 67 #[.int .i64 l.layer, .int .i64 l.x, .int .i64 l.y, .string l.name]
  rw [hw1.out] at b1 x1
  have HS := Lib.hid (show ∀ W, Below w1.heap.size w1 W → W.cell? ⟨w.heap.size, 0, none⟩ = some (.int .i64 l.layer) ∧ W.cell? ⟨w.heap.size, 1, none⟩ = some (.int .i64 l.x) ∧ W.cell? ⟨w.heap.size, 2, none⟩ = some (.int .i64 l.y) ∧ W.cell? ⟨w.heap.size, 3, none⟩ = some (.string l.name) from fun W hW => ⟨(x1.on hW).cell 0, (x1.on hW).cell 1, (x1.on hW).cell 2, (x1.on hW).cell 3⟩)
  have B1 := Lib.hid b1
  have hs1 := b1.size
  have t0 := Below.refl w1.heap.size w1
  have tc := Lib.hid t0.drew
  have TB := Lib.hid (t0.alloc (Nat.le_refl _) (.cells #[.int .i64 l.x, .int .i64 l.y] 2)).drew
  have IB := Lib.hid (IL.drew (IL.lit2 w1 (g := w1.heap.size) rfl l.x l.y))
  have IA := Lib.hid (fun W : World => IL.lit2 W (g := W.heap.size) rfl l.x l.y)
  clear t0
  clear x1 b1 h hnmB hp
  go_enter Tryz.func38, Tryz.ntmps38
  go_wp2
  rw [hw1.out]
  go_region_held3 (fun w' => w'.cell? ⟨w.heap.size, 0, none⟩ = some (.int .i64 l.layer) ∧ w'.cell? ⟨w.heap.size, 1, none⟩ = some (.int .i64 l.x) ∧ w'.cell? ⟨w.heap.size, 2, none⟩ = some (.int .i64 l.y) ∧ w'.cell? ⟨w.heap.size, 3, none⟩ = some (.string l.name))
    (first | with_reducible exact HS.out _ tc.out | with_reducible exact HS.out _ TB.out | with_reducible exact HS.out _ tz.out | with_reducible exact HS.out _ (tz.out.alloc tz.out.size _) | with_reducible exact HS.out _ ty.out)
    (first
    | (go_at_call 68; (with_reducible refine (layN_spec _ _).mono ?_); rintro e w7 ⟨rfl, hb7⟩; rw [← Hnm.out]; (first | (with_reducible have tz := Lib.hid (tc.out.trans (hb7.mono tc.out.size))) | (with_reducible have tz := Lib.hid (TB.out.trans (hb7.mono TB.out.size))) | (with_reducible have tz := Lib.hid (ty.out.trans (hb7.mono ty.out.size)))))
    | (go_at_call 69; (first | (with_reducible refine (nums_spec _ [l.x, l.y] _ IB.out hN.out (by simp)).mono ?_) | (with_reducible refine (nums_spec _ [l.x, l.y] _ (IB.out.on hb7) hN.out (by simp)).mono ?_) | (with_reducible refine (nums_spec _ [l.x, l.y] _ (IA.out w7) hN.out (by simp)).mono ?_)); rintro e w8 ⟨ps, rfl, hps, hpl, hb8⟩; have Hps := Lib.hid hps; clear hps; (first | (with_reducible have ty := Lib.hid (TB.out.trans (hb8.mono TB.out.size))) | (with_reducible have ty := Lib.hid (tz.out.trans (hb8.mono tz.out.size))) | (with_reducible have ty := Lib.hid ((tz.out.alloc tz.out.size _).trans (hb8.mono (tz.out.alloc tz.out.size _).size)))); have a1 : ¬ (9223372036854775807 < 6 + nm.size + ps.size) := (by omega); have a2 : ¬ (9223372036854775807 < 6 + nm.size + ps.size + 1) := (by omega); have a3 : ¬ (9223372036854775807 < 6 + nm.size + ps.size + 1 + l.name.size) := (by omega)))
  all_goals
    go_wp2
    go_ret
    refine ⟨_, rfl, ?_, ?_, ?_⟩
    · rw [Hps.out, Hnm.out]
      apply bytes_ext
      simp [labelT, labelW, numsT, ByteArray.data_append]
    · rw [ByteArray.size_append, ByteArray.size_append, ByteArray.size_append, ByteArray.size_append, one_size, show (⟨#[108, 97, 98, 101, 108, 32]⟩ : ByteArray).size = 6 from rfl]; omega
    · first | exact B1.out.trans (ty.out.mono hs1) | exact B1.out.trans (tz.out.mono hs1)

set_option maxHeartbeats 3200000 in
set_option maxRecDepth 100000 in
theorem inst_spec (A : Option Addr) (m cap k : Nat) (kk io ix iy ic ir isx isy : Int) (cs : List CellD) (nc : ByteArray) (w : World) (hL : LibV w 0 (.slice A m cap) cs) (hm : m = cs.length) (hk : k < cs.length)
    (hc : (cs[k]?).map CellD.name = some nc) (hnc : nc.size ≤ 8) (h : instB ⟨(k : Int), io, ix, iy, ic, ir, isx, isy⟩ kk = true) :
    Calls Tryz.prog 39 #[.agg #[.slice A m cap], .agg #[.int .i64 (k : Int), .int .i64 io, .int .i64 ix, .int .i64 iy, .int .i64 ic, .int .i64 ir, .int .i64 isx, .int .i64 isy]] w (IsStr (instT nc ⟨(k : Int), io, ix, iy, ic, ir, isx, isy⟩) 400 w.heap.size w) := by
  have hp := inst_parts h
  simp only [] at hp
  have hN := Lib.hid (show ∀ n ∈ [ix, iy], -9223372036854775808 ≤ n ∧ n ≤ 9223372036854775807 from by intro n hn; simp only [List.mem_cons, List.not_mem_nil, or_false] at hn; rcases hn with rfl | rfl <;> omega)
  have hN4 := Lib.hid (show ∀ n ∈ [ic, ir, isx, isy], -9223372036854775808 ≤ n ∧ n ≤ 9223372036854775807 from by intro n hn; simp only [List.mem_cons, List.not_mem_nil, or_false] at hn; rcases hn with rfl | rfl | rfl | rfl <;> omega)
  obtain ⟨nm, Hnm⟩ : ∃ nm, Hid (nm = nameOf oriN io) := ⟨_, Lib.hid rfl⟩
  have hnm : nm.size ≤ 21 := by rw [Hnm.out]; exact Nat.le_trans (ori_size _) (by decide)
  have a0 : ¬ (9223372036854775807 < nc.size + 1) := (by omega)
  have a1 : ¬ (9223372036854775807 < nc.size + 1 + nm.size) := (by omega)
  obtain ⟨g, c, u, rfl, hck, hg, f0, -⟩ := hL.elem (hm ▸ hk : k < cs.length)
  rw [hck] at hc
  obtain rfl : c.name = nc := by simpa using hc
  obtain ⟨nc, hncE⟩ : ∃ nc, Hid (nc = c.name) := ⟨_, Lib.hid rfl⟩
  rw [← hncE.out] at hnc a0 a1 f0 ⊢
  have b1 := ((Below.refl w.heap.size w).alloc (Nat.le_refl _) (.cells #[.slice (some ⟨g, 0, none⟩) m cap] 26)).alloc (by simp) (.cells #[.int .i64 (k : Int), .int .i64 io, .int .i64 ix, .int .i64 iy, .int .i64 ic, .int .i64 ir, .int .i64 isx, .int .i64 isy] 72)
  obtain ⟨w1, hw1⟩ : ∃ w1, Hid ((w.alloc (.cells #[.slice (some ⟨g, 0, none⟩) m cap] 26)).alloc (.cells #[.int .i64 (k : Int), .int .i64 io, .int .i64 ix, .int .i64 iy, .int .i64 ic, .int .i64 ir, .int .i64 isx, .int .i64 isy] 72) = w1) := ⟨_, Lib.hid rfl⟩
  have x0 := (Bk.new w 26 #[.slice (some ⟨g, 0, none⟩) m cap]).alloc (.cells #[.int .i64 (k : Int), .int .i64 io, .int .i64 ix, .int .i64 iy, .int .i64 ic, .int .i64 ir, .int .i64 isx, .int .i64 isy] 72)
  have x1 := Bk.new' (w.alloc (.cells #[.slice (some ⟨g, 0, none⟩) m cap] 26)) (w.heap.size + 1) 72 #[.int .i64 (k : Int), .int .i64 io, .int .i64 ix, .int .i64 iy, .int .i64 ic, .int .i64 ir, .int .i64 isx, .int .i64 isy] (by simp)
  rw [hw1.out] at b1 x0 x1
  have f1 : w1.cell? ⟨g, k * 4, none⟩ = some (.string nc) := (b1.cell (p := ⟨g, k * 4, none⟩) hg).trans f0
  have HS := Lib.hid (show ∀ W, Below w1.heap.size w1 W → W.cell? ⟨w.heap.size, 0, none⟩ = some (.slice (some ⟨g, 0, none⟩) m cap) ∧ W.cell? ⟨w.heap.size + 1, 0, none⟩ = some (.int .i64 (k : Int)) ∧ W.cell? ⟨w.heap.size + 1, 1, none⟩ = some (.int .i64 io) ∧ W.cell? ⟨w.heap.size + 1, 2, none⟩ = some (.int .i64 ix) ∧ W.cell? ⟨w.heap.size + 1, 3, none⟩ = some (.int .i64 iy) ∧ W.cell? ⟨w.heap.size + 1, 4, none⟩ = some (.int .i64 ic) ∧ W.cell? ⟨w.heap.size + 1, 5, none⟩ = some (.int .i64 ir) ∧ W.cell? ⟨w.heap.size + 1, 6, none⟩ = some (.int .i64 isx) ∧ W.cell? ⟨w.heap.size + 1, 7, none⟩ = some (.int .i64 isy) ∧ W.cell? ⟨g, k * 4, none⟩ = some (.string nc) from fun W hW => ⟨(x0.on hW).cell 0, (x1.on hW).cell 0, (x1.on hW).cell 1, (x1.on hW).cell 2, (x1.on hW).cell 3, (x1.on hW).cell 4, (x1.on hW).cell 5, (x1.on hW).cell 6, (x1.on hW).cell 7, (hW.cell (p := ⟨g, k * 4, none⟩) (Nat.lt_of_lt_of_le hg b1.size)).trans f1⟩)
  have B1 := Lib.hid b1
  have hs1 := b1.size
  have t0 := Below.refl w1.heap.size w1
  have tc := Lib.hid t0.drew
  have TB := Lib.hid (t0.alloc (Nat.le_refl _) (.cells #[.int .i64 ix, .int .i64 iy] 2)).drew
  have IB := Lib.hid (IL.drew (IL.lit2 w1 (g := w1.heap.size) rfl ix iy))
  have IA := Lib.hid (fun W : World => IL.lit2 W (g := W.heap.size) rfl ix iy)
  clear t0
  have hk0 : (0 : Int) ≤ (k : Int) := by omega
  have hk1 : (k : Int) < (m : Int) := by omega
  have hk2 : k < m := by omega
  clear x0 x1 b1 f0 f1 hL hck hc h hm hk hp
  go_enter Tryz.func39, Tryz.ntmps39
  go_wp2
  rw [hw1.out]
  go_region_held3 (fun w' => w'.cell? ⟨w.heap.size, 0, none⟩ = some (.slice (some ⟨g, 0, none⟩) m cap) ∧ w'.cell? ⟨w.heap.size + 1, 0, none⟩ = some (.int .i64 (k : Int)) ∧ w'.cell? ⟨w.heap.size + 1, 1, none⟩ = some (.int .i64 io) ∧ w'.cell? ⟨w.heap.size + 1, 2, none⟩ = some (.int .i64 ix) ∧ w'.cell? ⟨w.heap.size + 1, 3, none⟩ = some (.int .i64 iy) ∧ w'.cell? ⟨w.heap.size + 1, 4, none⟩ = some (.int .i64 ic) ∧ w'.cell? ⟨w.heap.size + 1, 5, none⟩ = some (.int .i64 ir) ∧ w'.cell? ⟨w.heap.size + 1, 6, none⟩ = some (.int .i64 isx) ∧ w'.cell? ⟨w.heap.size + 1, 7, none⟩ = some (.int .i64 isy) ∧ w'.cell? ⟨g, k * 4, none⟩ = some (.string nc))
    (first | with_reducible exact HS.out _ tc.out | with_reducible exact HS.out _ TB.out | with_reducible exact HS.out _ tz.out | with_reducible exact HS.out _ (tz.out.alloc tz.out.size _) | with_reducible exact HS.out _ ty.out)
    (first
    | (go_at_call 70; (with_reducible refine (oriN_spec _ _).mono ?_); rintro e w7 ⟨rfl, hb7⟩; rw [← Hnm.out]; (first | (with_reducible have tz := Lib.hid (tc.out.trans (hb7.mono tc.out.size))) | (with_reducible have tz := Lib.hid (TB.out.trans (hb7.mono TB.out.size))) | (with_reducible have tz := Lib.hid (ty.out.trans (hb7.mono ty.out.size)))))
    | (go_at_call 69; (first | (with_reducible refine (nums_spec _ [ix, iy] _ IB.out hN.out (by simp)).mono ?_) | (with_reducible refine (nums_spec _ [ix, iy] _ (IB.out.on hb7) hN.out (by simp)).mono ?_) | (with_reducible refine (nums_spec _ [ix, iy] _ (IA.out w7) hN.out (by simp)).mono ?_)); rintro e w8 ⟨ps, rfl, hps, hpl, hb8⟩; have Hps := Lib.hid hps; clear hps; (first | (with_reducible have ty := Lib.hid (TB.out.trans (hb8.mono TB.out.size))) | (with_reducible have ty := Lib.hid (tz.out.trans (hb8.mono tz.out.size))) | (with_reducible have ty := Lib.hid ((tz.out.alloc tz.out.size _).trans (hb8.mono (tz.out.alloc tz.out.size _).size)))); have a2 : ¬ (9223372036854775807 < nc.size + 1 + nm.size + ps.size) := (by omega)))
  all_goals
    obtain ⟨q, Hq⟩ : ∃ q, Hid (q = nc ++ ⟨#[32]⟩ ++ nm ++ ps) := ⟨_, Lib.hid rfl⟩
    have hq : q.size ≤ 200 := by rw [Hq.out, ByteArray.size_append, ByteArray.size_append, ByteArray.size_append, one_size]; omega
    rw [← Hq.out]
    have a3 : ¬ (9223372036854775807 < 6 + q.size) := (by omega)
    obtain ⟨g0, q0, q1, q2, q3, q4, q5, q6, q7, -⟩ := HS.out _ ty.out
    have hty := B1.out.trans (ty.out.mono hs1)
    have hsy := ty.out.size
    clear IB IA TB tc HS
    by_cases h1 : ic = 1 ∧ ir = 1
    · obtain ⟨rfl, rfl⟩ := h1
      go_wp2
      go_ret
      refine ⟨_, rfl, ?_, ?_, hty⟩
      · rw [Hq.out, Hps.out, Hnm.out]
        apply bytes_ext
        simp [instT, oneB, headT, placeW, numsT, ByteArray.data_append]
      · rw [ByteArray.size_append, show (⟨#[112, 108, 97, 99, 101, 32]⟩ : ByteArray).size = 6 from rfl]; omega
    · have ho : oneB ⟨(k : Int), io, ix, iy, ic, ir, isx, isy⟩ = false := by simp only [oneB, Bool.and_eq_false_iff, beq_eq_false_iff_ne]; exact Decidable.not_and_iff_or_not.1 h1
      have IC := fun a b => Lib.hid (IL.lit4 w8 (g := w8.heap.size) rfl a b isx isy)
      have TC := fun a b => Lib.hid (ty.out.alloc hsy (.cells #[.int .i64 a, .int .i64 b, .int .i64 isx, .int .i64 isy] 2))
      have h2 : (ic = 1 ∧ ¬ ir = 1) ∨ ¬ ic = 1 := by omega
      rcases h2 with ⟨rfl, h2⟩ | h2
      all_goals
        go_wp2_with (go_at_call 69; (with_reducible refine (nums_spec _ [_, _, isx, isy] _ (IC _ _).out hN4.out (by simp)).mono ?_); rintro e w9 ⟨pt, rfl, hpt, hptl, hb9⟩; have Hpt := Lib.hid hpt; clear hpt; have tw := (TC _ _).out.trans (hb9.mono (TC _ _).out.size); have a4 : ¬ (9223372036854775807 < 6 + q.size + pt.size) := (by omega))
        go_ret
        refine ⟨_, rfl, ?_, ?_, B1.out.trans (tw.mono hs1)⟩
        · rw [Hq.out, Hps.out, Hnm.out, Hpt.out, instT, if_neg (by rw [ho]; decide)]
          apply bytes_ext
          simp [headT, arrayW, numsT, ByteArray.data_append]
        · rw [ByteArray.size_append, ByteArray.size_append, show (⟨#[97, 114, 114, 97, 121, 32]⟩ : ByteArray).size = 6 from rfl]; omega


end Go.Proofs.YtcckamhokdodnaaGreatDoor
