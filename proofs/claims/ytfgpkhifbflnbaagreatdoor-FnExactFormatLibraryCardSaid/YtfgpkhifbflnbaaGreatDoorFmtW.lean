/- The walk of impl.FormatLibrary. -/
import Derived.Test.YtfgpkhifbflnbaaGreatDoorFmtP
namespace Go.Proofs.YtfgpkhifbflnbaaGreatDoor
open Go.RowKit

set_option maxHeartbeats 6400000 in
set_option maxRecDepth 100000 in
theorem fmtLib_impl (B : Nat) (v : Value) (cs : List CellD) (w : World) (hE : Env B w) (hB : B ≤ w.heap.size) (hv : LibV w 0 v cs) (hN : ∀ c ∈ cs, NmOk c) :
    Calls Tryz.prog 7 #[.agg #[v]] w fun e w' => e = .returned (.string (if libB cs = true then ⟨(libT cs).toArray⟩ else ⟨#[]⟩)) ∧ Below w.heap.size w w' := by
  obtain ⟨A, cp, rfl, -, hm⟩ := hv.form
  unfold maxLen at hm
  have b0 := (Below.refl w.heap.size w).alloc (Nat.le_refl _) (.cells #[.slice A cs.length cp] 29)
  have z0 := Bk.new w 29 #[.slice A cs.length cp]
  have HV := Lib.hid hv
  have HN := Lib.hid hN
  have HE := Lib.hid (hE.more hB)
  clear hv hN hE
  cases hlib : libB cs with
  | false =>
    go_enter Tryz.func7, Tryz.ntmps7
    go_wp2_with (go_at_call 15; (with_reducible refine (lib_impl _ cs _ (HV.out.on b0) HN.out).mono ?_); rintro e w1 ⟨rfl, hb1⟩; rw [hlib])
    go_ret
    exact ⟨rfl, b0.trans (hb1.mono b0.size)⟩
  | true =>
    have Hlib := Lib.hid hlib
    go_enter Tryz.func7, Tryz.ntmps7
    go_wp2_with (go_at_call 15; (with_reducible refine (lib_impl _ cs _ (HV.out.on b0) HN.out).mono ?_); rintro e w1 ⟨rfl, hb1⟩; rw [hlib]; have z1 := (z0.on hb1).alloc (.cells #[.pointer none, .slice none 0 0] 59); have b1 := (b0.trans (hb1.mono b0.size)).alloc (Nat.le_trans b0.size hb1.size) (.cells #[.pointer none, .slice none 0 0] 59); have q1 := z1.cell 0; simp only [List.getElem?_toArray, List.getElem?_cons_zero] at q1)
    have hwb : w.heap.size < w1.heap.size := Nat.lt_of_lt_of_le (by simp) hb1.size
    have y1 := WB.new w1
    obtain ⟨b, Hb⟩ : ∃ b, Hid (b = w1.heap.size) := ⟨_, Lib.hid rfl⟩
    have h8 := lib_size hlib
    rw [← Hb.out] at hwb y1 ⊢
    clear q1 b0 z0 hb1 hlib
    go_loopw [20] (fun iv wr => ∃ k : Nat, k ≤ cs.length ∧ iv = .int .i64 k ∧ WB b (libTo cs k) wr ∧ Below w.heap.size w wr ∧ Bk wr w.heap.size 29 #[.slice A cs.length cp] ∧ Hid ((libTo cs k).length ≤ k * 20000)) (fun iv _ => cs.length - (intOf iv).toNat)
    case atStart => exact ⟨0, Nat.zero_le _, rfl, y1, b1, z1, Lib.hid (by simp [libTo])⟩
    case round =>
      obtain ⟨wo, hwo⟩ : ∃ wo, wo = wr := ⟨_, rfl⟩
      subst hwo
      obtain ⟨k, hk, rfl, hW, hb, hz, Hlen⟩ := hrel
      clear b1 z1 y1
      have HW := Lib.hid hW
      have hbw := hW.lt
      clear hW
      by_cases hlt : k < cs.length
      · obtain ⟨g, x, u, rfl, hx, hg, f0, f1, f2, f3, hC⟩ := HV.out.elem hlt
        obtain ⟨us, ul, ui⟩ := u
        obtain ⟨P1, k1, h1, -, hk1⟩ := hC.s.form
        obtain ⟨P2, k2, h2, -, hk2⟩ := hC.l.form
        obtain ⟨P3, k3, h3, -, hk3⟩ := hC.i.form
        dsimp only at h1 h2 h3 f1 f2 f3
        subst h1 h2 h3
        unfold maxLen at hk1 hk2 hk3
        have HF := Lib.hid (lib_facts Hlib.out hx)
        have Hx := Lib.hid hx
        have HC := Lib.hid hC
        have hnm := HF.out.name
        have e0 := (hb.cell (p := ⟨g, k * 4, none⟩) hg).trans f0
        have e1 := (hb.cell (p := ⟨g, k * 4 + 1, none⟩) hg).trans f1
        have e2 := (hb.cell (p := ⟨g, k * 4 + 2, none⟩) hg).trans f2
        have e3 := (hb.cell (p := ⟨g, k * 4 + 3, none⟩) hg).trans f3
        have t1 := hb.alloc hb.size (.cells #[.string x.name, .slice P1 x.shapes.length k1, .slice P2 x.labels.length k2, .slice P3 x.insts.length k3] 39)
        have y1 := Bk.new wo 39 #[.string x.name, .slice P1 x.shapes.length k1, .slice P2 x.labels.length k2, .slice P3 x.insts.length k3]
        have z1 := hz.alloc (.cells #[.string x.name, .slice P1 x.shapes.length k1, .slice P2 x.labels.length k2, .slice P3 x.insts.length k3] 39)
        have HW1 := Lib.hid (HW.out.below ((Below.refl _ _).alloc (Nat.le_refl _) (.cells #[.string x.name, .slice P1 x.shapes.length k1, .slice P2 x.labels.length k2, .slice P3 x.insts.length k3] 39)))
        have hbc : wo.heap.size ≠ b := by omega
        have a0 : ¬ (9223372036854775807 < 5 + x.name.size) := by omega
        have hl1 : (libTo cs k).length ≤ 1000000 := by have := Hlen.out; omega
        have hwc : w.heap.size < wo.heap.size := by omega
        clear hx hC f0 f1 f2 f3
        go_wp2_with (go_at_call 16; (with_reducible refine (line_any b (libTo cs k) _ _ HW1.out hl1 (by rw [ByteArray.size_append, show (⟨#[99, 101, 108, 108, 32]⟩ : ByteArray).size = 5 from rfl]; omega)).mono ?_); rintro e w2 ⟨rfl, hW2, hb2, ho2⟩; have y2 := y1.aside ho2 hbc (by decide); have z2 := z1.below hb2 hwb; have t2 := t1.trans (hb2.mono (Nat.le_of_lt hwb)); have d1 := y2.cell 1; simp only [List.getElem?_toArray, List.getElem?_cons_zero, List.getElem?_cons_succ] at d1)

        have W1 : Hid (WB b (libTo cs k ++ headC x) w2) := Lib.hid (by have e : (⟨#[99, 101, 108, 108, 32]⟩ ++ x.name).data.toList ++ [10] = headC x := by simp [headC, ByteArray.data_append]
                                                                       rw [← e]; exact hW2)
        have HL1 := Lib.hid (show (libTo cs k ++ headC x).length ≤ k * 20000 + 14 from by have := Hlen.out; have e : (headC x).length = 5 + (x.name.size + 1) := (by simp [headC, ← ByteArray.size_data]; omega); rw [List.length_append, e]; omega)
        obtain ⟨T1, HT1⟩ : ∃ T, Hid (T = libTo cs k ++ headC x) := ⟨_, Lib.hid rfl⟩
        rw [← HT1.out] at W1 HL1
        clear t1 y1 z1 d1 hW2
        go_loopw [32] (fun iv wr1 => ∃ j : Nat, j ≤ x.shapes.length ∧ iv = .int .i64 j ∧ WB b (T1 ++ shT x j) wr1 ∧ Below w.heap.size w wr1 ∧ Bk wr1 w.heap.size 29 #[.slice (some ⟨g, 0, none⟩) cs.length cp] ∧ Bk wr1 wo.heap.size 39 #[.string x.name, .slice P1 x.shapes.length k1, .slice P2 x.labels.length k2, .slice P3 x.insts.length k3] ∧ Hid ((T1 ++ shT x j).length ≤ k * 20000 + 14 + j * 301)) (fun iv _ => x.shapes.length - (intOf iv).toNat)
        case atStart => exact ⟨0, Nat.zero_le _, rfl, by rw [show shT x 0 = [] by simp [shT], List.append_nil]; exact W1.out, t2, z2, y2, Lib.hid (by rw [show shT x 0 = [] by simp [shT], List.append_nil]; exact HL1.out)⟩
        case round =>
          obtain ⟨j, hj, rfl, hWj, hbj, hzj, hyj, Hlj⟩ := hrel
          clear t2 z2 y2 W1
          have HWj := Lib.hid hWj
          clear hWj
          by_cases hlj : j < x.shapes.length
          · obtain ⟨gs, s, rfl, hs, -, -, hcc⟩ := FL.elem ShapeD.len (HC.out.s.on hbj) hlj
            have hsB := HF.out.s s (List.mem_of_getElem? hs)
            have Hs := Lib.hid (shT_snoc hs)
            clear hs
            obtain ⟨a0, ⟨a1, a2, a3, a4⟩⟩ := s
            have f0 : wr.cell? ⟨gs, j * 5, none⟩ = some (.int .i64 a0) := hcc 0 _ rfl
            have f1 : wr.cell? ⟨gs, j * 5 + 1, none⟩ = some (.int .i64 a1) := hcc 1 _ rfl
            have f2 : wr.cell? ⟨gs, j * 5 + 2, none⟩ = some (.int .i64 a2) := hcc 2 _ rfl
            have f3 : wr.cell? ⟨gs, j * 5 + 3, none⟩ = some (.int .i64 a3) := hcc 3 _ rfl
            have f4 : wr.cell? ⟨gs, j * 5 + 4, none⟩ = some (.int .i64 a4) := hcc 4 _ rfl
            clear hcc
            have tj := hbj.alloc hbj.size (.cells #[.int .i64 a0, .int .i64 a1, .int .i64 a2, .int .i64 a3, .int .i64 a4] 44)
            have yj := hyj.alloc (.cells #[.int .i64 a0, .int .i64 a1, .int .i64 a2, .int .i64 a3, .int .i64 a4] 44)
            have zj := hzj.alloc (.cells #[.int .i64 a0, .int .i64 a1, .int .i64 a2, .int .i64 a3, .int .i64 a4] 44)
            have HWk := Lib.hid (HWj.out.below ((Below.refl _ _).alloc (Nat.le_refl _) (.cells #[.int .i64 a0, .int .i64 a1, .int .i64 a2, .int .i64 a3, .int .i64 a4] 44)))
            have Ej := Lib.hid (HE.out.on tj)
            have hl1 : (T1 ++ shT x j).length ≤ 1000000 := by have := Hlj.out; have := HF.out.ns; omega
            have hj9 : j < 9223372036854775807 := by have := HF.out.ns; omega
            go_wp2_with (first
              | (go_at_call 18; (with_reducible refine (fmtShape_impl w.heap.size ⟨a0, ⟨a1, a2, a3, a4⟩⟩ _ Ej.out tj.size hsB).mono ?_); rintro e w3 ⟨js, rfl, hjs, hjl, hb3⟩; have Hjs := Lib.hid hjs; clear hjs; have hjl2 : js.size ≤ 1000 := (Nat.le_trans hjl (by decide)); have HW3 := Lib.hid (HWk.out.below hb3); have y3 := yj.on hb3; have z3 := zj.on hb3; have t3 := tj.trans (hb3.mono tj.size))
              | (go_at_call 16; (with_reducible refine (line_any b (T1 ++ shT x j) js _ HW3.out hl1 hjl2).mono ?_); rintro e w4 ⟨rfl, hW4, hb4, ho4⟩))
            go_roundw
            case rel =>
              have e1 : T1 ++ shT x (j + 1) = (T1 ++ shT x j) ++ (js.data.toList ++ [10]) := by rw [Hs.out, ← List.append_assoc, Hjs.out]
              have e2 : ((T1 ++ shT x j) ++ (js.data.toList ++ [10])).length = (T1 ++ shT x j).length + (js.size + 1) := line_len _ _
              exact ⟨j + 1, hlj, by go_num, by rw [e1]; exact hW4, t3.trans (hb4.mono (Nat.le_of_lt hwb)), z3.below hb4 hwb, y3.aside ho4 hbc (by decide), Lib.hid (by rw [e1, e2]; have := Hlj.out; omega)⟩
            case measure => simp [intOf]; omega
          · obtain rfl : j = x.shapes.length := by omega
            obtain ⟨T2, HT2⟩ : ∃ T, Hid (T = T1 ++ shT x x.shapes.length) := ⟨_, Lib.hid rfl⟩
            rw [← HT2.out] at HWj Hlj
            have W2 := HWj
            have HL2 := Lib.hid (show T2.length ≤ k * 20000 + 7238 from by have := Hlj.out; have := HF.out.ns; omega)
            have t3 := hbj
            have z3 := hzj
            have y3 := hyj
            clear hbj hzj hyj hlj Hlj HWj
            have d2 := y3.cell 2
            simp only [List.getElem?_toArray, List.getElem?_cons_zero, List.getElem?_cons_succ] at d2
            go_wp2
            clear d2
            go_loopw [44] (fun iv wr2 => ∃ j : Nat, j ≤ x.labels.length ∧ iv = .int .i64 j ∧ WB b (T2 ++ laT x j) wr2 ∧ Below w.heap.size w wr2 ∧ Bk wr2 w.heap.size 29 #[.slice (some ⟨g, 0, none⟩) cs.length cp] ∧ Bk wr2 wo.heap.size 39 #[.string x.name, .slice P1 x.shapes.length k1, .slice P2 x.labels.length k2, .slice P3 x.insts.length k3] ∧ Hid ((T2 ++ laT x j).length ≤ k * 20000 + 7238 + j * 401)) (fun iv _ => x.labels.length - (intOf iv).toNat)
            case atStart => exact ⟨0, Nat.zero_le _, rfl, by rw [show laT x 0 = [] by simp [laT], List.append_nil]; exact W2.out, t3, z3, y3, Lib.hid (by rw [show laT x 0 = [] by simp [laT], List.append_nil]; exact HL2.out)⟩
            case round =>
              obtain ⟨j, hj, rfl, hWj, hbj, hzj, hyj, Hlj⟩ := hrel
              clear t3 z3 y3 W2
              have HWj := Lib.hid hWj
              clear hWj
              by_cases hlj : j < x.labels.length
              · obtain ⟨gs, s, rfl, hs, -, -, hcc⟩ := FL.elem LabelD.len (HC.out.l.on hbj) hlj
                have hsB := HF.out.l s (List.mem_of_getElem? hs)
                have Hs := Lib.hid (laT_snoc hs)
                clear hs
                obtain ⟨a0, a1, a2, a3⟩ := s
                have f0 : wr.cell? ⟨gs, j * 4, none⟩ = some (.int .i64 a0) := hcc 0 _ rfl
                have f1 : wr.cell? ⟨gs, j * 4 + 1, none⟩ = some (.int .i64 a1) := hcc 1 _ rfl
                have f2 : wr.cell? ⟨gs, j * 4 + 2, none⟩ = some (.int .i64 a2) := hcc 2 _ rfl
                have f3 : wr.cell? ⟨gs, j * 4 + 3, none⟩ = some (.string a3) := hcc 3 _ rfl
                clear hcc
                have tj := hbj.alloc hbj.size (.cells #[.int .i64 a0, .int .i64 a1, .int .i64 a2, .string a3] 49)
                have yj := hyj.alloc (.cells #[.int .i64 a0, .int .i64 a1, .int .i64 a2, .string a3] 49)
                have zj := hzj.alloc (.cells #[.int .i64 a0, .int .i64 a1, .int .i64 a2, .string a3] 49)
                have HWk := Lib.hid (HWj.out.below ((Below.refl _ _).alloc (Nat.le_refl _) (.cells #[.int .i64 a0, .int .i64 a1, .int .i64 a2, .string a3] 49)))
                have Ej := Lib.hid (HE.out.on tj)
                have hl1 : (T2 ++ laT x j).length ≤ 1000000 := by have := Hlj.out; have := HF.out.nl; omega
                have hj9 : j < 9223372036854775807 := by have := HF.out.nl; omega
                go_wp2_with (first
                  | (go_at_call 19; (with_reducible refine (fmtLabel_impl w.heap.size ⟨a0, a1, a2, a3⟩ _ Ej.out tj.size hsB).mono ?_); rintro e w3 ⟨js, rfl, hjs, hjl, hb3⟩; have Hjs := Lib.hid hjs; clear hjs; have hjl2 : js.size ≤ 1000 := (Nat.le_trans hjl (by decide)); have HW3 := Lib.hid (HWk.out.below hb3); have y3 := yj.on hb3; have z3 := zj.on hb3; have t3 := tj.trans (hb3.mono tj.size))
                  | (go_at_call 16; (with_reducible refine (line_any b (T2 ++ laT x j) js _ HW3.out hl1 hjl2).mono ?_); rintro e w4 ⟨rfl, hW4, hb4, ho4⟩))
                go_roundw
                case rel =>
                  have e1 : T2 ++ laT x (j + 1) = (T2 ++ laT x j) ++ (js.data.toList ++ [10]) := by rw [Hs.out, ← List.append_assoc, Hjs.out]
                  have e2 : ((T2 ++ laT x j) ++ (js.data.toList ++ [10])).length = (T2 ++ laT x j).length + (js.size + 1) := line_len _ _
                  exact ⟨j + 1, hlj, by go_num, by rw [e1]; exact hW4, t3.trans (hb4.mono (Nat.le_of_lt hwb)), z3.below hb4 hwb, y3.aside ho4 hbc (by decide), Lib.hid (by rw [e1, e2]; have := Hlj.out; omega)⟩
                case measure => simp [intOf]; omega
              · obtain rfl : j = x.labels.length := by omega
                obtain ⟨T3, HT3⟩ : ∃ T, Hid (T = T2 ++ laT x x.labels.length) := ⟨_, Lib.hid rfl⟩
                rw [← HT3.out] at HWj Hlj
                have W3 := HWj
                have HL3 := Lib.hid (show T3.length ≤ k * 20000 + 10446 from by have := Hlj.out; have := HF.out.nl; omega)
                have t4 := hbj
                have z4 := hzj
                have y4 := hyj
                clear hbj hzj hyj hlj Hlj HWj
                have d3 := y4.cell 3
                simp only [List.getElem?_toArray, List.getElem?_cons_zero, List.getElem?_cons_succ] at d3
                go_wp2
                clear d3
                go_loopw [56] (fun iv wr3 => ∃ j : Nat, j ≤ x.insts.length ∧ iv = .int .i64 j ∧ WB b (T3 ++ inT cs x j) wr3 ∧ Below w.heap.size w wr3 ∧ Bk wr3 w.heap.size 29 #[.slice (some ⟨g, 0, none⟩) cs.length cp] ∧ Bk wr3 wo.heap.size 39 #[.string x.name, .slice P1 x.shapes.length k1, .slice P2 x.labels.length k2, .slice P3 x.insts.length k3] ∧ Hid ((T3 ++ inT cs x j).length ≤ k * 20000 + 10446 + j * 301)) (fun iv _ => x.insts.length - (intOf iv).toNat)
                case atStart => exact ⟨0, Nat.zero_le _, rfl, by rw [show inT cs x 0 = [] by simp [inT], List.append_nil]; exact W3.out, t4, z4, y4, Lib.hid (by rw [show inT cs x 0 = [] by simp [inT], List.append_nil]; exact HL3.out)⟩
                case round =>
                  obtain ⟨j, hj, rfl, hWj, hbj, hzj, hyj, Hlj⟩ := hrel
                  clear t4 z4 y4 W3
                  have HWj := Lib.hid hWj
                  clear hWj
                  by_cases hlj : j < x.insts.length
                  · obtain ⟨gs, s, rfl, hs, -, -, hcc⟩ := FL.elem InstD.len (HC.out.i.on hbj) hlj
                    have hsB := HF.out.i s (List.mem_of_getElem? hs)
                    have Hs := Lib.hid (inT_snoc (cs := cs) hs)
                    clear hs
                    obtain ⟨nn, hnn, hnl, hnm1, hnm2⟩ := inst_cell Hlib.out hlt hsB
                    obtain ⟨a0, a1, a2, a3, a4, a5, a6, a7⟩ := s
                    dsimp only at hnn
                    subst hnn
                    have f0 : wr.cell? ⟨gs, j * 8, none⟩ = some (.int .i64 (nn : Int)) := hcc 0 _ rfl
                    have f1 : wr.cell? ⟨gs, j * 8 + 1, none⟩ = some (.int .i64 a1) := hcc 1 _ rfl
                    have f2 : wr.cell? ⟨gs, j * 8 + 2, none⟩ = some (.int .i64 a2) := hcc 2 _ rfl
                    have f3 : wr.cell? ⟨gs, j * 8 + 3, none⟩ = some (.int .i64 a3) := hcc 3 _ rfl
                    have f4 : wr.cell? ⟨gs, j * 8 + 4, none⟩ = some (.int .i64 a4) := hcc 4 _ rfl
                    have f5 : wr.cell? ⟨gs, j * 8 + 5, none⟩ = some (.int .i64 a5) := hcc 5 _ rfl
                    have f6 : wr.cell? ⟨gs, j * 8 + 6, none⟩ = some (.int .i64 a6) := hcc 6 _ rfl
                    have f7 : wr.cell? ⟨gs, j * 8 + 7, none⟩ = some (.int .i64 a7) := hcc 7 _ rfl
                    clear hcc
                    have tj := hbj.alloc hbj.size (.cells #[.int .i64 (nn : Int), .int .i64 a1, .int .i64 a2, .int .i64 a3, .int .i64 a4, .int .i64 a5, .int .i64 a6, .int .i64 a7] 54)
                    have yj := hyj.alloc (.cells #[.int .i64 (nn : Int), .int .i64 a1, .int .i64 a2, .int .i64 a3, .int .i64 a4, .int .i64 a5, .int .i64 a6, .int .i64 a7] 54)
                    have zj := hzj.alloc (.cells #[.int .i64 (nn : Int), .int .i64 a1, .int .i64 a2, .int .i64 a3, .int .i64 a4, .int .i64 a5, .int .i64 a6, .int .i64 a7] 54)
                    have qj := zj.cell 0
                    simp only [List.getElem?_toArray, List.getElem?_cons_zero] at qj
                    have HWk := Lib.hid (HWj.out.below ((Below.refl _ _).alloc (Nat.le_refl _) (.cells #[.int .i64 (nn : Int), .int .i64 a1, .int .i64 a2, .int .i64 a3, .int .i64 a4, .int .i64 a5, .int .i64 a6, .int .i64 a7] 54)))
                    have Ej := Lib.hid (HE.out.on tj)
                    have LVj := Lib.hid (HV.out.on tj)
                    have hl1 : (T3 ++ inT cs x j).length ≤ 1000000 := by have := Hlj.out; have := HF.out.ni; omega
                    have hj9 : j < 9223372036854775807 := by have := HF.out.ni; omega
                    go_wp2_with (first
                      | (go_at_call 20; (with_reducible refine (fmtInst_impl w.heap.size (some ⟨g, 0, none⟩) cs.length cp nn k a1 a2 a3 a4 a5 a6 a7 cs _ _ Ej.out tj.size LVj.out rfl hnl hnm1 hnm2 hsB).mono ?_); rintro e w3 ⟨js, rfl, hjs, hjl, hb3⟩; have Hjs := Lib.hid hjs; clear hjs; have hjl2 : js.size ≤ 1000 := (Nat.le_trans hjl (by decide)); have HW3 := Lib.hid (HWk.out.below hb3); have y3 := yj.on hb3; have z3 := zj.on hb3; have t3 := tj.trans (hb3.mono tj.size))
                      | (go_at_call 16; (with_reducible refine (line_any b (T3 ++ inT cs x j) js _ HW3.out hl1 hjl2).mono ?_); rintro e w4 ⟨rfl, hW4, hb4, ho4⟩))
                    go_roundw
                    case rel =>
                      have e1 : T3 ++ inT cs x (j + 1) = (T3 ++ inT cs x j) ++ (js.data.toList ++ [10]) := by rw [Hs.out, ← List.append_assoc, Hjs.out]
                      have e2 : ((T3 ++ inT cs x j) ++ (js.data.toList ++ [10])).length = (T3 ++ inT cs x j).length + (js.size + 1) := line_len _ _
                      exact ⟨j + 1, hlj, by go_num, by rw [e1]; exact hW4, t3.trans (hb4.mono (Nat.le_of_lt hwb)), z3.below hb4 hwb, y3.aside ho4 hbc (by decide), Lib.hid (by rw [e1, e2]; have := Hlj.out; omega)⟩
                    case measure => simp [intOf]; omega
                  · obtain rfl : j = x.insts.length := by omega
                    obtain ⟨T4, HT4⟩ : ∃ T, Hid (T = T3 ++ inT cs x x.insts.length) := ⟨_, Lib.hid rfl⟩
                    rw [← HT4.out] at HWj Hlj
                    have W4 := HWj
                    have HL4 := Lib.hid (show T4.length ≤ k * 20000 + 12854 from by have := Hlj.out; have := HF.out.ni; omega)
                    have t5 := hbj
                    have z5 := hzj
                    have y5 := hyj
                    clear hbj hzj hyj hlj Hlj HWj
                    have hl4 : T4.length ≤ 1000000 := by have := HL4.out; omega
                    go_wp2_with (go_at_call 16; (with_reducible refine (line_any b T4 _ _ W4.out hl4 (by decide)).mono ?_); rintro e w9 ⟨rfl, hW9, hb9, ho9⟩)
                    have e4 : libTo cs (k + 1) = T4 ++ ((⟨#[101, 110, 100]⟩ : ByteArray).data.toList ++ [10]) := by rw [libTo_snoc Hx.out, HT4.out, HT3.out, HT2.out, HT1.out]; simp [cellT, List.append_assoc]
                    go_roundw
                    case rel => exact ⟨k + 1, hlt, by go_num, by rw [e4]; exact hW9, t5.trans (hb9.mono (Nat.le_of_lt hwb)), z5.below hb9 hwb, Lib.hid (by rw [e4, List.length_append]; have := HL4.out; have e : ((⟨#[101, 110, 100]⟩ : ByteArray).data.toList ++ [10]).length = 4 := rfl; omega)⟩
                    case measure => simp [intOf]; omega
      · obtain rfl : k = cs.length := by omega
        go_wp2_with (go_at_call 21; (with_reducible refine (strOf b (libTo cs cs.length) _ HW.out).mono ?_); rintro e w9 ⟨rfl, hW9, hb9, ho9⟩)
        go_ret
        exact ⟨by simp [libT], hb.trans (hb9.mono (Nat.le_of_lt hwb))⟩

end Go.Proofs.YtfgpkhifbflnbaaGreatDoor
