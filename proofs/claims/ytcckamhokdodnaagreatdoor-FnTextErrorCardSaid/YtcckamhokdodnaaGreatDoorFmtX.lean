/- The walk of impl.FormatLibrary. The walk of spec.FormatLibrary. -/
import Derived.Test.YtcckamhokdodnaaGreatDoorFmtP
import Derived.Deep.RegionHeld3
namespace Go.Proofs.YtcckamhokdodnaaGreatDoor
open Go.RowKit

set_option maxHeartbeats 6400000 in
set_option maxRecDepth 100000 in
theorem fmtLib_impl (B : Nat) (v : Value) (cs : List CellD) (w : World) (hE : Env B w) (hB : B ≤ w.heap.size) (hv : LibV w 0 v cs) (hN : ∀ c ∈ cs, NmOk c) :
    Calls Tryz.prog 8 #[.agg #[v]] w fun e w' => e = .returned (.string (if libB cs = true then ⟨(libT cs).toArray⟩ else ⟨#[]⟩)) ∧ Below w.heap.size w w' := by
  obtain ⟨A, cp, rfl, -, hm⟩ := hv.form
  unfold maxLen at hm
  have b0 := (Below.refl w.heap.size w).alloc (Nat.le_refl _) (.cells #[.slice A cs.length cp] 26)
  have z0 := Bk.new w 26 #[.slice A cs.length cp]
  have HV := Lib.hid hv
  have HN := Lib.hid hN
  have HE := Lib.hid (hE.more hB)
  clear hv hN hE
  cases hlib : libB cs with
  | false =>
    go_enter Tryz.func8, Tryz.ntmps8
    go_wp2_with (go_at_call 19; (with_reducible refine (lib_impl _ cs _ (HV.out.on b0) HN.out).mono ?_); rintro e w1 ⟨rfl, hb1⟩; rw [hlib])
    go_ret
    exact ⟨rfl, b0.trans (hb1.mono b0.size)⟩
  | true =>
    have Hlib := Lib.hid hlib
    go_enter Tryz.func8, Tryz.ntmps8
    go_wp2_with (go_at_call 19; (with_reducible refine (lib_impl _ cs _ (HV.out.on b0) HN.out).mono ?_); rintro e w1 ⟨rfl, hb1⟩; rw [hlib]; have z1 := (z0.on hb1).alloc (.cells #[.pointer none, .slice none 0 0] 53); have b1 := (b0.trans (hb1.mono b0.size)).alloc (Nat.le_trans b0.size hb1.size) (.cells #[.pointer none, .slice none 0 0] 53); have q1 := z1.cell 0; simp only [List.getElem?_toArray, List.getElem?_cons_zero] at q1)
    have hwb : w.heap.size < w1.heap.size := Nat.lt_of_lt_of_le (by simp) hb1.size
    have y1 := WB.new w1
    obtain ⟨b, Hb⟩ : ∃ b, Hid (b = w1.heap.size) := ⟨_, Lib.hid rfl⟩
    have h8 := lib_size hlib
    rw [← Hb.out] at hwb y1 ⊢
    clear q1 b0 z0 hb1 hlib
    go_loopw [20] (fun iv wr => ∃ k : Nat, k ≤ cs.length ∧ iv = .int .i64 k ∧ WB b (libTo cs k) wr ∧ Below w.heap.size w wr ∧ Bk wr w.heap.size 26 #[.slice A cs.length cp] ∧ Hid ((libTo cs k).length ≤ k * 20000)) (fun iv _ => cs.length - (intOf iv).toNat)
    case atStart => exact ⟨0, Nat.zero_le _, rfl, y1, b1, z1, Lib.hid (by simp [libTo])⟩
    case round =>
      obtain ⟨wo, hwo⟩ : ∃ wo, wo = wr := ⟨_, rfl⟩
      subst hwo
      obtain ⟨k, hk, rfl, hW, hb, hz, Hlen⟩ := hrel
      clear b1 z1 y1
      have HW := Lib.hid hW
      have hbw := hW.lt
      clear hW
      by_cases hlt : k < cs.length
      · obtain ⟨g, x, u, rfl, hx, hg, f0, f1, f2, f3, hC⟩ := HV.out.elem hlt
        obtain ⟨us, ul, ui⟩ := u
        obtain ⟨P1, k1, h1, -, hk1⟩ := hC.s.form
        obtain ⟨P2, k2, h2, -, hk2⟩ := hC.l.form
        obtain ⟨P3, k3, h3, -, hk3⟩ := hC.i.form
        dsimp only at h1 h2 h3 f1 f2 f3
        subst h1 h2 h3
        unfold maxLen at hk1 hk2 hk3
        have HF := Lib.hid (lib_facts Hlib.out hx)
        have Hx := Lib.hid hx
        have HC := Lib.hid hC
        have hnm := HF.out.name
        have e0 := (hb.cell (p := ⟨g, k * 4, none⟩) hg).trans f0
        have e1 := (hb.cell (p := ⟨g, k * 4 + 1, none⟩) hg).trans f1
        have e2 := (hb.cell (p := ⟨g, k * 4 + 2, none⟩) hg).trans f2
        have e3 := (hb.cell (p := ⟨g, k * 4 + 3, none⟩) hg).trans f3
        have t1 := hb.alloc hb.size (.cells #[.string x.name, .slice P1 x.shapes.length k1, .slice P2 x.labels.length k2, .slice P3 x.insts.length k3] 46)
        have y1 := Bk.new wo 46 #[.string x.name, .slice P1 x.shapes.length k1, .slice P2 x.labels.length k2, .slice P3 x.insts.length k3]
        have z1 := hz.alloc (.cells #[.string x.name, .slice P1 x.shapes.length k1, .slice P2 x.labels.length k2, .slice P3 x.insts.length k3] 46)
        have HW1 := Lib.hid (HW.out.below ((Below.refl _ _).alloc (Nat.le_refl _) (.cells #[.string x.name, .slice P1 x.shapes.length k1, .slice P2 x.labels.length k2, .slice P3 x.insts.length k3] 46)))
        have hbc : wo.heap.size ≠ b := by omega
        have a0 : ¬ (9223372036854775807 < 5 + x.name.size) := by omega
        have hl1 : (libTo cs k).length ≤ 1000000 := by have := Hlen.out; omega
        have hwc : w.heap.size < wo.heap.size := by omega
        clear hx hC f0 f1 f2 f3
        go_wp2_with (go_at_call 22; (with_reducible refine (line_any b (libTo cs k) _ _ HW1.out hl1 (by rw [ByteArray.size_append, show (⟨#[99, 101, 108, 108, 32]⟩ : ByteArray).size = 5 from rfl]; omega)).mono ?_); rintro e w2 ⟨rfl, hW2, hb2, ho2⟩; have y2 := y1.aside ho2 hbc (by decide); have z2 := z1.below hb2 hwb; have t2 := t1.trans (hb2.mono (Nat.le_of_lt hwb)); have d1 := y2.cell 1; simp only [List.getElem?_toArray, List.getElem?_cons_zero, List.getElem?_cons_succ] at d1)

        have W1 : Hid (WB b (libTo cs k ++ headC x) w2) := Lib.hid (by have e : (⟨#[99, 101, 108, 108, 32]⟩ ++ x.name).data.toList ++ [10] = headC x := by simp [headC, ByteArray.data_append]
                                                                       rw [← e]; exact hW2)
        have HL1 := Lib.hid (show (libTo cs k ++ headC x).length ≤ k * 20000 + 14 from by have := Hlen.out; have e : (headC x).length = 5 + (x.name.size + 1) := (by simp [headC, ← ByteArray.size_data]; omega); rw [List.length_append, e]; omega)
        obtain ⟨T1, HT1⟩ : ∃ T, Hid (T = libTo cs k ++ headC x) := ⟨_, Lib.hid rfl⟩
        rw [← HT1.out] at W1 HL1
        clear t1 y1 z1 d1 hW2
        go_loopw [32] (fun iv wr1 => ∃ j : Nat, j ≤ x.shapes.length ∧ iv = .int .i64 j ∧ WB b (T1 ++ shT x j) wr1 ∧ Below w.heap.size w wr1 ∧ Bk wr1 w.heap.size 26 #[.slice (some ⟨g, 0, none⟩) cs.length cp] ∧ Bk wr1 wo.heap.size 46 #[.string x.name, .slice P1 x.shapes.length k1, .slice P2 x.labels.length k2, .slice P3 x.insts.length k3] ∧ Hid ((T1 ++ shT x j).length ≤ k * 20000 + 14 + j * 301)) (fun iv _ => x.shapes.length - (intOf iv).toNat)
        case atStart => exact ⟨0, Nat.zero_le _, rfl, by rw [show shT x 0 = [] by simp [shT], List.append_nil]; exact W1.out, t2, z2, y2, Lib.hid (by rw [show shT x 0 = [] by simp [shT], List.append_nil]; exact HL1.out)⟩
        case round =>
          obtain ⟨j, hj, rfl, hWj, hbj, hzj, hyj, Hlj⟩ := hrel
          clear t2 z2 y2 W1
          have HWj := Lib.hid hWj
          clear hWj
          by_cases hlj : j < x.shapes.length
          · obtain ⟨gs, s, rfl, hs, -, -, hcc⟩ := FL.elem ShapeD.len (HC.out.s.on hbj) hlj
            have hsB := HF.out.s s (List.mem_of_getElem? hs)
            have Hs := Lib.hid (shT_snoc hs)
            clear hs
            obtain ⟨a0, ⟨a1, a2, a3, a4⟩⟩ := s
            have f0 : wr.cell? ⟨gs, j * 5, none⟩ = some (.int .i64 a0) := hcc 0 _ rfl
            have f1 : wr.cell? ⟨gs, j * 5 + 1, none⟩ = some (.int .i64 a1) := hcc 1 _ rfl
            have f2 : wr.cell? ⟨gs, j * 5 + 2, none⟩ = some (.int .i64 a2) := hcc 2 _ rfl
            have f3 : wr.cell? ⟨gs, j * 5 + 3, none⟩ = some (.int .i64 a3) := hcc 3 _ rfl
            have f4 : wr.cell? ⟨gs, j * 5 + 4, none⟩ = some (.int .i64 a4) := hcc 4 _ rfl
            clear hcc
            have tj := hbj.alloc hbj.size (.cells #[.int .i64 a0, .int .i64 a1, .int .i64 a2, .int .i64 a3, .int .i64 a4] 62)
            have yj := hyj.alloc (.cells #[.int .i64 a0, .int .i64 a1, .int .i64 a2, .int .i64 a3, .int .i64 a4] 62)
            have zj := hzj.alloc (.cells #[.int .i64 a0, .int .i64 a1, .int .i64 a2, .int .i64 a3, .int .i64 a4] 62)
            have HWk := Lib.hid (HWj.out.below ((Below.refl _ _).alloc (Nat.le_refl _) (.cells #[.int .i64 a0, .int .i64 a1, .int .i64 a2, .int .i64 a3, .int .i64 a4] 62)))
            have Ej := Lib.hid (HE.out.on tj)
            have hl1 : (T1 ++ shT x j).length ≤ 1000000 := by have := Hlj.out; have := HF.out.ns; omega
            have hj9 : j < 9223372036854775807 := by have := HF.out.ns; omega
            go_wp2_with (first
              | (go_at_call 24; (with_reducible refine (fmtShape_impl w.heap.size ⟨a0, ⟨a1, a2, a3, a4⟩⟩ _ Ej.out tj.size hsB).mono ?_); rintro e w3 ⟨js, rfl, hjs, hjl, hb3⟩; have Hjs := Lib.hid hjs; clear hjs; have hjl2 : js.size ≤ 1000 := (Nat.le_trans hjl (by decide)); have HW3 := Lib.hid (HWk.out.below hb3); have y3 := yj.on hb3; have z3 := zj.on hb3; have t3 := tj.trans (hb3.mono tj.size))
              | (go_at_call 22; (with_reducible refine (line_any b (T1 ++ shT x j) js _ HW3.out hl1 hjl2).mono ?_); rintro e w4 ⟨rfl, hW4, hb4, ho4⟩))
            go_roundw
            case rel =>
              have e1 : T1 ++ shT x (j + 1) = (T1 ++ shT x j) ++ (js.data.toList ++ [10]) := by rw [Hs.out, ← List.append_assoc, Hjs.out]
              have e2 : ((T1 ++ shT x j) ++ (js.data.toList ++ [10])).length = (T1 ++ shT x j).length + (js.size + 1) := line_len _ _
              exact ⟨j + 1, hlj, by go_num, by rw [e1]; exact hW4, t3.trans (hb4.mono (Nat.le_of_lt hwb)), z3.below hb4 hwb, y3.aside ho4 hbc (by decide), Lib.hid (by rw [e1, e2]; have := Hlj.out; omega)⟩
            case measure => simp [intOf]; omega
          · obtain rfl : j = x.shapes.length := by omega
            obtain ⟨T2, HT2⟩ : ∃ T, Hid (T = T1 ++ shT x x.shapes.length) := ⟨_, Lib.hid rfl⟩
            rw [← HT2.out] at HWj Hlj
            have W2 := HWj
            have HL2 := Lib.hid (show T2.length ≤ k * 20000 + 7238 from by have := Hlj.out; have := HF.out.ns; omega)
            have t3 := hbj
            have z3 := hzj
            have y3 := hyj
            clear hbj hzj hyj hlj Hlj HWj
            have d2 := y3.cell 2
            simp only [List.getElem?_toArray, List.getElem?_cons_zero, List.getElem?_cons_succ] at d2
            go_wp2
            clear d2
            go_loopw [44] (fun iv wr2 => ∃ j : Nat, j ≤ x.labels.length ∧ iv = .int .i64 j ∧ WB b (T2 ++ laT x j) wr2 ∧ Below w.heap.size w wr2 ∧ Bk wr2 w.heap.size 26 #[.slice (some ⟨g, 0, none⟩) cs.length cp] ∧ Bk wr2 wo.heap.size 46 #[.string x.name, .slice P1 x.shapes.length k1, .slice P2 x.labels.length k2, .slice P3 x.insts.length k3] ∧ Hid ((T2 ++ laT x j).length ≤ k * 20000 + 7238 + j * 401)) (fun iv _ => x.labels.length - (intOf iv).toNat)
            case atStart => exact ⟨0, Nat.zero_le _, rfl, by rw [show laT x 0 = [] by simp [laT], List.append_nil]; exact W2.out, t3, z3, y3, Lib.hid (by rw [show laT x 0 = [] by simp [laT], List.append_nil]; exact HL2.out)⟩
            case round =>
              obtain ⟨j, hj, rfl, hWj, hbj, hzj, hyj, Hlj⟩ := hrel
              clear t3 z3 y3 W2
              have HWj := Lib.hid hWj
              clear hWj
              by_cases hlj : j < x.labels.length
              · obtain ⟨gs, s, rfl, hs, -, -, hcc⟩ := FL.elem LabelD.len (HC.out.l.on hbj) hlj
                have hsB := HF.out.l s (List.mem_of_getElem? hs)
                have Hs := Lib.hid (laT_snoc hs)
                clear hs
                obtain ⟨a0, a1, a2, a3⟩ := s
                have f0 : wr.cell? ⟨gs, j * 4, none⟩ = some (.int .i64 a0) := hcc 0 _ rfl
                have f1 : wr.cell? ⟨gs, j * 4 + 1, none⟩ = some (.int .i64 a1) := hcc 1 _ rfl
                have f2 : wr.cell? ⟨gs, j * 4 + 2, none⟩ = some (.int .i64 a2) := hcc 2 _ rfl
                have f3 : wr.cell? ⟨gs, j * 4 + 3, none⟩ = some (.string a3) := hcc 3 _ rfl
                clear hcc
                have tj := hbj.alloc hbj.size (.cells #[.int .i64 a0, .int .i64 a1, .int .i64 a2, .string a3] 67)
                have yj := hyj.alloc (.cells #[.int .i64 a0, .int .i64 a1, .int .i64 a2, .string a3] 67)
                have zj := hzj.alloc (.cells #[.int .i64 a0, .int .i64 a1, .int .i64 a2, .string a3] 67)
                have HWk := Lib.hid (HWj.out.below ((Below.refl _ _).alloc (Nat.le_refl _) (.cells #[.int .i64 a0, .int .i64 a1, .int .i64 a2, .string a3] 67)))
                have Ej := Lib.hid (HE.out.on tj)
                have hl1 : (T2 ++ laT x j).length ≤ 1000000 := by have := Hlj.out; have := HF.out.nl; omega
                have hj9 : j < 9223372036854775807 := by have := HF.out.nl; omega
                go_wp2_with (first
                  | (go_at_call 25; (with_reducible refine (fmtLabel_impl w.heap.size ⟨a0, a1, a2, a3⟩ _ Ej.out tj.size hsB).mono ?_); rintro e w3 ⟨js, rfl, hjs, hjl, hb3⟩; have Hjs := Lib.hid hjs; clear hjs; have hjl2 : js.size ≤ 1000 := (Nat.le_trans hjl (by decide)); have HW3 := Lib.hid (HWk.out.below hb3); have y3 := yj.on hb3; have z3 := zj.on hb3; have t3 := tj.trans (hb3.mono tj.size))
                  | (go_at_call 22; (with_reducible refine (line_any b (T2 ++ laT x j) js _ HW3.out hl1 hjl2).mono ?_); rintro e w4 ⟨rfl, hW4, hb4, ho4⟩))
                go_roundw
                case rel =>
                  have e1 : T2 ++ laT x (j + 1) = (T2 ++ laT x j) ++ (js.data.toList ++ [10]) := by rw [Hs.out, ← List.append_assoc, Hjs.out]
                  have e2 : ((T2 ++ laT x j) ++ (js.data.toList ++ [10])).length = (T2 ++ laT x j).length + (js.size + 1) := line_len _ _
                  exact ⟨j + 1, hlj, by go_num, by rw [e1]; exact hW4, t3.trans (hb4.mono (Nat.le_of_lt hwb)), z3.below hb4 hwb, y3.aside ho4 hbc (by decide), Lib.hid (by rw [e1, e2]; have := Hlj.out; omega)⟩
                case measure => simp [intOf]; omega
              · obtain rfl : j = x.labels.length := by omega
                obtain ⟨T3, HT3⟩ : ∃ T, Hid (T = T2 ++ laT x x.labels.length) := ⟨_, Lib.hid rfl⟩
                rw [← HT3.out] at HWj Hlj
                have W3 := HWj
                have HL3 := Lib.hid (show T3.length ≤ k * 20000 + 10446 from by have := Hlj.out; have := HF.out.nl; omega)
                have t4 := hbj
                have z4 := hzj
                have y4 := hyj
                clear hbj hzj hyj hlj Hlj HWj
                have d3 := y4.cell 3
                simp only [List.getElem?_toArray, List.getElem?_cons_zero, List.getElem?_cons_succ] at d3
                go_wp2
                clear d3
                go_loopw [56] (fun iv wr3 => ∃ j : Nat, j ≤ x.insts.length ∧ iv = .int .i64 j ∧ WB b (T3 ++ inT cs x j) wr3 ∧ Below w.heap.size w wr3 ∧ Bk wr3 w.heap.size 26 #[.slice (some ⟨g, 0, none⟩) cs.length cp] ∧ Bk wr3 wo.heap.size 46 #[.string x.name, .slice P1 x.shapes.length k1, .slice P2 x.labels.length k2, .slice P3 x.insts.length k3] ∧ Hid ((T3 ++ inT cs x j).length ≤ k * 20000 + 10446 + j * 301)) (fun iv _ => x.insts.length - (intOf iv).toNat)
                case atStart => exact ⟨0, Nat.zero_le _, rfl, by rw [show inT cs x 0 = [] by simp [inT], List.append_nil]; exact W3.out, t4, z4, y4, Lib.hid (by rw [show inT cs x 0 = [] by simp [inT], List.append_nil]; exact HL3.out)⟩
                case round =>
                  obtain ⟨j, hj, rfl, hWj, hbj, hzj, hyj, Hlj⟩ := hrel
                  clear t4 z4 y4 W3
                  have HWj := Lib.hid hWj
                  clear hWj
                  by_cases hlj : j < x.insts.length
                  · obtain ⟨gs, s, rfl, hs, -, -, hcc⟩ := FL.elem InstD.len (HC.out.i.on hbj) hlj
                    have hsB := HF.out.i s (List.mem_of_getElem? hs)
                    have Hs := Lib.hid (inT_snoc (cs := cs) hs)
                    clear hs
                    obtain ⟨nn, hnn, hnl, hnm1, hnm2⟩ := inst_cell Hlib.out hlt hsB
                    obtain ⟨a0, a1, a2, a3, a4, a5, a6, a7⟩ := s
                    dsimp only at hnn
                    subst hnn
                    have f0 : wr.cell? ⟨gs, j * 8, none⟩ = some (.int .i64 (nn : Int)) := hcc 0 _ rfl
                    have f1 : wr.cell? ⟨gs, j * 8 + 1, none⟩ = some (.int .i64 a1) := hcc 1 _ rfl
                    have f2 : wr.cell? ⟨gs, j * 8 + 2, none⟩ = some (.int .i64 a2) := hcc 2 _ rfl
                    have f3 : wr.cell? ⟨gs, j * 8 + 3, none⟩ = some (.int .i64 a3) := hcc 3 _ rfl
                    have f4 : wr.cell? ⟨gs, j * 8 + 4, none⟩ = some (.int .i64 a4) := hcc 4 _ rfl
                    have f5 : wr.cell? ⟨gs, j * 8 + 5, none⟩ = some (.int .i64 a5) := hcc 5 _ rfl
                    have f6 : wr.cell? ⟨gs, j * 8 + 6, none⟩ = some (.int .i64 a6) := hcc 6 _ rfl
                    have f7 : wr.cell? ⟨gs, j * 8 + 7, none⟩ = some (.int .i64 a7) := hcc 7 _ rfl
                    clear hcc
                    have tj := hbj.alloc hbj.size (.cells #[.int .i64 (nn : Int), .int .i64 a1, .int .i64 a2, .int .i64 a3, .int .i64 a4, .int .i64 a5, .int .i64 a6, .int .i64 a7] 72)
                    have yj := hyj.alloc (.cells #[.int .i64 (nn : Int), .int .i64 a1, .int .i64 a2, .int .i64 a3, .int .i64 a4, .int .i64 a5, .int .i64 a6, .int .i64 a7] 72)
                    have zj := hzj.alloc (.cells #[.int .i64 (nn : Int), .int .i64 a1, .int .i64 a2, .int .i64 a3, .int .i64 a4, .int .i64 a5, .int .i64 a6, .int .i64 a7] 72)
                    have qj := zj.cell 0
                    simp only [List.getElem?_toArray, List.getElem?_cons_zero] at qj
                    have HWk := Lib.hid (HWj.out.below ((Below.refl _ _).alloc (Nat.le_refl _) (.cells #[.int .i64 (nn : Int), .int .i64 a1, .int .i64 a2, .int .i64 a3, .int .i64 a4, .int .i64 a5, .int .i64 a6, .int .i64 a7] 72)))
                    have Ej := Lib.hid (HE.out.on tj)
                    have LVj := Lib.hid (HV.out.on tj)
                    have hl1 : (T3 ++ inT cs x j).length ≤ 1000000 := by have := Hlj.out; have := HF.out.ni; omega
                    have hj9 : j < 9223372036854775807 := by have := HF.out.ni; omega
                    go_wp2_with (first
                      | (go_at_call 26; (with_reducible refine (fmtInst_impl w.heap.size (some ⟨g, 0, none⟩) cs.length cp nn k a1 a2 a3 a4 a5 a6 a7 cs _ _ Ej.out tj.size LVj.out rfl hnl hnm1 hnm2 hsB).mono ?_); rintro e w3 ⟨js, rfl, hjs, hjl, hb3⟩; have Hjs := Lib.hid hjs; clear hjs; have hjl2 : js.size ≤ 1000 := (Nat.le_trans hjl (by decide)); have HW3 := Lib.hid (HWk.out.below hb3); have y3 := yj.on hb3; have z3 := zj.on hb3; have t3 := tj.trans (hb3.mono tj.size))
                      | (go_at_call 22; (with_reducible refine (line_any b (T3 ++ inT cs x j) js _ HW3.out hl1 hjl2).mono ?_); rintro e w4 ⟨rfl, hW4, hb4, ho4⟩))
                    go_roundw
                    case rel =>
                      have e1 : T3 ++ inT cs x (j + 1) = (T3 ++ inT cs x j) ++ (js.data.toList ++ [10]) := by rw [Hs.out, ← List.append_assoc, Hjs.out]
                      have e2 : ((T3 ++ inT cs x j) ++ (js.data.toList ++ [10])).length = (T3 ++ inT cs x j).length + (js.size + 1) := line_len _ _
                      exact ⟨j + 1, hlj, by go_num, by rw [e1]; exact hW4, t3.trans (hb4.mono (Nat.le_of_lt hwb)), z3.below hb4 hwb, y3.aside ho4 hbc (by decide), Lib.hid (by rw [e1, e2]; have := Hlj.out; omega)⟩
                    case measure => simp [intOf]; omega
                  · obtain rfl : j = x.insts.length := by omega
                    obtain ⟨T4, HT4⟩ : ∃ T, Hid (T = T3 ++ inT cs x x.insts.length) := ⟨_, Lib.hid rfl⟩
                    rw [← HT4.out] at HWj Hlj
                    have W4 := HWj
                    have HL4 := Lib.hid (show T4.length ≤ k * 20000 + 12854 from by have := Hlj.out; have := HF.out.ni; omega)
                    have t5 := hbj
                    have z5 := hzj
                    have y5 := hyj
                    clear hbj hzj hyj hlj Hlj HWj
                    have hl4 : T4.length ≤ 1000000 := by have := HL4.out; omega
                    go_wp2_with (go_at_call 22; (with_reducible refine (line_any b T4 _ _ W4.out hl4 (by decide)).mono ?_); rintro e w9 ⟨rfl, hW9, hb9, ho9⟩)
                    have e4 : libTo cs (k + 1) = T4 ++ ((⟨#[101, 110, 100]⟩ : ByteArray).data.toList ++ [10]) := by rw [libTo_snoc Hx.out, HT4.out, HT3.out, HT2.out, HT1.out]; simp [cellT, List.append_assoc]
                    go_roundw
                    case rel => exact ⟨k + 1, hlt, by go_num, by rw [e4]; exact hW9, t5.trans (hb9.mono (Nat.le_of_lt hwb)), z5.below hb9 hwb, Lib.hid (by rw [e4, List.length_append]; have := HL4.out; have e : ((⟨#[101, 110, 100]⟩ : ByteArray).data.toList ++ [10]).length = 4 := rfl; omega)⟩
                    case measure => simp [intOf]; omega
      · obtain rfl : k = cs.length := by omega
        go_wp2_with (go_at_call 27; (with_reducible refine (strOf b (libTo cs cs.length) _ HW.out).mono ?_); rintro e w9 ⟨rfl, hW9, hb9, ho9⟩)
        go_ret
        exact ⟨by simp [libT], hb.trans (hb9.mono (Nat.le_of_lt hwb))⟩

end Go.Proofs.YtcckamhokdodnaaGreatDoor

namespace Go.Proofs.YtcckamhokdodnaaGreatDoor
open Go.RowKit

theorem two_size (q js : ByteArray) : (q ++ js ++ ⟨#[10]⟩).size = q.size + js.size + 1 := by rw [ByteArray.size_append, ByteArray.size_append, one_size]
theorem two_is {q js : ByteArray} {a b : List UInt8} (hq : q = ⟨a.toArray⟩) (hj : js = ⟨b.toArray⟩) : q ++ js ++ ⟨#[10]⟩ = ⟨(a ++ (b ++ [10])).toArray⟩ := by
  rw [hq, hj, show (⟨#[10]⟩ : ByteArray) = ⟨([10] : List UInt8).toArray⟩ from rfl, cat3b]

set_option maxHeartbeats 6400000 in
set_option maxRecDepth 100000 in
theorem fmtLib_spec (v : Value) (cs : List CellD) (w : World) (hv : LibV w 0 v cs) (hN : ∀ c ∈ cs, NmOk c) :
    Calls Tryz.prog 17 #[.agg #[v]] w fun e w' => e = .returned (.string (if libB cs = true then ⟨(libT cs).toArray⟩ else ⟨#[]⟩)) ∧ Below w.heap.size w w' := by
  obtain ⟨A, cp, rfl, -, hm⟩ := hv.form
  unfold maxLen at hm
  have b0 := (Below.refl w.heap.size w).alloc (Nat.le_refl _) (.cells #[.slice A cs.length cp] 26)
  have z0 := Bk.new w 26 #[.slice A cs.length cp]
  have HV := Lib.hid hv
  have HN := Lib.hid hN
  clear hv hN
  cases hlib : libB cs with
  | false =>
    go_enter Tryz.func17, Tryz.ntmps17
    go_wp2
    go_loopw [3, 4] (fun pv iv wr => pv = .string ⟨#[]⟩ ∧ iv = .int .i64 0 ∧ Below w.heap.size w wr ∧ Bk wr w.heap.size 26 #[.slice A cs.length cp]) (fun _ _ _ => 0)
    case atStart => exact ⟨rfl, rfl, b0, z0⟩
    case round =>
      obtain ⟨rfl, rfl, hb, hz⟩ := hrel
      clear b0 z0
      have q0 := hz.cell 0
      simp only [List.getElem?_toArray, List.getElem?_cons_zero] at q0
      by_cases hlt : 0 < cs.length
      · have hlt2 : (0 : Int) < (cs.length : Int) := by omega
        go_wp2_with (go_at_call 9; (with_reducible refine (lib_spec _ cs _ (HV.out.on hb) HN.out).mono ?_); rintro e w1 ⟨rfl, hb1⟩; rw [hlib])
        go_ret
        exact ⟨rfl, hb.trans (hb1.mono hb.size)⟩
      · have h0 : cs.length = 0 := by omega
        rw [h0] at q0
        go_wp2
        go_ret
        exact ⟨rfl, hb⟩
  | true =>
    have Hlib := Lib.hid hlib
    have h8 := lib_size hlib
    go_enter Tryz.func17, Tryz.ntmps17
    go_wp2
    go_loopw [3, 4] (fun pv iv wr => ∃ (k : Nat) (p : ByteArray), k ≤ cs.length ∧ pv = .string p ∧ iv = .int .i64 k ∧ Hid (p = ⟨(libTo cs k).toArray⟩) ∧ Hid (p.size ≤ k * 20000) ∧ Below w.heap.size w wr ∧ Bk wr w.heap.size 26 #[.slice A cs.length cp]) (fun _ iv _ => cs.length - (intOf iv).toNat)
    case atStart => exact ⟨0, ⟨#[]⟩, Nat.zero_le _, rfl, rfl, Lib.hid (by simp [libTo]), Lib.hid (by decide), b0, z0⟩
    case round =>
      obtain ⟨wo, hwo⟩ : ∃ wo, wo = wr := ⟨_, rfl⟩
      subst hwo
      obtain ⟨k, p, hk, rfl, rfl, Hp, Hps, hb, hz⟩ := hrel
      clear b0 z0
      have q0 := hz.cell 0
      simp only [List.getElem?_toArray, List.getElem?_cons_zero] at q0
      by_cases hlt : k < cs.length
      · obtain ⟨g, x, u, rfl, hx, hg, f0, f1, f2, f3, hC⟩ := HV.out.elem hlt
        obtain ⟨us, ul, ui⟩ := u
        obtain ⟨P1, k1, h1, -, hk1⟩ := hC.s.form
        obtain ⟨P2, k2, h2, -, hk2⟩ := hC.l.form
        obtain ⟨P3, k3, h3, -, hk3⟩ := hC.i.form
        dsimp only at h1 h2 h3 f1 f2 f3
        subst h1 h2 h3
        unfold maxLen at hk1 hk2 hk3
        have HF := Lib.hid (lib_facts Hlib.out hx)
        have Hx := Lib.hid hx
        have HC := Lib.hid hC
        have hnm := HF.out.name
        have hps : p.size ≤ 1000000 := by have := Hps.out; omega
        have a0 : ¬ (9223372036854775807 < p.size + 5) := by omega
        have a1 : ¬ (9223372036854775807 < p.size + 5 + x.name.size) := by omega
        have a2 : ¬ (9223372036854775807 < p.size + 5 + x.name.size + 1) := by omega
        have F0 := Lib.hid f0
        have F1 := Lib.hid f1
        have F2 := Lib.hid f2
        have F3 := Lib.hid f3
        clear hx hC f0 f1 f2 f3
        go_wp2_with (go_at_call 9; (with_reducible refine (lib_spec _ cs _ (HV.out.on hb) HN.out).mono ?_); rintro e w1 ⟨rfl, hb1⟩; rw [hlib]; have hb2 := hb.trans (hb1.mono hb.size); have e0 := (hb2.cell (p := ⟨g, k * 4, none⟩) hg).trans F0.out; have e1 := (hb2.cell (p := ⟨g, k * 4 + 1, none⟩) hg).trans F1.out; have e2 := (hb2.cell (p := ⟨g, k * 4 + 2, none⟩) hg).trans F2.out; have e3 := (hb2.cell (p := ⟨g, k * 4 + 3, none⟩) hg).trans F3.out; have hz2 := hz.on hb1; have q1 := hz2.cell 0; simp only [List.getElem?_toArray, List.getElem?_cons_zero] at q1)
        have t2 := hb2.alloc hb2.size (.cells #[.string x.name, .slice P1 x.shapes.length k1, .slice P2 x.labels.length k2, .slice P3 x.insts.length k3] 46)
        have y2 := Bk.new w1 46 #[.string x.name, .slice P1 x.shapes.length k1, .slice P2 x.labels.length k2, .slice P3 x.insts.length k3]
        have z2 := hz2.alloc (.cells #[.string x.name, .slice P1 x.shapes.length k1, .slice P2 x.labels.length k2, .slice P3 x.insts.length k3] 46)
        obtain ⟨c6, Hc6⟩ : ∃ c6, Hid (c6 = w1.heap.size) := ⟨_, Lib.hid rfl⟩
        rw [← Hc6.out] at y2 ⊢
        obtain ⟨p1, Hp1⟩ : ∃ p1, Hid (p1 = p ++ ⟨#[99, 101, 108, 108, 32]⟩ ++ x.name ++ ⟨#[10]⟩) := ⟨_, Lib.hid rfl⟩
        rw [← Hp1.out]
        obtain ⟨T1, HT1⟩ : ∃ T, Hid (T = libTo cs k ++ headC x) := ⟨_, Lib.hid rfl⟩
        have W1 : Hid (p1 = ⟨T1.toArray⟩) := Lib.hid (by rw [Hp1.out, HT1.out, Hp.out]; apply bytes_ext; simp [headC, ByteArray.data_append])
        have HL1 : Hid (p1.size ≤ k * 20000 + 14) := Lib.hid (by rw [Hp1.out, ByteArray.size_append, ByteArray.size_append, ByteArray.size_append, one_size, show (⟨#[99, 101, 108, 108, 32]⟩ : ByteArray).size = 5 from rfl]; have := Hps.out; omega)
        clear a0 a1 a2 e0 e1 e2 e3 q0 q1 hz2 hb2 hb1
        go_loopw [3, 6] (fun pv iv wr => ∃ (j : Nat) (q : ByteArray), j ≤ x.shapes.length ∧ pv = .string q ∧ iv = .int .i64 j ∧ Hid (q = ⟨(T1 ++ shT x j).toArray⟩) ∧ Hid (q.size ≤ k * 20000 + 14 + j * 301) ∧ Below w.heap.size w wr ∧ Bk wr w.heap.size 26 #[.slice (some ⟨g, 0, none⟩) cs.length cp] ∧ Bk wr c6 46 #[.string x.name, .slice P1 x.shapes.length k1, .slice P2 x.labels.length k2, .slice P3 x.insts.length k3]) (fun _ iv _ => x.shapes.length - (intOf iv).toNat)
        case atStart => exact ⟨0, _, Nat.zero_le _, rfl, rfl, Lib.hid (by rw [show shT x 0 = [] by simp [shT], List.append_nil]; exact W1.out), Lib.hid HL1.out, t2, z2, y2⟩
        case round =>
          obtain ⟨j, q, hj, rfl, rfl, Hq, Hqs, hbj, hzj, hyj⟩ := hrel
          clear t2 z2 y2 W1
          have d := hyj.cell 1
          simp only [List.getElem?_toArray, List.getElem?_cons_zero, List.getElem?_cons_succ] at d
          by_cases hlj : j < x.shapes.length
          · obtain ⟨gs, s, rfl, hs, -, hgs, hcc⟩ := FL.elem ShapeD.len (HC.out.s.on hbj) hlj
            have hsB := HF.out.s s (List.mem_of_getElem? hs)
            have Hs := Lib.hid (shT_snoc hs)
            clear hs
            obtain ⟨a0, ⟨a1, a2, a3, a4⟩⟩ := s
            have f0 : wr.cell? ⟨gs, j * 5, none⟩ = some (.int .i64 a0) := hcc 0 _ rfl
            have f1 : wr.cell? ⟨gs, j * 5 + 1, none⟩ = some (.int .i64 a1) := hcc 1 _ rfl
            have f2 : wr.cell? ⟨gs, j * 5 + 2, none⟩ = some (.int .i64 a2) := hcc 2 _ rfl
            have f3 : wr.cell? ⟨gs, j * 5 + 3, none⟩ = some (.int .i64 a3) := hcc 3 _ rfl
            have f4 : wr.cell? ⟨gs, j * 5 + 4, none⟩ = some (.int .i64 a4) := hcc 4 _ rfl
            clear hcc
            have hqs : q.size ≤ 1000000 := by have := Hqs.out; have := HF.out.ns; omega
            have hj9 : j < 9223372036854775807 := by have := HF.out.ns; omega
            go_wp2_with (go_at_call 37; (with_reducible refine (shape_spec ⟨a0, ⟨a1, a2, a3, a4⟩⟩ _ hsB).mono ?_); rintro e w3 ⟨js, rfl, hjs, hjl, hb3⟩; have Hjs := Lib.hid hjs; clear hjs; have hjl2 : js.size ≤ 1000 := (Nat.le_trans hjl (by decide)); have a1 : ¬ (9223372036854775807 < q.size + js.size) := (by omega); have a2 : ¬ (9223372036854775807 < q.size + js.size + 1) := (by omega))
            go_roundw
            case rel => exact ⟨j + 1, _, hlj, rfl, by go_num, Lib.hid (by rw [Hs.out, ← List.append_assoc]; exact two_is Hq.out Hjs.out), Lib.hid (by rw [two_size]; have := Hqs.out; omega), hbj.trans (hb3.mono hbj.size), hzj.on hb3, hyj.on hb3⟩
            case measure => simp [intOf]; omega
          · obtain rfl : j = x.shapes.length := by omega
            obtain ⟨T2, HT2⟩ : ∃ T, Hid (T = T1 ++ shT x x.shapes.length) := ⟨_, Lib.hid rfl⟩
            rw [← HT2.out] at Hq
            have W2 := Hq
            have HL2 := Lib.hid (show q.size ≤ k * 20000 + 7238 from by have := Hqs.out; have := HF.out.ns; omega)
            have t3 := hbj
            have z3 := hzj
            have y3 := hyj
            clear hbj hzj hyj hlj Hqs Hq
            go_wp2
            clear d
            go_loopw [3, 7] (fun pv iv wr => ∃ (j : Nat) (q : ByteArray), j ≤ x.labels.length ∧ pv = .string q ∧ iv = .int .i64 j ∧ Hid (q = ⟨(T2 ++ laT x j).toArray⟩) ∧ Hid (q.size ≤ k * 20000 + 7238 + j * 401) ∧ Below w.heap.size w wr ∧ Bk wr w.heap.size 26 #[.slice (some ⟨g, 0, none⟩) cs.length cp] ∧ Bk wr c6 46 #[.string x.name, .slice P1 x.shapes.length k1, .slice P2 x.labels.length k2, .slice P3 x.insts.length k3]) (fun _ iv _ => x.labels.length - (intOf iv).toNat)
            case atStart => exact ⟨0, _, Nat.zero_le _, rfl, rfl, Lib.hid (by rw [show laT x 0 = [] by simp [laT], List.append_nil]; exact W2.out), Lib.hid HL2.out, t3, z3, y3⟩
            case round =>
              obtain ⟨j, q, hj, rfl, rfl, Hq, Hqs, hbj, hzj, hyj⟩ := hrel
              clear t3 z3 y3 W2
              have d := hyj.cell 2
              simp only [List.getElem?_toArray, List.getElem?_cons_zero, List.getElem?_cons_succ] at d
              by_cases hlj : j < x.labels.length
              · obtain ⟨gs, s, rfl, hs, -, hgs, hcc⟩ := FL.elem LabelD.len (HC.out.l.on hbj) hlj
                have hsB := HF.out.l s (List.mem_of_getElem? hs)
                have Hs := Lib.hid (laT_snoc hs)
                clear hs
                obtain ⟨a0, a1, a2, a3⟩ := s
                have f0 : wr.cell? ⟨gs, j * 4, none⟩ = some (.int .i64 a0) := hcc 0 _ rfl
                have f1 : wr.cell? ⟨gs, j * 4 + 1, none⟩ = some (.int .i64 a1) := hcc 1 _ rfl
                have f2 : wr.cell? ⟨gs, j * 4 + 2, none⟩ = some (.int .i64 a2) := hcc 2 _ rfl
                have f3 : wr.cell? ⟨gs, j * 4 + 3, none⟩ = some (.string a3) := hcc 3 _ rfl
                clear hcc
                have hqs : q.size ≤ 1000000 := by have := Hqs.out; have := HF.out.nl; omega
                have hj9 : j < 9223372036854775807 := by have := HF.out.nl; omega
                go_wp2_with (go_at_call 38; (with_reducible refine (label_spec ⟨a0, a1, a2, a3⟩ _ hsB).mono ?_); rintro e w3 ⟨js, rfl, hjs, hjl, hb3⟩; have Hjs := Lib.hid hjs; clear hjs; have hjl2 : js.size ≤ 1000 := (Nat.le_trans hjl (by decide)); have a1 : ¬ (9223372036854775807 < q.size + js.size) := (by omega); have a2 : ¬ (9223372036854775807 < q.size + js.size + 1) := (by omega))
                go_roundw
                case rel => exact ⟨j + 1, _, hlj, rfl, by go_num, Lib.hid (by rw [Hs.out, ← List.append_assoc]; exact two_is Hq.out Hjs.out), Lib.hid (by rw [two_size]; have := Hqs.out; omega), hbj.trans (hb3.mono hbj.size), hzj.on hb3, hyj.on hb3⟩
                case measure => simp [intOf]; omega
              · obtain rfl : j = x.labels.length := by omega
                obtain ⟨T3, HT3⟩ : ∃ T, Hid (T = T2 ++ laT x x.labels.length) := ⟨_, Lib.hid rfl⟩
                rw [← HT3.out] at Hq
                have W3 := Hq
                have HL3 := Lib.hid (show q.size ≤ k * 20000 + 10446 from by have := Hqs.out; have := HF.out.nl; omega)
                have t4 := hbj
                have z4 := hzj
                have y4 := hyj
                clear hbj hzj hyj hlj Hqs Hq
                go_wp2
                clear d
                go_loopw [3, 8] (fun pv iv wr => ∃ (j : Nat) (q : ByteArray), j ≤ x.insts.length ∧ pv = .string q ∧ iv = .int .i64 j ∧ Hid (q = ⟨(T3 ++ inT cs x j).toArray⟩) ∧ Hid (q.size ≤ k * 20000 + 10446 + j * 401) ∧ Below w.heap.size w wr ∧ Bk wr w.heap.size 26 #[.slice (some ⟨g, 0, none⟩) cs.length cp] ∧ Bk wr c6 46 #[.string x.name, .slice P1 x.shapes.length k1, .slice P2 x.labels.length k2, .slice P3 x.insts.length k3]) (fun _ iv _ => x.insts.length - (intOf iv).toNat)
                case atStart => exact ⟨0, _, Nat.zero_le _, rfl, rfl, Lib.hid (by rw [show inT cs x 0 = [] by simp [inT], List.append_nil]; exact W3.out), Lib.hid HL3.out, t4, z4, y4⟩
                case round =>
                  obtain ⟨j, q, hj, rfl, rfl, Hq, Hqs, hbj, hzj, hyj⟩ := hrel
                  clear t4 z4 y4 W3
                  have d := hyj.cell 3
                  simp only [List.getElem?_toArray, List.getElem?_cons_zero, List.getElem?_cons_succ] at d
                  by_cases hlj : j < x.insts.length
                  · obtain ⟨gs, s, rfl, hs, -, hgs, hcc⟩ := FL.elem InstD.len (HC.out.i.on hbj) hlj
                    have hsB := HF.out.i s (List.mem_of_getElem? hs)
                    have Hs := Lib.hid (inT_snoc (cs := cs) hs)
                    clear hs
                    obtain ⟨nn, hnn, hnl, hnm1, hnm2⟩ := inst_cell Hlib.out hlt hsB
                    obtain ⟨a0, a1, a2, a3, a4, a5, a6, a7⟩ := s
                    dsimp only at hnn
                    subst hnn
                    have f0 : wr.cell? ⟨gs, j * 8, none⟩ = some (.int .i64 (nn : Int)) := hcc 0 _ rfl
                    have f1 : wr.cell? ⟨gs, j * 8 + 1, none⟩ = some (.int .i64 a1) := hcc 1 _ rfl
                    have f2 : wr.cell? ⟨gs, j * 8 + 2, none⟩ = some (.int .i64 a2) := hcc 2 _ rfl
                    have f3 : wr.cell? ⟨gs, j * 8 + 3, none⟩ = some (.int .i64 a3) := hcc 3 _ rfl
                    have f4 : wr.cell? ⟨gs, j * 8 + 4, none⟩ = some (.int .i64 a4) := hcc 4 _ rfl
                    have f5 : wr.cell? ⟨gs, j * 8 + 5, none⟩ = some (.int .i64 a5) := hcc 5 _ rfl
                    have f6 : wr.cell? ⟨gs, j * 8 + 6, none⟩ = some (.int .i64 a6) := hcc 6 _ rfl
                    have f7 : wr.cell? ⟨gs, j * 8 + 7, none⟩ = some (.int .i64 a7) := hcc 7 _ rfl
                    clear hcc
                    have hqs : q.size ≤ 1000000 := by have := Hqs.out; have := HF.out.ni; omega
                    have hj9 : j < 9223372036854775807 := by have := HF.out.ni; omega
                    have LVj := Lib.hid (HV.out.on hbj.drew)
                    have HS := Lib.hid (show ∀ W, Below wr.heap.size wr W → W.cell? ⟨w.heap.size, 0, none⟩ = some (.slice (some ⟨g, 0, none⟩) cs.length cp) ∧ W.cell? ⟨c6, 3, none⟩ = some (.slice (some ⟨gs, 0, none⟩) x.insts.length k3) ∧ W.cell? ⟨gs, j * 8, none⟩ = some (.int .i64 (nn : Int)) ∧ W.cell? ⟨gs, j * 8 + 1, none⟩ = some (.int .i64 a1) ∧ W.cell? ⟨gs, j * 8 + 2, none⟩ = some (.int .i64 a2) ∧ W.cell? ⟨gs, j * 8 + 3, none⟩ = some (.int .i64 a3) ∧ W.cell? ⟨gs, j * 8 + 4, none⟩ = some (.int .i64 a4) ∧ W.cell? ⟨gs, j * 8 + 5, none⟩ = some (.int .i64 a5) ∧ W.cell? ⟨gs, j * 8 + 6, none⟩ = some (.int .i64 a6) ∧ W.cell? ⟨gs, j * 8 + 7, none⟩ = some (.int .i64 a7) from fun W hW => ⟨(hzj.on hW).cell 0, (hyj.on hW).cell 3, (hW.cell (p := ⟨gs, j * 8, none⟩) hgs).trans f0, (hW.cell (p := ⟨gs, j * 8 + 1, none⟩) hgs).trans f1, (hW.cell (p := ⟨gs, j * 8 + 2, none⟩) hgs).trans f2, (hW.cell (p := ⟨gs, j * 8 + 3, none⟩) hgs).trans f3, (hW.cell (p := ⟨gs, j * 8 + 4, none⟩) hgs).trans f4, (hW.cell (p := ⟨gs, j * 8 + 5, none⟩) hgs).trans f5, (hW.cell (p := ⟨gs, j * 8 + 6, none⟩) hgs).trans f6, (hW.cell (p := ⟨gs, j * 8 + 7, none⟩) hgs).trans f7⟩)
                    have tc := Lib.hid (Below.refl wr.heap.size wr).drew
                    have hlj2 : (j : Int) < (x.insts.length : Int) := by omega
                    clear f0 f1 f2 f3 f4 f5 f6 f7
                    go_wp2
                    go_region_held3 (fun w' => w'.cell? ⟨w.heap.size, 0, none⟩ = some (.slice (some ⟨g, 0, none⟩) cs.length cp) ∧ w'.cell? ⟨c6, 3, none⟩ = some (.slice (some ⟨gs, 0, none⟩) x.insts.length k3) ∧ w'.cell? ⟨gs, j * 8, none⟩ = some (.int .i64 (nn : Int)) ∧ w'.cell? ⟨gs, j * 8 + 1, none⟩ = some (.int .i64 a1) ∧ w'.cell? ⟨gs, j * 8 + 2, none⟩ = some (.int .i64 a2) ∧ w'.cell? ⟨gs, j * 8 + 3, none⟩ = some (.int .i64 a3) ∧ w'.cell? ⟨gs, j * 8 + 4, none⟩ = some (.int .i64 a4) ∧ w'.cell? ⟨gs, j * 8 + 5, none⟩ = some (.int .i64 a5) ∧ w'.cell? ⟨gs, j * 8 + 6, none⟩ = some (.int .i64 a6) ∧ w'.cell? ⟨gs, j * 8 + 7, none⟩ = some (.int .i64 a7))
                      (first | with_reducible exact HS.out _ tc.out | with_reducible exact HS.out _ ty.out)
                      (first | (go_at_call 39; (with_reducible refine (inst_spec (some ⟨g, 0, none⟩) cs.length cp nn k a1 a2 a3 a4 a5 a6 a7 cs _ _ LVj.out rfl hnl hnm1 hnm2 hsB).mono ?_); rintro e w3 ⟨js, rfl, hjs, hjl, hb3⟩; have Hjs := Lib.hid hjs; clear hjs; have hjl2 : js.size ≤ 1000 := (Nat.le_trans hjl (by decide)); have a1 : ¬ (9223372036854775807 < q.size + js.size) := (by omega); have a2 : ¬ (9223372036854775807 < q.size + js.size + 1) := (by omega); have ty := Lib.hid (tc.out.trans (hb3.mono tc.out.size))))
                    have hb3 := ty.out
                    go_wp2
                    go_roundw
                    case rel => exact ⟨j + 1, _, hlj, rfl, by go_num, Lib.hid (by rw [Hs.out, ← List.append_assoc]; exact two_is Hq.out Hjs.out), Lib.hid (by rw [two_size]; have := Hqs.out; omega), hbj.trans (hb3.mono hbj.size), hzj.on hb3, hyj.on hb3⟩
                    case measure => simp [intOf]; omega
                  · obtain rfl : j = x.insts.length := by omega
                    obtain ⟨T4, HT4⟩ : ∃ T, Hid (T = T3 ++ inT cs x x.insts.length) := ⟨_, Lib.hid rfl⟩
                    rw [← HT4.out] at Hq
                    have W4 := Hq
                    have HL4 := Lib.hid (show q.size ≤ k * 20000 + 13654 from by have := Hqs.out; have := HF.out.ni; omega)
                    have t5 := hbj
                    have z5 := hzj
                    have y5 := hyj
                    have hqs : q.size ≤ 1000000 := by have := HL4.out; omega
                    have a3 : ¬ (9223372036854775807 < q.size + 4) := by omega
                    clear hbj hzj hyj hlj Hqs Hq
                    go_wp2
                    clear d
                    go_roundw
                    case rel => exact ⟨k + 1, _, hlt, rfl, by go_num, Lib.hid (by rw [W4.out, libTo_snoc Hx.out, HT4.out, HT3.out, HT2.out, HT1.out]; apply bytes_ext; simp [cellT, List.append_assoc, ByteArray.data_append]), Lib.hid (by rw [ByteArray.size_append, show (⟨#[101, 110, 100, 10]⟩ : ByteArray).size = 4 from rfl]; have := HL4.out; omega), t5, z5⟩
                    case measure => simp [intOf]; omega
      · obtain rfl : k = cs.length := by omega
        go_wp2
        go_ret
        exact ⟨by rw [Hp.out]; simp [libT], hb⟩


end Go.Proofs.YtcckamhokdodnaaGreatDoor
