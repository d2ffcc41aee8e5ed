/- Contracts: the program's named, IsValidLibrary of both sides. Conditions: a library in memory; names no longer than a string may be. Contracts: the reference's small operations on sets: l19Count, l19Or, l18Meet. No conditions. -/
import Derived.Test.YtgegbgkokkdmpaaGreatQ17
import Derived.Deep.QuietTactic
import Derived.BigQuiet
import Derived.Test.YtgegbgkokkdmpaaGreatQ01
import Derived.Test.YtgegbgkokkdmpaaGreatQ06
import Derived.Test.YtgegbgkokkdmpaaGreatQ05

namespace Go.Proofs.YtgegbgkokkdmpaaGreat
open Go.RowKit

theorem toList_inj {a b : ByteArray} : a.toList = b.toList ↔ a = b := by
  constructor
  · intro h
    rw [ByteArray.toList_eq, ByteArray.toList_eq] at h
    exact WideShapes.bytes_inj h
  · rintro rfl
    rfl
def eqName (a b : ByteArray) : Bool := decide (a = b)
theorem cloName_any (c : CellD) (u : Sl3) (s : ByteArray) (sb : Nat) (w : World) (hu : C3 w 0 u c) (hc : w.cell? ⟨sb, 0, none⟩ = some (.string s)) (hsb : sb < w.heap.size) :
    Calls Tryz.prog 100 #[.agg #[.string c.name, u.s, u.l, u.i], .pointer (some ⟨sb, 0, none⟩)] w fun e w' => e = .returned (.bool (eqName c.name s)) ∧ Below w.heap.size w w' := by
  obtain ⟨us, ul, ui⟩ := u
  obtain ⟨P1, k1, rfl, -, -⟩ := hu.s.form
  obtain ⟨P2, k2, rfl, -, -⟩ := hu.l.form
  obtain ⟨P3, k3, rfl, -, -⟩ := hu.i.form
  dsimp only
  have b0 := (Below.refl w.heap.size w).alloc (Nat.le_refl _) (.cells #[.string c.name, .slice P1 c.shapes.length k1, .slice P2 c.labels.length k2, .slice P3 c.insts.length k3] 67)
  have hc1 := (b0.cell (p := ⟨sb, 0, none⟩) hsb).trans hc
  clear hu hc
  go_enter Tryz.func100, Tryz.ntmps100
  go_wp2
  go_ret
  exact ⟨ret_bool (by rw [Bool.eq_iff_iff]; simp [eqName, toList_inj]), b0⟩

set_option maxHeartbeats 800000 in
set_option maxRecDepth 100000 in
theorem idxName_any (v : Value) (cs : List CellD) (s : ByteArray) (sb : Nat) (w : World) (hv : LibV w 0 v cs) (hc : w.cell? ⟨sb, 0, none⟩ = some (.string s)) (hsb : sb < w.heap.size) :
    Calls Tryz.prog 99 #[v, .func (.func 100) #[] #[.pointer (some ⟨sb, 0, none⟩)]] w fun e w' => e = .returned (.int .i64 (idxF (fun c => eqName c.name s) cs)) ∧ Below w.heap.size w w' := by
  obtain ⟨A, c, rfl, hc9, hm⟩ := hv.form
  unfold maxLen at hm
  have HC := Lib.hid hc
  have HV := Lib.hid hv
  clear hv hc
  go_enter Tryz.func99, Tryz.ntmps99
  go_wp2
  go_loopw [8] (fun iv wr => ∃ k : Nat, k ≤ cs.length ∧ iv = .int .i64 k ∧ Hid ((cs.take k).any (fun c => eqName c.name s) = false) ∧ Below w.heap.size w wr) (fun iv _ => cs.length - (intOf iv).toNat)
  case atStart => exact ⟨0, Nat.zero_le _, rfl, Lib.hid rfl, Below.refl _ _⟩
  case round =>
    obtain ⟨k, hk, rfl, HI, hb⟩ := hrel
    by_cases hlt : k < cs.length
    · obtain ⟨g, x, u, rfl, hx, -, f0, f1, f2, f3, hC⟩ := (HV.out.on hb).elem hlt
      obtain ⟨us, ul, ui⟩ := u
      obtain ⟨P1, k1, h1, -, -⟩ := hC.s.form
      obtain ⟨P2, k2, h2, -, -⟩ := hC.l.form
      obtain ⟨P3, k3, h3, -, -⟩ := hC.i.form
      dsimp only at h1 h2 h3 f1 f2 f3
      subst h1 h2 h3
      have hcx := Lib.hid ((hb.cell (p := ⟨sb, 0, none⟩) hsb).trans HC.out)
      have hkx := Lib.hid (Nat.lt_of_lt_of_le hsb hb.size)
      have Hx := Lib.hid hx
      have HCC := Lib.hid hC
      have hk8 : k < 9223372036854775807 := by omega
      clear hx hC
      cases hok : eqName x.name s with
      | false =>
        have HI2 := Lib.hid (any_step HI.out Hx.out (p := fun c => eqName c.name s) hok)
        go_wp2_with fail
        refine (cloName_any x ⟨_, _, _⟩ s sb _ HCC.out hcx.out hkx.out).mono ?_
        rintro e w2 ⟨rfl, hb2⟩
        rw [hok]
        go_wp2
        exact ⟨⟨k + 1, by omega, by go_num, HI2, hb.trans (hb2.mono hb.size)⟩, by simp [intOf]; omega⟩
      | true =>
        have Hhit := Lib.hid (idxF_hit HI.out Hx.out (p := fun c => eqName c.name s) hok)
        go_wp2_with fail
        refine (cloName_any x ⟨_, _, _⟩ s sb _ HCC.out hcx.out hkx.out).mono ?_
        rintro e w2 ⟨rfl, hb2⟩
        rw [hok]
        go_wp2
        go_ret
        exact ⟨by rw [Hhit.out]; rfl, hb.trans (hb2.mono hb.size)⟩
    · obtain rfl : k = cs.length := by omega
      have HE := Lib.hid (idxF_none (p := fun c => eqName c.name s) (xs := cs) (by have := HI.out; rwa [List.take_length] at this))
      go_wp2
      go_ret
      exact ⟨by rw [HE.out]; rfl, hb⟩

theorem named_any (v : Value) (cs : List CellD) (s : ByteArray) (w : World) (hv : LibV w 0 v cs) :
    Calls Tryz.prog 85 #[.agg #[v], .string s] w fun e w' => e = .returned (.int .i64 (idxF (fun c => eqName c.name s) cs)) ∧ Below w.heap.size w w' := by
  obtain ⟨A, c, rfl, -, -⟩ := hv.form
  have b0 := ((Below.refl w.heap.size w).alloc (Nat.le_refl _) (.cells #[.slice A cs.length c] 26)).alloc (by simp) (.cells #[.string s] 9)
  have y0 := Bk.new (w.alloc (.cells #[.slice A cs.length c] 26)) 9 #[.string s]
  have e1 : (w.alloc (.cells #[.slice A cs.length c] 26)).heap.size = w.heap.size + 1 := by simp
  rw [e1] at y0
  have V := Lib.hid (hv.on b0)
  have Y := Lib.hid y0
  clear hv y0 e1
  go_enter Tryz.func85, Tryz.ntmps85
  go_wp2_with (go_at_call 99; refine (idxName_any _ cs s (w.heap.size + 1) _ V.out (Y.out.cell 0) Y.out.lt).mono ?_; rintro e w1 ⟨rfl, hb1⟩)
  go_ret
  exact ⟨rfl, b0.trans (hb1.mono b0.size)⟩

/-- The cell i is valid, and no earlier one has its name. -/
def okAt (cs : List CellD) (i : Nat) : Bool := match cs[i]? with
  | some c => cellB c i && !((cs.take i).any fun d => eqName d.name c.name)
  | none => false
def okTo (cs : List CellD) (k : Nat) : Bool := (List.range k).all (okAt cs)
def libB (cs : List CellD) : Bool := decide (1 ≤ (cs.length : Int)) && decide ((cs.length : Int) ≤ 8) && okTo cs cs.length
theorem okTo_succ {cs : List CellD} {k : Nat} (h : okTo cs k = true) (h2 : okAt cs k = true) : okTo cs (k + 1) = true := by
  unfold okTo at *
  rw [List.range_succ, List.all_append, h]
  simp [h2]
theorem okTo_bad {cs : List CellD} {k : Nat} (hk : k < cs.length) (h2 : okAt cs k = false) : libB cs = false := by
  have : okTo cs cs.length = false := by
    rw [Bool.eq_false_iff]
    intro hc
    have := List.all_eq_true.1 hc k (List.mem_range.2 hk)
    rw [h2] at this
    cases this
  unfold libB
  rw [this]
  simp
theorem okAt_eq {cs : List CellD} {k : Nat} {c : CellD} (h : cs[k]? = some c) : okAt cs k = (cellB c k && !((cs.take k).any fun d => eqName d.name c.name)) := by unfold okAt; rw [h]
theorem idx_first {cs : List CellD} {k : Nat} {c : CellD} (h : cs[k]? = some c) (ha : (cs.take k).any (fun d => eqName d.name c.name) = false) : idxF (fun d => eqName d.name c.name) cs = k := idxF_hit ha h (by simp [eqName])
theorem idx_early {cs : List CellD} {k : Nat} {c : CellD} (h : cs[k]? = some c) (ha : (cs.take k).any (fun d => eqName d.name c.name) = true) : idxF (fun d => eqName d.name c.name) cs ≠ k := by
  have hk : k < cs.length := (List.getElem?_eq_some_iff.1 h).1
  obtain ⟨d, hd, hp⟩ := List.any_eq_true.1 ha
  obtain ⟨j, hj, e⟩ := List.mem_take_iff_getElem.1 hd
  have hjk : j < k := by omega
  have hjl : j < cs.length := by omega
  have hany : cs.any (fun d => eqName d.name c.name) = true := List.any_eq_true.2 ⟨d, List.mem_of_mem_take hd, hp⟩
  rw [idxF, if_pos hany]
  have : cs.findIdx (fun d => eqName d.name c.name) ≤ j := by
    rcases Nat.lt_or_ge j (cs.findIdx (fun d => eqName d.name c.name)) with h1 | h1
    · have h2 := List.not_of_lt_findIdx h1
      rw [e] at h2
      rw [hp] at h2
      cases h2
    · exact h1
  omega

set_option maxHeartbeats 1600000 in
set_option maxRecDepth 100000 in
theorem lib_impl (v : Value) (cs : List CellD) (w : World) (hv : LibV w 0 v cs) (hN : ∀ c ∈ cs, NmOk c) :
    Calls Tryz.prog 74 #[.agg #[v]] w fun e w' => e = .returned (.bool (libB cs)) ∧ Below w.heap.size w w' := by
  obtain ⟨A, c, rfl, -, hm⟩ := hv.form
  unfold maxLen at hm
  have b0 := (Below.refl w.heap.size w).alloc (Nat.le_refl _) (.cells #[.slice A cs.length c] 26)
  have z0 := Bk.new w 26 #[.slice A cs.length c]
  have HV := Lib.hid hv
  have HN := Lib.hid hN
  clear hv hN
  by_cases g1 : (cs.length : Int) < 1
  · have e0 : libB cs = false := by unfold libB; rw [decide_eq_false (by omega)]; rfl
    rw [e0]
    clear e0
    go_enter Tryz.func74, Tryz.ntmps74
    go_wp2
    go_ret
    exact ⟨rfl, b0⟩
  · by_cases g2 : 8 < (cs.length : Int)
    · have e0 : libB cs = false := by unfold libB; rw [decide_eq_false (show ¬ (cs.length : Int) ≤ 8 by omega)]; simp
      rw [e0]
      clear e0
      go_enter Tryz.func74, Tryz.ntmps74
      go_wp2
      go_ret
      exact ⟨rfl, b0⟩
    · go_enter Tryz.func74, Tryz.ntmps74
      go_wp2
      go_loopw [18] (fun iv wr => ∃ k : Nat, k ≤ cs.length ∧ iv = .int .i64 k ∧ Hid (okTo cs k = true) ∧ Below w.heap.size w wr ∧ Bk wr w.heap.size 26 #[.slice A cs.length c]) (fun iv _ => cs.length - (intOf iv).toNat)
      case atStart => exact ⟨0, Nat.zero_le _, rfl, Lib.hid rfl, b0, z0⟩
      case round =>
        obtain ⟨k, hk, rfl, HI, hb, hz⟩ := hrel
        clear b0 z0
        have q0 := hz.cell 0
        simp only [List.getElem?_toArray, List.getElem?_cons_zero] at q0
        by_cases hlt : k < cs.length
        · obtain ⟨g, x, u, rfl, hx, hg, f0, f1, f2, f3, hC⟩ := (HV.out.on hb).elem hlt
          obtain ⟨us, ul, ui⟩ := u
          obtain ⟨P1, k1, h1, -, -⟩ := hC.s.form
          obtain ⟨P2, k2, h2, -, -⟩ := hC.l.form
          obtain ⟨P3, k3, h3, -, -⟩ := hC.i.form
          dsimp only at h1 h2 h3 f1 f2 f3
          subst h1 h2 h3
          have hNx := Lib.hid (HN.out x (List.mem_of_getElem? hx))
          have Hx := Lib.hid hx
          have t1 := hb.alloc hb.size (.cells #[.string x.name, .slice P1 x.shapes.length k1, .slice P2 x.labels.length k2, .slice P3 x.insts.length k3] 67)
          have y1 := Bk.new wr 67 #[.string x.name, .slice P1 x.shapes.length k1, .slice P2 x.labels.length k2, .slice P3 x.insts.length k3]
          have z1 := hz.alloc (.cells #[.string x.name, .slice P1 x.shapes.length k1, .slice P2 x.labels.length k2, .slice P3 x.insts.length k3] 67)
          have HCC := Lib.hid (hC.on ((Below.refl wr.heap.size wr).alloc (Nat.le_refl _) (.cells #[.string x.name, .slice P1 x.shapes.length k1, .slice P2 x.labels.length k2, .slice P3 x.insts.length k3] 67)))
          have hks : (0 : Int) ≤ (k : Int) ∧ (k : Int) ≤ 1000 := by omega
          have Hks := Lib.hid hks
          have Hat := Lib.hid (okAt_eq hx)
          clear hx hC hks
          cases hcb : cellB x k with
          | false =>
            have Hbad := Lib.hid (okTo_bad hlt (by rw [Hat.out, hcb]; rfl))
            go_wp2_with (go_at_call 84; refine (cell_impl x ⟨_, _, _⟩ k _ HCC.out Hks.out hNx.out).mono ?_; rintro e w2 ⟨rfl, hb2⟩; rw [hcb])
            go_ret
            exact ⟨by rw [Hbad.out]; rfl, t1.trans (hb2.mono t1.size)⟩
          | true =>
            cases hea : (cs.take k).any (fun d => eqName d.name x.name) with
            | true =>
              have Hbad := Lib.hid (okTo_bad hlt (by rw [Hat.out, hcb, hea]; rfl))
              have hne : (idxF (fun d => eqName d.name x.name) cs != (k : Int)) = true := by simpa using idx_early Hx.out hea
              clear hea
              go_wp2_with (first
                | (go_at_call 84; refine (cell_impl x ⟨_, _, _⟩ k _ HCC.out Hks.out hNx.out).mono ?_; rintro e w2 ⟨rfl, hb2⟩; rw [hcb]; have z2 := z1.on hb2; have y2 := y1.on hb2; have q1 := z2.cell 0; have q2 := y2.cell 0; simp only [List.getElem?_toArray, List.getElem?_cons_zero] at q1 q2; have t2 := t1.trans (hb2.mono t1.size))
                | (go_at_call 85; refine (named_any _ cs x.name _ (HV.out.on t2)).mono ?_; rintro e w3 ⟨rfl, hb3⟩))
              go_ret
              exact ⟨by rw [Hbad.out]; rfl, t2.trans (hb3.mono t2.size)⟩
            | false =>
              have HI2 := Lib.hid (okTo_succ HI.out (by rw [Hat.out, hcb, hea]; rfl))
              have Hix := Lib.hid (idx_first Hx.out hea)
              clear hea
              go_wp2_with (first
                | (go_at_call 84; refine (cell_impl x ⟨_, _, _⟩ k _ HCC.out Hks.out hNx.out).mono ?_; rintro e w2 ⟨rfl, hb2⟩; rw [hcb]; have z2 := z1.on hb2; have y2 := y1.on hb2; have q1 := z2.cell 0; have q2 := y2.cell 0; simp only [List.getElem?_toArray, List.getElem?_cons_zero] at q1 q2; have t2 := t1.trans (hb2.mono t1.size))
                | (go_at_call 85; refine (named_any _ cs x.name _ (HV.out.on t2)).mono ?_; rintro e w3 ⟨rfl, hb3⟩; rw [Hix.out]))
              exact ⟨⟨k + 1, by omega, by go_num, HI2, t2.trans (hb3.mono t2.size), z2.on hb3⟩, by simp [intOf]; omega⟩
        · obtain rfl : k = cs.length := by omega
          have e0 : libB cs = true := by unfold libB; rw [decide_eq_true (by omega), decide_eq_true (by omega), HI.out]; rfl
          go_wp2
          go_ret
          exact ⟨by rw [e0]; rfl, hb⟩

set_option maxHeartbeats 1600000 in
set_option maxRecDepth 100000 in
theorem lib_spec (v : Value) (cs : List CellD) (w : World) (hv : LibV w 0 v cs) (hN : ∀ c ∈ cs, NmOk c) :
    Calls Tryz.prog 45 #[.agg #[v]] w fun e w' => e = .returned (.bool (libB cs)) ∧ Below w.heap.size w w' := by
  obtain ⟨A, c, rfl, -, hm⟩ := hv.form
  unfold maxLen at hm
  have b0 := (Below.refl w.heap.size w).alloc (Nat.le_refl _) (.cells #[.slice A cs.length c] 26)
  have z0 := Bk.new w 26 #[.slice A cs.length c]
  have HV := Lib.hid hv
  have HN := Lib.hid hN
  clear hv hN
  by_cases g1 : (cs.length : Int) < 1
  · have e0 : libB cs = false := by unfold libB; rw [decide_eq_false (by omega)]; rfl
    rw [e0]
    clear e0
    go_enter Tryz.func45, Tryz.ntmps45
    go_wp2
    go_ret
    exact ⟨rfl, b0⟩
  · by_cases g2 : 8 < (cs.length : Int)
    · have e0 : libB cs = false := by unfold libB; rw [decide_eq_false (show ¬ (cs.length : Int) ≤ 8 by omega)]; simp
      rw [e0]
      clear e0
      go_enter Tryz.func45, Tryz.ntmps45
      go_wp2
      go_ret
      exact ⟨rfl, b0⟩
    · go_enter Tryz.func45, Tryz.ntmps45
      go_wp2
      go_loopw [3] (fun iv wr => ∃ k : Nat, k ≤ cs.length ∧ iv = .int .i64 k ∧ Hid (okTo cs k = true) ∧ Below w.heap.size w wr ∧ Bk wr w.heap.size 26 #[.slice A cs.length c]) (fun iv _ => cs.length - (intOf iv).toNat)
      case atStart => exact ⟨0, Nat.zero_le _, rfl, Lib.hid rfl, b0, z0⟩
      case round =>
        obtain ⟨k, hk, rfl, HI, hb, hz⟩ := hrel
        clear b0 z0
        have q0 := hz.cell 0
        simp only [List.getElem?_toArray, List.getElem?_cons_zero] at q0
        by_cases hlt : k < cs.length
        · obtain ⟨g, x, u, rfl, hx, hg, f0, f1, f2, f3, hC⟩ := (HV.out.on hb).elem hlt
          obtain ⟨us, ul, ui⟩ := u
          obtain ⟨P1, k1, h1, -, -⟩ := hC.s.form
          obtain ⟨P2, k2, h2, -, -⟩ := hC.l.form
          obtain ⟨P3, k3, h3, -, -⟩ := hC.i.form
          dsimp only at h1 h2 h3 f1 f2 f3
          subst h1 h2 h3
          have hNx := Lib.hid (HN.out x (List.mem_of_getElem? hx))
          have Hx := Lib.hid hx
          have HCC := Lib.hid hC
          have hks : (0 : Int) ≤ (k : Int) ∧ (k : Int) ≤ 1000 := by omega
          have Hks := Lib.hid hks
          have Hat := Lib.hid (okAt_eq hx)
          clear hx hC hks
          cases hcb : cellB x k with
          | false =>
            have Hbad := Lib.hid (okTo_bad hlt (by rw [Hat.out, hcb]; rfl))
            go_wp2_with (go_at_call 68; refine (cell_spec x ⟨_, _, _⟩ k _ HCC.out Hks.out hNx.out).mono ?_; rintro e w2 ⟨rfl, hb2⟩; rw [hcb])
            go_ret
            exact ⟨by rw [Hbad.out]; rfl, hb.trans (hb2.mono hb.size)⟩
          | true =>
            go_wp2_with (go_at_call 68; refine (cell_spec x ⟨_, _, _⟩ k _ HCC.out Hks.out hNx.out).mono ?_; rintro e w2 ⟨rfl, hb2⟩; rw [hcb]; have z2 := hz.on hb2; have t2 := hb.trans (hb2.mono hb.size))
            clear q0 f0 f1 f2 f3
            go_loopw [4] (fun jv wi => ∃ j : Nat, j ≤ k ∧ jv = .int .i64 j ∧ Hid ((cs.take j).any (fun d => eqName d.name x.name) = false) ∧ Below w.heap.size w wi ∧ Bk wi w.heap.size 26 #[.slice (some ⟨g, 0, none⟩) cs.length c]) (fun jv _ => k - (intOf jv).toNat)
            case atStart => exact ⟨0, Nat.zero_le _, rfl, Lib.hid rfl, t2, z2⟩
            case round =>
              obtain ⟨j, hj, rfl, HJ, hbj, hzj⟩ := hrel
              clear t2 z2
              have q0 := hzj.cell 0
              simp only [List.getElem?_toArray, List.getElem?_cons_zero] at q0
              by_cases hlj : j < k
              · have hjl : j < cs.length := by omega
                obtain ⟨g', y, uy, hg', hy, -, e0, -, -, -, -⟩ := (HV.out.on hbj).elem hjl
                cases hg'
                obtain ⟨g', x', ux, hg', hx', -, f0, -, -, -, -⟩ := (HV.out.on hbj).elem hlt
                cases hg'
                obtain rfl : x' = x := Option.some.inj (hx'.symm.trans Hx.out)
                have hj0 : (0 : Int) ≤ (j : Int) := by omega
                have hjn : (j : Int) < (cs.length : Int) := by omega
                have hk0 : (0 : Int) ≤ (k : Int) := by omega
                have hkn : (k : Int) < (cs.length : Int) := by omega
                have Hy := Lib.hid hy
                clear hy hx'
                cases hen : eqName y.name x'.name with
                | true =>
                  have hxy : (y.name.toList == x'.name.toList) = true := by simpa [eqName, toList_inj] using hen
                  have Hbad := Lib.hid (okTo_bad hlt (by rw [Hat.out, hcb, List.any_eq_true.2 ⟨y, List.mem_take_iff_getElem.2 ⟨j, by omega, Option.some.inj ((List.getElem?_eq_getElem hjl).symm.trans Hy.out)⟩, hen⟩]; rfl))
                  clear hen hcb
                  go_wp2
                  go_quiet (fail)
                  all_goals
                    go_wp2
                    go_ret
                    exact ⟨by rw [Hbad.out]; rfl, below_drewN hbj _⟩
                | false =>
                  have hxy : (y.name.toList == x'.name.toList) = false := by
                    have : ¬ y.name = x'.name := by simpa [eqName] using hen
                    simpa [toList_inj] using this
                  have HJ2 := Lib.hid (any_step HJ.out Hy.out (p := fun d => eqName d.name x'.name) hen)
                  clear hen hcb
                  go_wp2
                  go_quiet (fail)
                  all_goals
                    go_wp2
                    exact ⟨⟨j + 1, by omega, by go_num, HJ2, below_drewN hbj _, hzj.drewN _⟩, by simp [intOf]; omega⟩
              · obtain rfl : j = k := by omega
                have HI2 := Lib.hid (okTo_succ HI.out (by rw [Hat.out, hcb, HJ.out]; rfl))
                go_wp2
                exact ⟨⟨j + 1, by omega, by go_num, HI2, hbj, hzj⟩, by simp [intOf]; omega⟩
        · obtain rfl : k = cs.length := by omega
          have e0 : libB cs = true := by unfold libB; rw [decide_eq_true (by omega), decide_eq_true (by omega), HI.out]; rfl
          go_wp2
          go_ret
          exact ⟨by rw [e0]; rfl, hb⟩

end Go.Proofs.YtgegbgkokkdmpaaGreat

namespace Go.Proofs.YtgegbgkokkdmpaaGreat
open Go.RowKit

theorem ret_intS {a b : Int} (h : a = b) : Ending.returned (.int .i64 a) = .returned (.int .i64 b) := by rw [h]
/-- Two sets have a common cell. -/
def meetG (G H : Gr) : Bool := (List.range 6400).any fun i => G i && H i
theorem meet_yes {G H : Gr} {i : Nat} (hi : i < 6400) (h1 : G i = true) (h2 : H i = true) : meetG G H = true := by
  unfold meetG
  rw [List.any_eq_true]
  exact ⟨i, List.mem_range.2 hi, by rw [h1, h2]; rfl⟩
theorem meet_no {G H : Gr} (h : ∀ i, i < 6400 → (G i && H i) = false) : meetG G H = false := by
  unfold meetG
  rw [Bool.eq_false_iff]
  intro hc
  rw [List.any_eq_true] at hc
  obtain ⟨i, hi, hc⟩ := hc
  rw [h i (List.mem_range.1 hi)] at hc
  cases hc

end Go.Proofs.YtgegbgkokkdmpaaGreat
