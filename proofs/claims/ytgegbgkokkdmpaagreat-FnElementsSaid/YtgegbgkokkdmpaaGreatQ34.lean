/- Contracts: Occurrences of the reference and of the program. Conditions: a library in memory; for the program, one whose occurrences are well. -/
import Derived.Test.YtgegbgkokkdmpaaGreatQ32
import Derived.Test.YtgegbgkokkdmpaaGreatQ33

namespace Go.Proofs.YtgegbgkokkdmpaaGreat
open Go.RowKit

/-- The occurrences are well. -/
def occOk (cs : List CellD) (k : Int) : Prop := libB cs = true ∧ (0 ≤ k ∧ k < cs.length) ∧ (occK cs k).length ≤ 200 ∧ ∀ o ∈ occK cs k, transB o.t.o o.t.x o.t.y = true
theorem OW.lit (w : World) {B : Nat} (hB : B ≤ w.heap.size) : OW (w.alloc (.cells #[] 80)) B (.slice (some ⟨w.heap.size, 0, none⟩) 0 0) [] := ⟨FL.lit9 w hB, fun k p h => by cases h⟩
theorem occK_nat (cs : List CellD) (k : Nat) : occK cs (k : Int) = occ cs (k + 1) ⟨k, ⟨0, 0, 0⟩, []⟩ := by
  unfold occK
  rw [Int.toNat_natCast]
theorem occK_len {cs : List CellD} (k : Nat) : (((occK cs (k : Int)).length : Nat) : Int) = nOcc cs k := by
  rw [occK_nat]
  rfl
theorem OW.elem5 {w : World} {B : Nat} {ps : List (OcD × Value)} {A : Option Addr} {m n k : Nat} (h : OW w B (.slice A m n) ps) (hk : k < ps.length) : ∃ (g : Nat) (oc o x y : Int) (path : List Int) (Ap : Option Addr) (cp : Nat), A = some ⟨g, 0, none⟩ ∧ ps[k]? = some (⟨oc, ⟨o, x, y⟩, path⟩, .slice Ap path.length cp) ∧ g < w.heap.size ∧
    w.cell? ⟨g, k * 5, none⟩ = some (.int .i64 oc) ∧ w.cell? ⟨g, k * 5 + 1, none⟩ = some (.int .i64 o) ∧ w.cell? ⟨g, k * 5 + 2, none⟩ = some (.int .i64 x) ∧ w.cell? ⟨g, k * 5 + 3, none⟩ = some (.int .i64 y) ∧ w.cell? ⟨g, k * 5 + 4, none⟩ = some (.slice Ap path.length cp) ∧ IL w 0 (.slice Ap path.length cp) path := by
  obtain ⟨g, ⟨⟨oc, ⟨o, x, y⟩, pa⟩, pv⟩, hA, hp, hg, a0, a1, a2, a3, a4, hpa⟩ := h.elem hk
  obtain ⟨Ap, cp, e, -, -⟩ := hpa.form
  dsimp only at e a0 a1 a2 a3 a4 hpa
  subst e
  exact ⟨g, oc, o, x, y, pa, Ap, cp, hA, hp, hg, a0, a1, a2, a3, a4, hpa⟩
/-- What Occurrences answers. -/
def OcsAns (cs : List CellD) (k : Int) (w : World) (e : Ending) (w' : World) : Prop :=
  ∃ (v : Value) (code : Int), e = .returned (.tuple #[v, .int .i64 code]) ∧ Below w.heap.size w w' ∧ (code ≠ 0 ∨ (code = 0 ∧ occOk cs k ∧ ∃ qs, OW w' w.heap.size v qs ∧ Hid (qs.map Prod.fst = occK cs k)))

set_option maxHeartbeats 3200000 in
set_option maxRecDepth 100000 in
/-- Occurrences of the reference. -/
theorem occs_spec (cs : List CellD) (hN : ∀ c ∈ cs, NmOk c) (lv : Value) (k : Int) (w : World) (hl : cs.length ≤ 1000000) (hL : LibV w 0 lv cs) :
    Calls Tryz.prog 28 #[.agg #[lv], .int .i64 k] w (OcsAns cs k w) := by
  have HS := Lib.hid (fun W (h : LibV W 0 lv cs) => lib_spec _ cs W h hN)
  have HH := Lib.hid (fun W (h : LibV W 0 lv cs) => has9_any cs hN lv k W hl h)
  have HC := Lib.hid (fun W (k : Nat) (hlib : libB cs = true) (hk : k < cs.length) (h : LibV W 0 lv cs) => count_spec cs hlib hN lv k W hk h)
  obtain ⟨AL, cL, rfl, hcap, hm⟩ := hL.form
  have b0 := (Below.refl w.heap.size w).alloc (Nat.le_refl _) (.cells #[.slice AL cs.length cL] 26)
  have z0 := Bk.new w 26 #[.slice AL cs.length cL]
  have hL1 := hL.on b0
  have hs0 := b0.size
  clear hL hm hN
  cases hv : libB cs with
  | false =>
    rw [hv] at HS
    clear HC HH
    go_enter Tryz.func28, Tryz.ntmps28
    go_wp2_with (go_at_call 45; (with_reducible refine (HS.out _ hL1).mono ?_); rintro e w1 ⟨rfl, hb1⟩)
    refine bodyPost_ret (v := .tuple #[.slice none 0 0, .int .i64 1]) (by simp [results, Tryz.results28, go_sem, *]) rfl ?_
    exact ⟨_, 1, rfl, b0.trans (hb1.mono hs0), .inl (by decide)⟩
  | true =>
    rw [hv] at HS HH
    by_cases hk : inB 0 k ((cs.length : Int) - 1) = true
    · rw [hk, Bool.true_and] at HH
      obtain ⟨kn, rfl⟩ : ∃ kn : Nat, k = kn := ⟨k.toNat, by unfold inB at hk; rw [decide_eq_true_eq] at hk; omega⟩
      have hkl : kn < cs.length := by unfold inB at hk; rw [decide_eq_true_eq] at hk; omega
      have h8 : cs.length ≤ 8 := (lib_facts hv).1.2
      have HC2 := Lib.hid (fun W => HC.out W kn hv hkl)
      have HE := Lib.hid (occK_len (cs := cs) kn)
      clear HC hk
      by_cases hc : nOcc cs kn > 200
      · go_enter Tryz.func28, Tryz.ntmps28
        go_wp2_with (first
          | (go_at_call 45; (with_reducible refine (HS.out _ hL1).mono ?_); rintro e w1 ⟨rfl, hb1⟩; have z1 := (z0.on hb1).cell 0; have hL2 := hL1.on hb1)
          | (go_at_call 46; (with_reducible refine (HH.out _ hL2).mono ?_); rintro e w2 ⟨rfl, hb2⟩; have z2 := ((z0.on hb1).on hb2).cell 0; have hL3 := hL2.on hb2)
          | (go_at_call 47; (with_reducible refine (HC2.out _ hL3).mono ?_); rintro e w3 ⟨rfl, hb3⟩))
        refine bodyPost_ret (v := .tuple #[.slice none 0 0, .int .i64 3]) (by simp [results, Tryz.results28, go_sem, *]) rfl ?_
        exact ⟨_, 3, rfl, ((b0.trans (hb1.mono hs0)).trans (hb2.mono (Nat.le_trans hs0 hb1.size))).trans (hb3.mono (Nat.le_trans (Nat.le_trans hs0 hb1.size) hb2.size)), .inl (by decide)⟩
      · go_enter Tryz.func28, Tryz.ntmps28
        go_upto_region 7 with (first
          | (go_at_call 45; (with_reducible refine (HS.out _ hL1).mono ?_); rintro e w1 ⟨rfl, hb1⟩; have z1 := (z0.on hb1).cell 0; have hL2 := hL1.on hb1)
          | (go_at_call 46; (with_reducible refine (HH.out _ hL2).mono ?_); rintro e w2 ⟨rfl, hb2⟩; have z2 := ((z0.on hb1).on hb2).cell 0; have hL3 := hL2.on hb2)
          | (go_at_call 47; (with_reducible refine (HC2.out _ hL3).mono ?_); rintro e w3 ⟨rfl, hb3⟩))
        have b3 := ((b0.trans (hb1.mono hs0)).trans (hb2.mono (Nat.le_trans hs0 hb1.size))).trans (hb3.mono (Nat.le_trans (Nat.le_trans hs0 hb1.size) hb2.size))
        have z3 := ((z0.on hb1).on hb2).on hb3
        have L3 := hL3.on hb3
        clear z1 z2 hL2 hL3 hb1 hb2 hb3 z0 b0 hL1 hs0
        have s3 := b3.size
        have o4 := OW.lit w3 s3
        have z4 := z3.alloc (.cells #[] 80)
        have L4 := LibV.on L3 ((Below.refl w3.heap.size w3).alloc (Nat.le_refl _) (.cells #[] 80))
        have b4 := b3.alloc s3 (.cells #[] 80)
        have hz3 := z3.cell 0
        have hsm : Sml ((320 * (8 - (kn + 1)) : Nat) : Int) ⟨0, 0, 0⟩ := ⟨by decide, by dsimp only; omega, by dsimp only; omega⟩
        have hlen : ([] : List (OcD × Value)).length + (occ cs (kn + 1) ⟨kn, ⟨0, 0, 0⟩, []⟩).length ≤ 1000 := by
          have := HE.out
          rw [occK_nat] at this
          simp
          omega
        have HX := Lib.hid (show ∀ (v : Value) (W : World), LibV W 0 (.slice AL cs.length cL) cs → OW W w.heap.size v [] → w.heap.size ≤ W.heap.size → Calls Tryz.prog 48 #[.agg #[.slice AL cs.length cL], v, .agg #[.int .i64 kn, .int .i64 0, .int .i64 0, .int .i64 0, .slice none 0 0]] W (OcAns cs (kn + 1) ⟨kn, ⟨0, 0, 0⟩, []⟩ w.heap.size v [] W) from
          fun v W h1 h2 h3 => occ10_any cs hv (kn + 1) kn ⟨0, 0, 0⟩ [] _ (.slice none 0 0) v [] w.heap.size W (Nat.lt_succ_self _) (by omega) hkl hsm (by simp; omega) h1 (World.ownsRow_nil _ _ _ _) h2 h3 hlen)
        go_upto_region 8 with (go_at_call 48; (with_reducible refine (HX.out _ _ L4 o4 b4.size).mono ?_); rintro e w5 ⟨v5, qs, rfl, hO5, HQ5, hX5⟩)
        obtain ⟨A5, c5, rfl, -, -⟩ := hO5.form
        have hq5 : qs.map Prod.fst = occK cs (kn : Int) := by rw [HQ5.out, occK_nat]; rfl
        have HQ := Lib.hid hq5
        have b5 : Below w.heap.size w w5 := b4.grown hX5.gro b4.size (fun g hg => by simp only [Value.ownBlock, Option.some.injEq] at hg; omega)
        have hqn : qs.length = (occK cs (kn : Int)).length := by rw [← hq5, List.length_map]
        have hq2 : qs.length ≤ 200 := by have := HE.out; omega
        have Hqn := Lib.hid hqn
        clear hqn hq5 HQ5 hX5 z3 z4 L4 o4 b4 b3 L3 hz3 hlen
        have HO := Lib.hid hO5
        have hs5 := b5.size
        go_wp2
        go_loopw [7] (fun iv wr => ∃ i : Nat, i ≤ qs.length ∧ iv = .int .i64 i ∧ Hid (∀ (j : Nat) (p : OcD × Value), j < i → qs[j]? = some p → transB p.1.t.o p.1.t.x p.1.t.y = true) ∧ Below w5.heap.size w5 wr) (fun iv _ => qs.length - (intOf iv).toNat)
        case atStart => exact ⟨0, Nat.zero_le _, rfl, Lib.hid (fun j p h => by omega), Below.refl _ _⟩
        case round =>
          obtain ⟨i, hi, rfl, HA, hb⟩ := hrel
          by_cases hlt : i < qs.length
          · obtain ⟨g, ⟨⟨oc, ⟨tO, tx, ty⟩, pa⟩, pv⟩, rfl, hp, hg, a0, a1, a2, a3, a4, -⟩ := (HO.out.on hb).elem hlt
            dsimp only at a0 a1 a2 a3 a4
            cases ht : transB tO tx ty with
            | true =>
              have Ht := Lib.hid ht
              have HT := Lib.hid (fun W => trans9 tO tx ty W)
              rw [ht] at HT
              clear ht
              go_wp2_with (go_at_call 49; (with_reducible refine (HT.out _).mono ?_); rintro e w6 ⟨rfl, hb6⟩)
              exact ⟨⟨i + 1, by omega, by go_num, Lib.hid (fun j p hj hjp => by
                by_cases e : j < i
                · exact HA.out j p e hjp
                · obtain rfl : j = i := by omega
                  obtain rfl : _ = p := by simpa using hp.symm.trans hjp
                  exact Ht.out), hb.trans (hb6.mono hb.size)⟩, by simp [intOf]; omega⟩
            | false =>
              have HT := Lib.hid (fun W => trans9 tO tx ty W)
              rw [ht] at HT
              clear ht
              go_wp2_with (go_at_call 49; (with_reducible refine (HT.out _).mono ?_); rintro e w6 ⟨rfl, hb6⟩)
              refine bodyPost_ret (v := .tuple #[.slice none 0 0, .int .i64 2]) (by simp [results, Tryz.results28, go_sem, *]) rfl ?_
              exact ⟨_, 2, rfl, (b5.trans (hb.mono hs5)).trans (hb6.mono (Nat.le_trans hs5 hb.size)), .inl (by decide)⟩
          · obtain rfl : i = qs.length := by omega
            go_wp2
            refine bodyPost_ret (v := .tuple #[.slice A5 qs.length c5, .int .i64 0]) (by simp [results, Tryz.results28, go_sem, *]) rfl ?_
            refine ⟨_, 0, rfl, b5.trans (hb.mono hs5), .inr ⟨rfl, ⟨hv, ⟨by omega, by omega⟩, by rw [← Hqn.out]; exact hq2, fun o ho => ?_⟩, qs, HO.out.on hb, HQ⟩⟩
            rw [← HQ.out] at ho
            obtain ⟨p, hp, rfl⟩ := List.mem_map.1 ho
            obtain ⟨j, hj⟩ := List.mem_iff_getElem?.1 hp
            exact HA.out j p (List.getElem?_eq_some_iff.1 hj).1 hj
    · have hk' : inB 0 k ((cs.length : Int) - 1) = false := by simpa using hk
      rw [hk', Bool.true_and] at HH
      clear HC
      go_enter Tryz.func28, Tryz.ntmps28
      go_wp2_with (first
        | (go_at_call 45; (with_reducible refine (HS.out _ hL1).mono ?_); rintro e w1 ⟨rfl, hb1⟩; have z1 := (z0.on hb1).cell 0; have hL2 := hL1.on hb1)
        | (go_at_call 46; (with_reducible refine (HH.out _ hL2).mono ?_); rintro e w2 ⟨rfl, hb2⟩))
      refine bodyPost_ret (v := .tuple #[.slice none 0 0, .int .i64 5]) (by simp [results, Tryz.results28, go_sem, *]) rfl ?_
      exact ⟨_, 5, rfl, (b0.trans (hb1.mono hs0)).trans (hb2.mono (Nat.le_trans hs0 hb1.size)), .inl (by decide)⟩

set_option maxHeartbeats 3200000 in
set_option maxRecDepth 100000 in
/-- cellCode. -/
theorem code_impl (cs : List CellD) (hN : ∀ c ∈ cs, NmOk c) (hv : libB cs = true) (lv : Value) (k : Nat) (hk : k < cs.length) (w : World) (hL : LibV w 0 lv cs) :
    Calls Tryz.prog 56 #[.agg #[lv], .int .i64 k] w fun e w' => e = .returned (.int .i64 0) ∧ Below w.heap.size w w' := by
  have h8 : cs.length ≤ 8 := (lib_facts hv).1.2
  have HS := Lib.hid (fun W (h : LibV W 0 lv cs) => lib_impl _ cs W h hN)
  rw [hv] at HS
  have HW := Lib.hid (fun W => within_any (k : Int) 0 ((cs.length : Int) - 1) W)
  rw [show inB 0 (k : Int) ((cs.length : Int) - 1) = true by unfold inB; rw [decide_eq_true]; omega] at HW
  obtain ⟨AL, cL, rfl, hcap, hm⟩ := hL.form
  have i1 := Go.IntWalk.i64_in ((cs.length : Int) - 1) (by omega)
  have b0 := (Below.refl w.heap.size w).alloc (Nat.le_refl _) (.cells #[.slice AL cs.length cL] 26)
  have z0 := Bk.new w 26 #[.slice AL cs.length cL]
  have hL1 := hL.on b0
  have hs0 := b0.size
  clear hL hm hN
  go_enter Tryz.func56, Tryz.ntmps56
  go_wp2_with (first
    | (go_at_call 74; (with_reducible refine (HS.out _ hL1).mono ?_); rintro e w1 ⟨rfl, hb1⟩; have z1 := (z0.on hb1).cell 0)
    | (go_at_call 35; (with_reducible refine (HW.out _).mono ?_); rintro e w2 ⟨rfl, rfl⟩))
  go_ret
  exact ⟨rfl, b0.trans (hb1.mono hs0)⟩

set_option maxHeartbeats 3200000 in
set_option maxRecDepth 100000 in
/-- Occurrences of the program, where all is well. -/
theorem occs_impl (cs : List CellD) (hN : ∀ c ∈ cs, NmOk c) (lv : Value) (k : Nat) (hok : occOk cs (k : Int)) (w : World) (hL : LibV w 0 lv cs) :
    Calls Tryz.prog 34 #[.agg #[lv], .int .i64 k] w fun e w' => ∃ v qs, e = .returned (.tuple #[v, .int .i64 0]) ∧ OW w' w.heap.size v qs ∧ Hid (qs.map Prod.fst = occK cs (k : Int)) ∧ Below w.heap.size w w' := by
  obtain ⟨hv, hk, hn, ht⟩ := hok
  have hkl : k < cs.length := by omega
  have h8 : cs.length ≤ 8 := (lib_facts hv).1.2
  have HS := Lib.hid (fun W (h : LibV W 0 lv cs) => code_impl cs hN hv lv k hkl W h)
  have HC := Lib.hid (fun W (h : LibV W 0 lv cs) => count_impl cs hv lv k W hkl h)
  have HE := occK_len (cs := cs) k
  have hcnt : ¬ nOcc cs k > 200 := by omega
  have Hn := Lib.hid hn
  have HT := Lib.hid ht
  obtain ⟨AL, cL, rfl, hcap, hm⟩ := hL.form
  have b0 := (Below.refl w.heap.size w).alloc (Nat.le_refl _) (.cells #[.slice AL cs.length cL] 26)
  have z0 := Bk.new w 26 #[.slice AL cs.length cL]
  have hL1 := hL.on b0
  have hs0 := b0.size
  have hsm : Sml ((320 * (8 - (k + 1)) : Nat) : Int) ⟨0, 0, 0⟩ := ⟨by decide, by dsimp only; omega, by dsimp only; omega⟩
  have hlen : ([] : List (OcD × Value)).length + (occ cs (k + 1) ⟨k, ⟨0, 0, 0⟩, []⟩).length ≤ 1000 := by
    rw [occK_nat] at hn
    simp
    omega
  have HX := Lib.hid (show ∀ (v : Value) (W : World), LibV W 0 (.slice AL cs.length cL) cs → OW W w.heap.size v [] → w.heap.size ≤ W.heap.size → Calls Tryz.prog 58 #[.agg #[.slice AL cs.length cL], v, .agg #[.int .i64 k, .int .i64 0, .int .i64 0, .int .i64 0, .slice none 0 0]] W (OcAns cs (k + 1) ⟨k, ⟨0, 0, 0⟩, []⟩ w.heap.size v [] W) from
    fun v W h1 h2 h3 => below_any cs hv (k + 1) k ⟨0, 0, 0⟩ [] _ (.slice none 0 0) v [] w.heap.size W (Nat.lt_succ_self _) (by omega) hkl hsm (by simp; omega) h1 (World.ownsRow_nil _ _ _ _) h2 h3 hlen)
  clear hL hm hN hn ht hsm hlen HE
  go_enter Tryz.func34, Tryz.ntmps34
  go_upto_region 7 with (first
    | (go_at_call 56; (with_reducible refine (HS.out _ hL1).mono ?_); rintro e w1 ⟨rfl, hb1⟩; have z1 := (z0.on hb1).cell 0; have hL2 := hL1.on hb1)
    | (go_at_call 57; (with_reducible refine (HC.out _ hL2).mono ?_); rintro e w2 ⟨rfl, hb2⟩; have z2 := ((z0.on hb1).on hb2).cell 0; have hL3 := hL2.on hb2; have b2 := (b0.trans (hb1.mono hs0)).trans (hb2.mono (Nat.le_trans hs0 hb1.size)))
    | (go_at_call 58; (with_reducible refine (HX.out _ _ hL3 (OW.nil _ _) b2.size).mono ?_); rintro e w5 ⟨v5, qs, rfl, hO5, HQ5, hX5⟩))
  obtain ⟨A5, c5, rfl, -, -⟩ := hO5.form
  have hq5 : qs.map Prod.fst = occK cs (k : Int) := by rw [HQ5.out, occK_nat]; rfl
  have HQ := Lib.hid hq5
  have b5 : Below w.heap.size w w5 := b2.grown hX5.gro b2.size (fun g hg => by simp [Value.ownBlock] at hg)
  have hqn : qs.length = (occK cs (k : Int)).length := by rw [← hq5, List.length_map]
  have hq2 : qs.length ≤ 200 := by have := Hn.out; omega
  clear hqn hq5 HQ5 hX5 z1 z2 hL2 hL3 b2 hb1 hb2
  have HO := Lib.hid hO5
  have hs5 := b5.size
  have HA : Hid (∀ (j : Nat) (p : OcD × Value), qs[j]? = some p → transB p.1.t.o p.1.t.x p.1.t.y = true) := Lib.hid (fun j p hj => HT.out p.1 (by rw [← HQ.out]; exact List.mem_map_of_mem (List.mem_of_getElem? hj)))
  clear HT Hn
  go_wp2
  go_loopw [26] (fun iv wr => ∃ i : Nat, i ≤ qs.length ∧ iv = .int .i64 i ∧ Below w5.heap.size w5 wr) (fun iv _ => qs.length - (intOf iv).toNat)
  case atStart => exact ⟨0, Nat.zero_le _, rfl, Below.refl _ _⟩
  case round =>
    obtain ⟨wo, hwo⟩ : ∃ wo, wo = wr := ⟨_, rfl⟩
    subst hwo
    obtain ⟨i, hi, rfl, hb⟩ := hrel
    by_cases hlt : i < qs.length
    · obtain ⟨g, oc, tO, tx, ty, pa, Ap, cp, rfl, hp, hg, a0, a1, a2, a3, a4, hpa⟩ := (HO.out.on hb).elem5 hlt
      have HT := Lib.hid (fun W => trans_impl tO tx ty W)
      rw [HA.out i _ hp] at HT
      have z9 := Bk.new wo 80 #[.int .i64 oc, .int .i64 tO, .int .i64 tx, .int .i64 ty, .slice Ap pa.length cp]
      have b9 := hb.alloc hb.size (.cells #[.int .i64 oc, .int .i64 tO, .int .i64 tx, .int .i64 ty, .slice Ap pa.length cp] 80)
      obtain ⟨q0, q1, q2, q3, q4⟩ := box5o z9
      clear hpa hp
      go_wp2_with (go_at_call 59; (with_reducible refine (HT.out _).mono ?_); rintro e w6 ⟨rfl, hb6⟩)
      exact ⟨⟨i + 1, by omega, by go_num, b9.trans (hb6.mono b9.size)⟩, by simp [intOf]; omega⟩
    · obtain rfl : i = qs.length := by omega
      go_wp2
      refine bodyPost_ret (v := .tuple #[.slice A5 qs.length c5, .int .i64 0]) (by simp [results, Tryz.results34, go_sem, *]) rfl ?_
      exact ⟨_, qs, rfl, HO.out.on hb, HQ, b5.trans (hb.mono hs5)⟩

end Go.Proofs.YtgegbgkokkdmpaaGreat
