/- The walk of the law FnText: it answers true. Conditions: the tables are laid. -/
import Derived.Test.YtcckamhokdodnaaGreatDoorDrawX
import Derived.Test.YtcckamhokdodnaaGreatDoorSameL
import Derived.Test.YtcckamhokdodnaaGreatDoorTextM
import Derived.Test.YtcckamhokdodnaaGreatDoorFmtX
import Derived.Test.YtcckamhokdodnaaGreatDoorParseK
import Derived.Test.YtcckamhokdodnaaGreatDoorTakeM
namespace Go.Proofs.YtcckamhokdodnaaGreatDoor
open Go.RowKit

theorem run_eql_T0 (w : World) : (binOp .eql 32 (.agg #[.int .i64 0, .int .i64 0, .int .i64 0]) (.agg #[.int .i64 0, .int .i64 0, .int .i64 0])).run Tryz.prog w = .ok (.bool true) w := by
  rw [run_eql_struct]
  simp [go_sem]
theorem lib_nm {cs : List CellD} (h : libB cs = true) : ∀ c ∈ cs, NmOk c := fun c hc => by
  obtain ⟨k, hk⟩ := List.getElem?_of_mem hc
  have hO := lib_facts h hk
  refine ⟨by unfold maxLen; have := hO.name; omega, fun l hl => ?_⟩
  have := name_small (label_parts (hO.l l hl)).2
  unfold maxLen
  omega

set_option maxHeartbeats 1600000 in
set_option maxRecDepth 100000 in
/-- DrawFormatLibrary. -/
theorem drawFmt_any (A : Option Addr) (n c : Nat) (w : World) (hA : ArgB w A n) (hn : n ≤ 4096) : Calls Tryz.prog 7 #[.slice A n c] w fun e w' => ∃ (cv : Value) (ps : List (CellD × Sl3)), e = .returned (.agg #[cv]) ∧ (1 ≤ ps.length ∧ ps.length ≤ 4) ∧
    (∀ p ∈ ps, Sm p.1) ∧ CW w' w.heap.size cv ps ∧ Below w.heap.size w w' := by
  have r0 := Bk.new w 26 #[.slice none 0 0]
  have b0 := (Below.refl w.heap.size w).alloc (Nat.le_refl _) (.cells #[.slice none 0 0] 26)
  have hA1 := hA.on b0
  clear hA
  go_enter Tryz.func7, Tryz.ntmps7
  go_wp2_with fail
  refine (from_any A n c _ hA1 hn).mono ?_
  rintro e w1 ⟨g, rfl, hg1, hD1, hb1⟩
  have z1 := r0.on hb1
  have hgz : w.heap.size < g := by simp at hg1; omega
  have t1 := b0.trans (hb1.mono b0.size)
  have hz1 := hb1.size
  simp at hz1
  clear r0 b0 hA1 hb1
  go_wp2_with fail
  refine (drawAny_any g _ hD1).mono ?_
  rintro e w2 ⟨cv, ps, rfl, hn4, hS, hC, hD2, hG2⟩
  obtain ⟨Ac, cc, rfl, -, -⟩ := hC.form
  have z2 := z1.grown hG2 (by simp; omega)
  have bz := t1.grown hG2 (by omega) (fun k hk => by simp only [Option.some.injEq] at hk; omega)
  have r2 := z2.cell 0
  have f2 := z2.frozen
  have CW2 := Lib.hid ((hC.kept (grownBy_put w2 w.heap.size 0 (.slice Ac ps.length cc)) (own_otherT hC.own z2 (by decide)) (fun p hp b hpb => (by obtain ⟨k, hk⟩ := List.getElem?_of_mem hp; exact (hC.each k p hk).other z2 (by decide) b hpb))).less (B' := w.heap.size) (by omega))
  clear hC z1 z2
  go_wp2
  refine bodyPost_ret (v := .agg #[.slice Ac ps.length cc]) (by simp [results, Tryz.results7, go_sem, *]) rfl ?_
  exact ⟨_, ps, rfl, hn4, hS, CW2.out, bz.setCell (p := ⟨w.heap.size, 0, none⟩) (Nat.le_refl _) _⟩

set_option maxHeartbeats 3200000 in
set_option maxRecDepth 100000 in
/-- FnText answers true. -/
theorem lawFnText (A : Option Addr) (n c : Nat) (m : Int) (w : World) (hA : ArgB w A n) (hn : n ≤ maxLen) (hE : EnvP w.heap.size w) (hm : w.cell? ⟨2, 0, none⟩ = some (.int .i64 m)) :
    Calls Tryz.prog 3 #[.slice A n c] w fun e w' => e = .returned (.bool true) ∧ Below w.heap.size w w' := by
  have h0w : 2 < w.heap.size := by have := hE.far; omega
  have HE := Lib.hid hE
  have HM := Lib.hid hm
  clear hE hm
  go_enter Tryz.func3, Tryz.ntmps3
  go_wp2_with fail
  refine (big_any A n c w hn).mono ?_
  rintro e w0 ⟨rfl, rfl⟩
  by_cases h4 : 4096 < n
  · rw [decide_eq_true h4]
    go_wp2
    go_ret
    exact ⟨rfl, Below.refl _ _⟩
  rw [decide_eq_false h4]
  go_wp2_with fail
  refine (drawFmt_any A n c _ hA (by omega)).mono ?_
  rintro e w1 ⟨cv, ps, rfl, hn4, hS, hC, hb1⟩
  obtain ⟨Ac, cc, rfl, -, -⟩ := hC.form
  obtain ⟨cs, hcs⟩ : ∃ cs, ps.map Prod.fst = cs := ⟨_, rfl⟩
  have b2 := (Below.refl w1.heap.size w1).alloc (Nat.le_refl _) (.cells #[.slice Ac ps.length cc] 26)
  have z2 := Bk.new w1 26 #[.slice Ac ps.length cc]
  have L2 := Lib.hid (show LibV _ 0 (.slice Ac ps.length cc) cs from ⟨ps, hcs, (hC.less (Nat.zero_le _)).on b2⟩)
  have HN := Lib.hid (show ∀ c ∈ cs, NmOk c from fun c hc => by
    rw [← hcs] at hc
    obtain ⟨p, hp, rfl⟩ := List.mem_map.1 hc
    exact (hS p hp).nm)
  have t2 := hb1.alloc hb1.size (.cells #[.slice Ac ps.length cc] 26)
  have q2 := z2.cell 0
  simp only [List.getElem?_toArray, List.getElem?_cons_zero] at q2
  clear hA hS hC hb1 b2 hcs hn4
  go_wp2_with fail
  refine (fmtLib_impl w.heap.size _ cs _ (HE.out.on t2).env t2.size L2.out HN.out).mono ?_
  rintro e w3 ⟨he, hb3⟩
  have z3 := z2.on hb3
  have L3 := Lib.hid (L2.out.on hb3)
  have t3 := t2.trans (hb3.mono t2.size)
  have q3 := z3.cell 0
  simp only [List.getElem?_toArray, List.getElem?_cons_zero] at q3
  clear hb3 z2 L2 t2 q2
  cases hok : libB cs with
  | false =>
    rw [hok, if_neg Bool.false_ne_true] at he
    subst he
    go_wp2_with fail
    refine (lib_spec _ cs _ L3.out HN.out).mono ?_
    rintro e w4 ⟨rfl, hb4⟩
    rw [hok]
    have t4 := t3.trans (hb4.mono t3.size)
    have ho : nameOf oriN 0 = ⟨#[114, 48]⟩ := by decide
    go_wp2_with fail
    refine (oriN_impl w.heap.size 0 _ (HE.out.on t4).env).mono ?_
    rintro e w5 ⟨he, rfl⟩
    rw [ho] at he
    subst he
    go_wp2
    go_ret
    exact ⟨rfl, t4⟩
  | true =>
    rw [hok, if_pos rfl] at he
    subst he
    go_wp2_with fail
    refine (lib_spec _ cs _ L3.out HN.out).mono ?_
    rintro e w4 ⟨rfl, hb4⟩
    rw [hok]
    have t4 := t3.trans (hb4.mono t3.size)
    have z4 := z3.on hb4
    have L4 := Lib.hid (L3.out.on hb4)
    have hsz : (txt (libT cs)).size ≤ 11200 := by rw [txt_size]; exact (lib_len hok).1
    clear hb4 z3 L3 t3 q3
    go_wp2_with fail
    refine (parse_impl takesI (txt (libT cs)) m w.heap.size _ (by omega) (HE.out.on t4) t4.size ((t4.cell (p := ⟨2, 0, none⟩) h0w).trans HM.out)).mono ?_
    rintro e w5 ⟨v, qs, a, b, d, rfl, HP, hC5, -, hb5⟩
    have hp := HP.out
    rw [parse_text hok, Prod.mk.injEq, Prod.mk.injEq, Prod.mk.injEq] at hp
    obtain ⟨hq, rfl, rfl, rfl⟩ := hp
    obtain ⟨Av, c5, rfl, -, -⟩ := hC5.form
    have t5 := t4.trans (hb5.mono t4.size)
    have b7 := ((Below.refl w5.heap.size w5).alloc (Nat.le_refl _) (.cells #[.slice Av qs.length c5] 26)).alloc (by simp) (.cells #[.int .i64 0, .int .i64 0, .int .i64 0] 32)
    have z7 := (z4.on hb5).on b7
    have L7 := Lib.hid ((L4.out.on hb5).on b7)
    have R7 := Lib.hid (show LibV _ 0 (.slice Av qs.length c5) cs from ⟨qs, hq.symm, (hC5.less (Nat.zero_le _)).on b7⟩)
    have t7 := t5.trans (b7.mono t5.size)
    have q7 := z7.cell 0
    simp only [List.getElem?_toArray, List.getElem?_cons_zero] at q7
    have hT0 := run_eql_T0
    clear HP hC5 hb5 b7 z4 L4 t4 hq
    go_wp2_with fail
    refine (same_same _ _ cs _ R7.out L7.out HN.out hok).mono ?_
    rintro e w8 ⟨rfl, hb8⟩
    go_wp2
    go_ret
    exact ⟨rfl, t7.trans (hb8.mono t7.size)⟩

end Go.Proofs.YtcckamhokdodnaaGreatDoor
