/- The walk of the law FnTextAgain: it answers true. Conditions: the tables are laid. -/
import Derived.Test.YtcckamhokdodnaaGreatDoorDrawTx
import Derived.Test.YtcckamhokdodnaaGreatDoorSameL
import Derived.Test.YtcckamhokdodnaaGreatDoorFmtX
import Derived.Test.YtcckamhokdodnaaGreatDoorParseK
import Derived.Test.YtcckamhokdodnaaGreatDoorTakeM
namespace Go.Proofs.YtcckamhokdodnaaGreatDoor
open Go.RowKit

theorem run_eql_T0 (w : World) : (binOp .eql 32 (.agg #[.int .i64 0, .int .i64 0, .int .i64 0]) (.agg #[.int .i64 0, .int .i64 0, .int .i64 0])).run Tryz.prog w = .ok (.bool true) w := by
  rw [run_eql_struct]
  simp [go_sem]
set_option maxHeartbeats 3200000 in
set_option maxRecDepth 100000 in
/-- FnTextAgain answers true. -/
theorem lawFnTextAgain (A : Option Addr) (n c : Nat) (m : Int) (w : World) (hA : ArgB w A n) (hn : n ≤ maxLen) (hE : EnvP w.heap.size w) (hm : w.cell? ⟨2, 0, none⟩ = some (.int .i64 m)) :
    Calls Tryz.prog 5 #[.slice A n c] w fun e w' => e = .returned (.bool true) ∧ Below w.heap.size w w' := by
  have h0w : 2 < w.heap.size := by have := hE.far; omega
  have HE := Lib.hid hE
  have HM := Lib.hid hm
  clear hE hm
  go_enter Tryz.func5, Tryz.ntmps5
  go_wp2_with fail
  refine (big_any A n c w hn).mono ?_
  rintro e w0 ⟨rfl, rfl⟩
  by_cases h4 : 4096 < n
  · rw [decide_eq_true h4]
    go_wp2
    go_ret
    exact ⟨rfl, Below.refl _ _⟩
  rw [decide_eq_false h4]
  go_wp2_with fail
  refine (drawPar_any A n c _ hA (by omega)).mono ?_
  rintro e w1 ⟨s, rfl, hs, t1⟩
  clear hA h4
  go_wp2_with fail
  refine (parse_impl takesI s m w.heap.size _ (by omega) (HE.out.on t1) t1.size ((t1.cell (p := ⟨2, 0, none⟩) h0w).trans HM.out)).mono ?_
  rintro e w2 ⟨v, ps, a, b, d, rfl, HP, hC, -, hb2⟩
  have t2 := t1.trans (hb2.mono t1.size)
  have hcase := parse_cases s.size (linesT s)
  rw [HP.out] at hcase
  dsimp only at hcase
  clear HP hb2 t1
  rcases hcase with ⟨ha, hz⟩ | ⟨ha, hok⟩
  · obtain rfl : ps = [] := by simpa using hz
    obtain ⟨Av, cv, rfl, -, -⟩ := hC.form
    simp only [List.length_nil]
    clear hC hz
    go_wp2
    go_ret
    exact ⟨rfl, (t2.alloc t2.size _).alloc (by have := t2.size; simp; omega) _⟩
  · rw [Prod.mk.injEq, Prod.mk.injEq] at ha
    obtain ⟨rfl, rfl, rfl⟩ := ha
    obtain ⟨Av, cv, rfl, -, -⟩ := hC.form
    obtain ⟨cs, hcs⟩ : ∃ cs, ps.map Prod.fst = cs := ⟨_, rfl⟩
    rw [hcs] at hok
    have HN := Lib.hid (lib_nm' hok)
    have b4 := ((Below.refl w2.heap.size w2).alloc (Nat.le_refl _) (.cells #[.slice Av ps.length cv] 26)).alloc (by simp) (.cells #[.int .i64 0, .int .i64 0, .int .i64 0] 32)
    have z4 := (Bk.new w2 26 #[.slice Av ps.length cv]).alloc (.cells #[.int .i64 0, .int .i64 0, .int .i64 0] 32)
    have L4 := Lib.hid (show LibV _ 0 (.slice Av ps.length cv) cs from ⟨ps, hcs, (hC.less (Nat.zero_le _)).on b4⟩)
    have t4 := t2.trans (b4.mono t2.size)
    have q4 := z4.cell 0
    simp only [List.getElem?_toArray, List.getElem?_cons_zero] at q4
    clear hC b4 t2
    go_wp2_with fail
    refine (fmtLib_impl w.heap.size _ cs _ (HE.out.on t4).env t4.size L4.out HN.out).mono ?_
    rintro e w5 ⟨he, hb5⟩
    rw [hok, if_pos rfl] at he
    subst he
    have t5 := t4.trans (hb5.mono t4.size)
    have z5 := z4.on hb5
    have L5 := Lib.hid (L4.out.on hb5)
    have hsz : (txt (libT cs)).size ≤ 11200 := by rw [txt_size]; exact (lib_len hok).1
    clear hb5 z4 L4 t4 q4
    go_wp2_with fail
    refine (parse_impl takesI (txt (libT cs)) m w.heap.size _ (by omega) (HE.out.on t5) t5.size ((t5.cell (p := ⟨2, 0, none⟩) h0w).trans HM.out)).mono ?_
    rintro e w6 ⟨v6, qs, a6, b6, d6, rfl, HP, hC6, -, hb6⟩
    have hp := HP.out
    rw [parse_text hok, Prod.mk.injEq, Prod.mk.injEq, Prod.mk.injEq] at hp
    obtain ⟨hq, rfl, rfl, rfl⟩ := hp
    obtain ⟨Aw, c6, rfl, -, -⟩ := hC6.form
    have t6 := t5.trans (hb6.mono t5.size)
    have b7 := ((Below.refl w6.heap.size w6).alloc (Nat.le_refl _) (.cells #[.slice Aw qs.length c6] 26)).alloc (by simp) (.cells #[.int .i64 0, .int .i64 0, .int .i64 0] 32)
    have z7 := (z5.on hb6).on b7
    have y7 := (Bk.new w6 26 #[.slice Aw qs.length c6]).alloc (.cells #[.int .i64 0, .int .i64 0, .int .i64 0] 32)
    have L7 := Lib.hid ((L5.out.on hb6).on b7)
    have R7 := Lib.hid (show LibV _ 0 (.slice Aw qs.length c6) cs from ⟨qs, hq.symm, (hC6.less (Nat.zero_le _)).on b7⟩)
    have t7 := t6.trans (b7.mono t6.size)
    have q7 := z7.cell 0
    simp only [List.getElem?_toArray, List.getElem?_cons_zero] at q7
    have hT0 := run_eql_T0
    clear HP hC6 hb6 b7 z5 L5 t5 t6 hq
    go_wp2_with fail
    refine (lib_impl _ cs _ L7.out HN.out).mono ?_
    rintro e w8 ⟨rfl, hb8⟩
    rw [hok]
    have t8 := t7.trans (hb8.mono t7.size)
    have L8 := Lib.hid (L7.out.on hb8)
    have R8 := Lib.hid (R7.out.on hb8)
    have q8 := (z7.on hb8).cell 0
    have r8 := (y7.on hb8).cell 0
    simp only [List.getElem?_toArray, List.getElem?_cons_zero] at q8 r8
    clear z7 y7 q7 hb8 t7 L7 R7
    go_wp2_with fail
    refine (same_same _ _ cs _ R8.out L8.out HN.out hok).mono ?_
    rintro e w9 ⟨rfl, hb9⟩
    go_wp2
    go_ret
    exact ⟨rfl, t8.trans (hb9.mono t8.size)⟩

end Go.Proofs.YtcckamhokdodnaaGreatDoor
