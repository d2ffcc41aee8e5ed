/- FnExactFormatLibrary returns true for all arguments. Condition: the tables are laid. -/
import Derived.Test.YtfgpkhifbflnbaaGreatDoorLawKit
import Derived.Test.YtfgpkhifbflnbaaGreatDoorFmtW
import Derived.Test.YtfgpkhifbflnbaaGreatDoorFmtV
import Derived.Test.YtfgpkhifbflnbaaGreatDoorLibC
namespace Go.Proofs.YtfgpkhifbflnbaaGreatDoor
open Go.RowKit

set_option linter.unusedVariables false
set_option maxHeartbeats 3200000 in
set_option maxRecDepth 100000 in
theorem lawFormatLibrary (A : Option Addr) (n c : Nat) (cs : List CellD) (w : World) (hn : n ≤ c) (hc : c ≤ maxLen) (hA : CA w A n cs) (hN : NamesOk cs) (hE : Env w.heap.size w) :
    Calls Tryz.prog 3 #[.agg #[.slice A n c]] w fun e w' => e = .returned (.bool true) ∧ Below w.heap.size w w' := by
  have b0 := (Below.refl w.heap.size w).alloc (Nat.le_refl _) (.cells #[.slice A n c] 24)
  have z0 := Bk.new w 24 #[.slice A n c]
  have HA := Lib.hid hA
  have HN := Lib.hid hN
  have HE := Lib.hid hE
  have Hn := Lib.hid (Nat.le_trans hn hc)
  clear hA hN hE hn hc
  obtain ⟨S, HS⟩ : ∃ S : ByteArray, Hid (S = if libB cs = true then ⟨(libT cs).toArray⟩ else ⟨#[]⟩) := ⟨_, Lib.hid rfl⟩
  go_enter Tryz.func3, Tryz.ntmps3
  go_wp2_with fail
  refine (szLib_any A n c cs 1048576 _ (HA.out.on b0) HN.out (by decide) (by decide) Hn.out).mono ?_
  rintro e w1 ⟨rfl, hb1⟩
  have t1 := b0.trans (hb1.mono b0.size)
  have z1 := z0.on hb1
  have q1 := z1.cell 0
  simp only [List.getElem?_toArray, List.getElem?_cons_zero] at q1
  clear b0 z0 hb1
  by_cases hT : ((libTot cs : Nat) : Int) ≤ 1048576
  case' neg =>
    rw [szV_no hT]
    go_wp2
    go_ret
    exact ⟨rfl, t1⟩
  rw [szV_yes hT]
  have hT2 : libTot cs ≤ 1048576 := by omega
  have h3 : ¬ ((1048576 : Int) - (libTot cs : Int) < 0) := by omega
  go_wp2_with fail
  refine (toLib_any A n c cs _ (HA.out.on t1) hT2).mono ?_
  rintro e w2 ⟨v2, rfl, L2, hb2⟩
  have L2 := Lib.hid (L2.less (Nat.zero_le _))
  have z2 := z1.on hb2
  have t2 := t1.trans (hb2.mono t1.size)
  clear hb2 z1 q1 t1
  go_wp2_with fail
  refine (fmtLib_spec v2 cs _ L2.out HN.out).mono ?_
  rintro e w3 ⟨rfl, hb3⟩
  rw [← HS.out]
  have z3 := z2.on hb3
  have t3 := t2.trans (hb3.mono t2.size)
  have q3 := z3.cell 0
  simp only [List.getElem?_toArray, List.getElem?_cons_zero] at q3
  clear hb3 z2 t2 L2
  go_wp2_with fail
  refine (toLib_any A n c cs _ (HA.out.on t3) hT2).mono ?_
  rintro e w4 ⟨v3, rfl, L4, hb4⟩
  obtain ⟨A3, c3, rfl, -, hm3⟩ := L4.form
  have b5 := (Below.refl w4.heap.size w4).alloc (Nat.le_refl _) (.cells #[.slice A3 cs.length c3] 29)
  have L5 := Lib.hid ((L4.less (Nat.zero_le _)).on b5)
  have y5 := Bk.new w4 29 #[.slice A3 cs.length c3]
  have z5 := (z3.on hb4).alloc (.cells #[.slice A3 cs.length c3] 29)
  have t4 := t3.trans (hb4.mono t3.size)
  have t5 := t4.alloc t4.size (.cells #[.slice A3 cs.length c3] 29)
  have q5 := y5.cell 0
  simp only [List.getElem?_toArray, List.getElem?_cons_zero] at q5
  clear hb4 z3 q3 t3 t4 L4 b5
  go_wp2_with fail
  refine (fmtLib_impl w.heap.size _ cs _ (HE.out.on t5) t5.size L5.out HN.out).mono ?_
  rintro e w6 ⟨rfl, hb6⟩
  rw [← HS.out]
  have y6 := y5.on hb6
  have z6 := z5.on hb6
  have L6 := Lib.hid (L5.out.on hb6)
  have t6 := t5.trans (hb6.mono t5.size)
  have hA6 := Lib.hid (HA.out.on t6.drew)
  have HH := Lib.hid (show ∀ W, Below w6.heap.size w6 W → W.cell? ⟨w4.heap.size, 0, none⟩ = some (.slice A3 cs.length c3) ∧ W.cell? ⟨w.heap.size, 0, none⟩ = some (.slice A n c) from fun W hW => ⟨(y6.on hW).cell 0, (z6.on hW).cell 0⟩)
  have tc := Lib.hid (Below.refl w6.heap.size w6).drew
  clear q5 hb6 y5 z5 L5 t5
  go_wp2
  go_region_held3 (fun w' => w'.cell? ⟨w4.heap.size, 0, none⟩ = some (.slice A3 cs.length c3) ∧ w'.cell? ⟨w.heap.size, 0, none⟩ = some (.slice A n c))
    (first | with_reducible exact HH.out _ tc.out | with_reducible exact HH.out _ ty.out | with_reducible exact HH.out _ tz.out)
    (first
      | (go_at_call 6; (with_reducible refine (toLib_any A n c cs _ hA6.out hT2).mono ?_); rintro e w7 ⟨v7, rfl, L7, hb7⟩; have ty := Lib.hid (tc.out.trans (hb7.mono tc.out.size)); have L7 := Lib.hid (L7.less (Nat.zero_le _)))
      | (go_at_call 8; (with_reducible refine (eqLib_same _ _ cs _ (L6.out.on ty.out) L7.out).mono ?_); rintro e w8 ⟨rfl, hb8⟩; have tz := Lib.hid (ty.out.trans (hb8.mono ty.out.size))))
  all_goals
    go_wp2
    go_ret
    exact ⟨rfl, t6.trans (tz.out.mono t6.size)⟩

end Go.Proofs.YtfgpkhifbflnbaaGreatDoor
