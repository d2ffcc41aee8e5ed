/- The walk of the law FnEnclosure, over drawn inputs: it answers true. No conditions. -/
import Derived.Test.YtooglkdloaaomaaGrowCov
import Derived.Test.YtooglkdloaaomaaDrawF
import Derived.Test.YtooglkdloaaomaaDrawE
namespace Go.Proofs.Ytooglkdloaaomaa
open Go.RowKit

/-- The greatest margin. -/
theorem margin_iff {rs qs : List Rc} {k : Int} (hk : 0 ≤ k ∧ k ≤ 8) : encL rs qs k = [] ↔ k ≤ bestD rs qs 9 := by
  obtain ⟨m, rfl⟩ : ∃ m : Nat, k = m := ⟨k.toNat, by omega⟩
  have key : ∀ n : Nat, bestD rs qs n ≤ (n : Int) - 1 ∧ (∀ j : Nat, j < n → encL rs qs j = [] → (j : Int) ≤ bestD rs qs n) ∧ (0 ≤ bestD rs qs n → encL rs qs (bestD rs qs n) = []) := by
    intro n
    induction n with
    | zero => exact ⟨by simp [bestD], fun j hj => absurd hj (by omega), fun h => by simp [bestD] at h⟩
    | succ n ih =>
      obtain ⟨h1, h2, h3⟩ := ih
      by_cases h : encL rs qs n = []
      · rw [bestD_yes h]
        exact ⟨by omega, fun j hj _ => by omega, fun _ => h⟩
      · rw [bestD_no h]
        refine ⟨by omega, fun j hj he => ?_, h3⟩
        by_cases e : j = n
        · rw [e] at he; exact absurd he h
        · exact h2 j (by omega) he
  obtain ⟨h1, h2, h3⟩ := key 9
  constructor
  · intro h
    exact h2 m (by omega) h
  · intro h
    have h4 := h3 (by omega)
    obtain ⟨d, hd⟩ : ∃ d : Nat, bestD rs qs 9 = (m : Int) + d := ⟨(bestD rs qs 9 - m).toNat, by omega⟩
    rw [hd] at h4
    exact enc_below d h4
theorem cover_iff {rs qs : List Rc} {k : Int} : encL rs qs k = [] ↔ subG (cellsG (canon (grownG rs k))) (cellsG qs) = true := by
  rw [encL, canon_nil_iff, subG_iff]
  constructor
  · intro h i hi hc
    rw [cells_canon _ i hi] at hc
    have := h i hi
    unfold diffG at this
    rw [hc] at this
    simpa using this
  · intro h i hi
    have := h i hi
    rw [cells_canon _ i hi] at this
    unfold diffG
    revert this
    cases grownG rs k i <;> cases cellsG qs i <;> simp
theorem enc_facts {rs qs : List Rc} {k : Int} (h1 : isReg rs = true) (h2 : isReg qs = true) (hk : 0 ≤ k ∧ k ≤ 8) :
    encV rs qs k = encL rs qs k ∧ marginV rs qs = bestD rs qs 9 ∧ ((subG (cellsG (canon (grownG rs k))) (cellsG qs) = true ∧ (encL rs qs k).length = 0 ∧ k ≤ bestD rs qs 9) ∨ (subG (cellsG (canon (grownG rs k))) (cellsG qs) = false ∧ (encL rs qs k).length ≠ 0 ∧ ¬ k ≤ bestD rs qs 9)) := by
  refine ⟨encV_yes h1 h2 ((inB_iff _ _ _).2 hk), marginV_yes h1 h2, ?_⟩
  by_cases h : encL rs qs k = []
  · exact .inl ⟨cover_iff.1 h, by rw [h]; rfl, (margin_iff hk).1 h⟩
  · refine .inr ⟨?_, fun e => h (List.length_eq_zero_iff.1 e), fun e => h ((margin_iff hk).2 e)⟩
    rw [Bool.eq_false_iff]
    exact fun e => h (cover_iff.2 e)
theorem enc_len (rs qs : List Rc) (k : Int) : (encL rs qs k).length ≤ 6480 := canon_length _

set_option maxHeartbeats 3200000 in
set_option maxRecDepth 100000 in
/-- FnEnclosure answers true. -/
theorem lawFnEnc (A : Option Addr) (n c : Nat) (w : World) (hA : ArgB w A n) (hm : n ≤ maxLen) : Calls Try.prog 5 #[.slice A n c] w fun e w' => e = .returned (.bool true) ∧ Below w.heap.size w w' := by
  go_enter Try.func5, Try.ntmps5
  go_wp2_with fail
  refine (big_any A n c w hm).mono ?_
  rintro e w0 ⟨rfl, rfl⟩
  by_cases h4 : 4096 < n
  · rw [decide_eq_true h4]
    go_wp2
    go_ret
    exact ⟨rfl, Below.refl _ _⟩
  · rw [decide_eq_false h4]
    go_wp2_with fail
    refine (drawEnc_any A n c _ hA (by omega)).mono ?_
    rintro e w1 ⟨v, u, rs, qs, d, rfl, hR, hl, hQ, hl2, hd, hb1⟩
    clear hA h4
    replace hR := hR.less (Nat.zero_le _)
    replace hQ := hQ.less (Nat.zero_le _)
    obtain ⟨A1, c1, rfl, hc1, hm1, -⟩ := hR.form
    obtain ⟨A2, c2, rfl, hc2, hm2, -⟩ := hQ.form
    go_wp2_with fail
    refine (enc_impl _ rs _ qs d _ hR hQ).mono ?_
    rintro e w2 ⟨z, rfl, hM, hb2⟩
    replace hM := hM.less (Nat.zero_le _)
    have hR2 := hR.on hb2
    have hQ2 := hQ.on hb2
    replace hb2 := hb1.trans (hb2.mono hb1.size)
    clear hR hQ hb1
    have hno : isReg rs = false ∨ isReg qs = false → encV rs qs d = [] ∧ marginV rs qs = -1 := by
      rintro (h | h)
      · exact ⟨encV_no1 h, marginV_no1 h⟩
      · exact ⟨encV_no2 h, marginV_no2 h⟩
    have hbad : ¬ (0 ≤ d ∧ d ≤ 8) → encV rs qs d = [] := fun h => encV_no3 (by rw [inB_no]; exact h)
    have hgood := fun (h1 : isReg rs = true) (h2 : isReg qs = true) (hk : 0 ≤ d ∧ d ≤ 8) => enc_facts h1 h2 hk
    have hml := encV_length rs qs d
    obtain ⟨A3, c3, rfl, hc3, hm3, -⟩ := hM.form
    have Hno := Lib.hid hno
    have Hbad := Lib.hid hbad
    have Hgood := Lib.hid hgood
    clear hno hbad hgood
    by_cases h1 : isReg rs = true
    · go_wp2_with fail
      refine (isReg_spec _ rs _ hR2).mono ?_
      rintro e w3 ⟨rfl, hb3⟩
      rw [h1]
      have hR3 := hR2.on hb3
      have hQ3 := hQ2.on hb3
      have hM3 := hM.on hb3
      replace hb3 := hb2.trans (hb3.mono hb2.size)
      clear hR2 hQ2 hM hb2
      by_cases h2 : isReg qs = true
      · go_wp2_with fail
        refine (isReg_spec _ qs _ hQ3).mono ?_
        rintro e w4 ⟨rfl, hb4⟩
        rw [h2]
        have hR4 := hR3.on hb4
        have hQ4 := hQ3.on hb4
        have hM4 := hM3.on hb4
        replace hb4 := hb3.trans (hb4.mono hb3.size)
        clear hR3 hQ3 hM3 hb3
        by_cases hk : 0 ≤ d ∧ d ≤ 8
        · obtain ⟨e1, e2, e3⟩ := Hgood.out h1 h2 hk
          have hreg := isReg_canon (grownG rs d)
          have hel := enc_len rs qs d
          rw [e1] at hM4
          obtain ⟨k1, k2⟩ := hk
          have k1' : ¬ d < 0 := by omega
          have k2' : ¬ d > 8 := by omega
          have E1 := Lib.hid e1
          have H1 := Lib.hid h1
          have H2 := Lib.hid h2
          rw [e1]
          clear e1 h1 h2
          go_wp2_with fail
          refine (margin_impl _ rs _ qs _ hR4 hQ4).mono ?_
          rintro e w5 ⟨rfl, hb5⟩
          rw [e2]
          have hR5 := hR4.on hb5
          have hQ5 := hQ4.on hb5
          replace hb5 := hb4.trans (hb5.mono hb4.size)
          clear hR4 hQ4 hM4 hb4 e2
          go_wp2_with fail
          refine (grow_impl _ rs d _ hR5 H1.out (by omega)).mono ?_
          rintro e w6 ⟨z6, rfl, hZ, hb6⟩
          have hQ6 := hQ5.on hb6
          replace hb6 := hb5.trans (hb6.mono hb5.size)
          replace hZ := hZ.less (Nat.zero_le _)
          clear hR5 hQ5 hb5
          go_wp2_with fail
          refine (covers_impl _ z6 qs _ _ hQ6 hZ).mono ?_
          rintro e w7 ⟨rfl, hb7⟩
          replace hb7 := hb6.trans (hb7.mono hb6.size)
          rw [H2.out, hreg, Bool.true_and, Bool.true_and]
          rcases e3 with ⟨q1, q2, q3⟩ | ⟨q1, q2, q3⟩
          · rw [q1]
            have q2b : ((((encL rs qs d).length : Nat) : Int) == 0) = true := by rw [q2]; rfl
            clear q2
            go_wp2
            go_ret
            exact ⟨rfl, hb7⟩
          · rw [q1]
            have q2b : ((((encL rs qs d).length : Nat) : Int) == 0) = false := by simpa using q2
            clear q2
            go_wp2
            go_ret
            exact ⟨ret_bool (by simp; omega), hb7⟩
        · have e := Hbad.out hk
          rw [e]
          by_cases k1 : d < 0
          · go_wp2
            go_ret
            exact ⟨rfl, hb4⟩
          · have k2 : d > 8 := by omega
            go_wp2
            go_ret
            exact ⟨rfl, hb4⟩
      · have h2' : isReg qs = false := by simpa using h2
        obtain ⟨e1, e2⟩ := Hno.out (.inr h2')
        rw [e1]
        have E2 := Lib.hid e2
        clear e1 e2
        go_wp2_with fail
        refine (isReg_spec _ qs _ hQ3).mono ?_
        rintro e w4 ⟨rfl, hb4⟩
        rw [h2']
        have hR4 := hR3.on hb4
        have hQ4 := hQ3.on hb4
        replace hb4 := hb3.trans (hb4.mono hb3.size)
        clear hR3 hQ3 hM3 hb3 h2 h2'
        go_wp2_with fail
        refine (margin_impl _ rs _ qs _ hR4 hQ4).mono ?_
        rintro e w5 ⟨rfl, hb5⟩
        rw [E2.out]
        go_wp2
        go_ret
        exact ⟨rfl, hb4.trans (hb5.mono hb4.size)⟩
    · have h1' : isReg rs = false := by simpa using h1
      obtain ⟨e1, e2⟩ := Hno.out (.inl h1')
      rw [e1]
      have E2 := Lib.hid e2
      clear e1 e2
      go_wp2_with fail
      refine (isReg_spec _ rs _ hR2).mono ?_
      rintro e w3 ⟨rfl, hb3⟩
      rw [h1']
      have hR3 := hR2.on hb3
      have hQ3 := hQ2.on hb3
      replace hb3 := hb2.trans (hb3.mono hb2.size)
      clear hR2 hQ2 hM hb2 h1 h1'
      go_wp2_with fail
      refine (margin_impl _ rs _ qs _ hR3 hQ3).mono ?_
      rintro e w5 ⟨rfl, hb5⟩
      rw [E2.out]
      go_wp2
      go_ret
      exact ⟨rfl, hb3.trans (hb5.mono hb3.size)⟩

end Go.Proofs.Ytooglkdloaaomaa
