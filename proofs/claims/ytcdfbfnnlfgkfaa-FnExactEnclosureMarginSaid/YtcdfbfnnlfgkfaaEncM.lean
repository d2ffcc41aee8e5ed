/- Contracts: EnclosureMargin of the program and of the reference. No conditions. -/
import Derived.Test.YtcdfbfnnlfgkfaaEnc
namespace Go.Proofs.Ytcdfbfnnlfgkfaa
open Go.RowKit

/-- The greatest margin below n within which nothing is left, or -1. -/
def bestD (rs qs : List Rc) : Nat → Int
  | 0 => -1
  | n + 1 => if encL rs qs n = [] then n else bestD rs qs n
theorem bestD_yes {rs qs : List Rc} {n : Nat} (h : encL rs qs n = []) : bestD rs qs (n + 1) = n := if_pos h
theorem bestD_no {rs qs : List Rc} {n : Nat} (h : ¬ encL rs qs n = []) : bestD rs qs (n + 1) = bestD rs qs n := if_neg h
theorem bestD_up {rs qs : List Rc} {k : Nat} (h : ¬ encL rs qs k = []) : ∀ d, bestD rs qs (k + d) = bestD rs qs k
  | 0 => rfl
  | d + 1 => by
    rw [← Nat.add_assoc, bestD_no, bestD_up h d]
    intro hc
    apply h
    have e : ((k + d : Nat) : Int) = (k : Int) + (d : Int) := by omega
    rw [e] at hc
    exact enc_below d hc
/-- The margin. -/
def marginV (rs qs : List Rc) : Int := if isReg rs = true ∧ isReg qs = true then bestD rs qs 9 else -1
theorem marginV_yes {rs qs : List Rc} (h1 : isReg rs = true) (h2 : isReg qs = true) : marginV rs qs = bestD rs qs 9 := if_pos ⟨h1, h2⟩
theorem marginV_no1 {rs qs : List Rc} (h : isReg rs = false) : marginV rs qs = -1 := if_neg (by rw [h]; simp)
theorem marginV_no2 {rs qs : List Rc} (h : isReg qs = false) : marginV rs qs = -1 := if_neg (by rw [h]; simp)
theorem ret_intE {a b : Int} (h : a = b) : Ending.returned (.int .i64 a) = .returned (.int .i64 b) := by rw [h]
/-- Where the reference stops. -/
theorem bestD_stop {rs qs : List Rc} {k : Nat} (hk : k ≤ 9) (hall : ∀ j : Nat, j < k → encL rs qs j = []) (hend : k = 9 ∨ ¬ encL rs qs k = []) : bestD rs qs 9 = (k : Int) - 1 := by
  have e : bestD rs qs 9 = bestD rs qs k := by
    rcases hend with h | h
    · rw [h]
    · have := bestD_up h (9 - k)
      rw [show k + (9 - k) = 9 by omega] at this
      exact this
  rw [e]
  cases k with
  | zero => rfl
  | succ k => rw [bestD_yes (hall k (Nat.lt_succ_self k))]; omega

set_option maxHeartbeats 400000 in
set_option maxRecDepth 100000 in
theorem margin_impl (v : Value) (rs : List Rc) (u : Value) (qs : List Rc) (w : World) (hv : RL w 0 v rs) (hu : RL w 0 u qs) : Calls Try.prog 30 #[v, u] w fun e w' => e = .returned (.int .i64 (marginV rs qs)) ∧ Below w.heap.size w w' := by
  by_cases h1 : isReg rs = true
  · by_cases h2 : isReg qs = true
    · rw [marginV_yes h1 h2]
      have hfin : bestD rs qs 9 = bestD rs qs 9 := rfl
      go_enter Try.func30, Try.ntmps30
      go_wp2_with fail
      refine (isRegion_any v rs _ hv).mono ?_
      rintro e w1 ⟨rfl, hb1⟩
      rw [h1]
      go_wp2_with fail
      refine (isRegion_any u qs _ (hu.on hb1)).mono ?_
      rintro e w2 ⟨rfl, hb2⟩
      rw [h2]
      have t2 := hb1.trans (hb2.mono hb1.size)
      go_wp2
      go_loopw [5] (fun mv wr => ∃ n : Nat, n ≤ 9 ∧ mv = .int .i64 ((n : Int) - 1) ∧ Hid (bestD rs qs 9 = bestD rs qs n) ∧ Below w.heap.size w wr) (fun mv _ => (intOf mv + 1).toNat)
      case atStart => exact ⟨9, by omega, rfl, Lib.hid rfl, t2⟩
      case round =>
        obtain ⟨n, hn, rfl, hm, hb⟩ := hrel
        clear t2
        by_cases h0 : n = 0
        · subst h0
          go_wp2
          go_ret
          exact ⟨ret_intE hm.out.symm, hb⟩
        · obtain ⟨m, rfl⟩ : ∃ m, n = m + 1 := ⟨n - 1, by omega⟩
          have em : ((m + 1 : Nat) : Int) - 1 = (m : Int) := by omega
          have hm0 : (0 : Int) ≤ (m : Int) := by omega
          rw [em]
          by_cases he : encL rs qs (m : Int) = []
          · have hl : ((encL rs qs (m : Int)).length : Int) = 0 := by rw [he]; rfl
            have Hf := Lib.hid (hm.out.trans (bestD_yes he))
            clear he
            go_wp2_with fail
            refine (markEnc_any v u rs qs m _ (hv.on hb) (hu.on hb) h1 h2 (by omega)).mono ?_
            rintro e w3 ⟨z, rfl, hR, hb3⟩
            obtain ⟨A, c, rfl, -, -, -⟩ := hR.form
            go_wp2
            go_ret
            exact ⟨ret_intE Hf.out.symm, hb.trans (hb3.mono hb.size)⟩
          · have hl : (0 : Int) < ((encL rs qs (m : Int)).length : Int) := by
              cases hq : encL rs qs (m : Int) with
              | nil => exact absurd hq he
              | cons a l => simp only [List.length_cons]; omega
            have Hf := Lib.hid (hm.out.trans (bestD_no he))
            clear he
            go_wp2_with fail
            refine (markEnc_any v u rs qs m _ (hv.on hb) (hu.on hb) h1 h2 (by omega)).mono ?_
            rintro e w3 ⟨z, rfl, hR, hb3⟩
            obtain ⟨A, c, rfl, -, -, -⟩ := hR.form
            go_wp2
            exact ⟨⟨m, by omega, rfl, Hf, hb.trans (hb3.mono hb.size)⟩, by simp [intOf]⟩
    · have h2' : isReg qs = false := by simpa using h2
      clear h2
      rw [marginV_no2 h2']
      go_enter Try.func30, Try.ntmps30
      go_wp2_with fail
      refine (isRegion_any v rs _ hv).mono ?_
      rintro e w1 ⟨rfl, hb1⟩
      go_wp2_with fail
      refine (isRegion_any u qs _ (hu.on hb1)).mono ?_
      rintro e w2 ⟨rfl, hb2⟩
      go_wp2
      go_ret
      exact ⟨rfl, hb1.trans (hb2.mono hb1.size)⟩
  · have h1' : isReg rs = false := by simpa using h1
    clear h1
    rw [marginV_no1 h1']
    go_enter Try.func30, Try.ntmps30
    go_wp2_with fail
    refine (isRegion_any v rs _ hv).mono ?_
    rintro e w1 ⟨rfl, hb1⟩
    go_wp2
    go_ret
    exact ⟨rfl, hb1⟩

set_option maxHeartbeats 400000 in
set_option maxRecDepth 100000 in
theorem margin_spec (v : Value) (rs : List Rc) (u : Value) (qs : List Rc) (w : World) (hv : RL w 0 v rs) (hu : RL w 0 u qs) : Calls Try.prog 29 #[v, u] w fun e w' => e = .returned (.int .i64 (marginV rs qs)) ∧ Below w.heap.size w w' := by
  by_cases h1 : isReg rs = true
  · by_cases h2 : isReg qs = true
    · rw [marginV_yes h1 h2]
      go_enter Try.func29, Try.ntmps29
      go_wp2_with fail
      refine (l03Ok_any v rs _ hv).mono ?_
      rintro e w1 ⟨rfl, hb1⟩
      rw [h1]
      go_wp2_with fail
      refine (l03Ok_any u qs _ (hu.on hb1)).mono ?_
      rintro e w2 ⟨rfl, hb2⟩
      rw [h2]
      have t2 := hb1.trans (hb2.mono hb1.size)
      go_wp2
      go_loopw [5, 6] (fun bv kv wr => ∃ k : Nat, k ≤ 9 ∧ kv = .int .i64 k ∧ bv = .int .i64 ((k : Int) - 1) ∧ Hid (∀ j : Nat, j < k → encL rs qs j = []) ∧ Below w.heap.size w wr) (fun _ kv _ => 9 - (intOf kv).toNat)
      case atStart => exact ⟨0, by omega, rfl, rfl, Lib.hid (fun j h => absurd h (by omega)), t2⟩
      case round =>
        obtain ⟨k, hk, rfl, rfl, hall, hb⟩ := hrel
        clear t2
        by_cases hk9 : k = 9
        · subst hk9
          have Hf := Lib.hid (bestD_stop (Nat.le_refl 9) hall.out (.inl rfl))
          go_wp2
          go_ret
          exact ⟨ret_intE Hf.out.symm, hb⟩
        · have hle : (k : Int) ≤ 8 := by omega
          have hin : inB 0 k 8 = true := (inB_iff _ _ _).2 (by omega)
          have hV := encV_yes (k := (k : Int)) h1 h2 hin
          have HV := Lib.hid hV
          clear hV
          by_cases he : encL rs qs (k : Int) = []
          · have hl : ((encV rs qs (k : Int)).length : Int) = 0 := by rw [HV.out, he]; rfl
            have Hf := Lib.hid (show ∀ j : Nat, j < k + 1 → encL rs qs j = [] from fun j hj => by
              by_cases e : j = k
              · subst e; exact he
              · exact hall.out j (by omega))
            clear he
            go_wp2_with fail
            refine (enc_spec v rs u qs k _ (hv.on hb) (hu.on hb)).mono ?_
            rintro e w3 ⟨z, rfl, hR, hb3⟩
            obtain ⟨A, c, rfl, -, -, -⟩ := hR.form
            go_wp2
            exact ⟨⟨k + 1, by omega, by go_num, by go_num, Hf, hb.trans (hb3.mono hb.size)⟩, by simp [intOf]; omega⟩
          · have hl : ¬ ((encV rs qs (k : Int)).length : Int) = 0 := by
              rw [HV.out]
              cases hq : encL rs qs (k : Int) with
              | nil => exact absurd hq he
              | cons a l => simp only [List.length_cons]; omega
            have Hf := Lib.hid (bestD_stop hk hall.out (.inr he))
            clear he
            go_wp2_with fail
            refine (enc_spec v rs u qs k _ (hv.on hb) (hu.on hb)).mono ?_
            rintro e w3 ⟨z, rfl, hR, hb3⟩
            obtain ⟨A, c, rfl, -, -, -⟩ := hR.form
            go_wp2
            go_ret
            exact ⟨ret_intE Hf.out.symm, hb.trans (hb3.mono hb.size)⟩
    · have h2' : isReg qs = false := by simpa using h2
      clear h2
      rw [marginV_no2 h2']
      go_enter Try.func29, Try.ntmps29
      go_wp2_with fail
      refine (l03Ok_any v rs _ hv).mono ?_
      rintro e w1 ⟨rfl, hb1⟩
      go_wp2_with fail
      refine (l03Ok_any u qs _ (hu.on hb1)).mono ?_
      rintro e w2 ⟨rfl, hb2⟩
      go_wp2
      go_ret
      exact ⟨rfl, hb1.trans (hb2.mono hb1.size)⟩
  · have h1' : isReg rs = false := by simpa using h1
    clear h1
    rw [marginV_no1 h1']
    go_enter Try.func29, Try.ntmps29
    go_wp2_with fail
    refine (l03Ok_any v rs _ hv).mono ?_
    rintro e w1 ⟨rfl, hb1⟩
    go_wp2
    go_ret
    exact ⟨rfl, hb1⟩

end Go.Proofs.Ytcdfbfnnlfgkfaa
