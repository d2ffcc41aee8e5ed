/- Contracts: MarkEnclosure and EnclosureMargin of the program and of the reference. No conditions. -/
import Derived.Test.YtcdfbfnnlfgkfaaCombine
import Derived.Test.YtcdfbfnnlfgkfaaGrow
import Derived.Test.YtcdfbfnnlfgkfaaNear
import Derived.Test.YtcdfbfnnlfgkfaaWidth1
namespace Go.Proofs.Ytcdfbfnnlfgkfaa
open Go.RowKit

set_option maxHeartbeats 400000 in
/-- markEnclosure. -/
theorem markEnc_any (v u : Value) (rs qs : List Rc) (k : Int) (w : World) (hv : RL w 0 v rs) (hu : RL w 0 u qs) (h1 : isReg rs = true) (h2 : isReg qs = true) (hk : 0 ≤ k ∧ k ≤ 1000) : Calls Try.prog 60 #[v, u, .int .i64 k] w fun e w' => ∃ z, e = .returned z ∧ RL w' w.heap.size z (encL rs qs k) ∧ Below w.heap.size w w' := by
  have hok := okAll_reg h1
  go_enter Try.func60, Try.ntmps60
  go_wp2_with fail
  refine (grow_any v rs k _ hv hok hk).mono ?_
  rintro e w1 ⟨z1, rfl, hR1, hb1⟩
  go_wp2_with fail
  refine (diff_any z1 u _ qs _ (hR1.less (Nat.zero_le _)) (hu.on hb1) (isReg_canon _) h2).mono ?_
  rintro e w2 ⟨z2, rfl, hR2, hb2⟩
  rw [enc_grown] at hR2
  go_wp2
  go_ret
  exact ⟨_, rfl, hR2.less hb1.size, hb1.trans (hb2.mono hb1.size)⟩

/-- The cells around a region that another one leaves. -/
def encV (rs qs : List Rc) (k : Int) : List Rc := if (isReg rs = true ∧ isReg qs = true) ∧ inB 0 k 8 = true then encL rs qs k else []
theorem encV_yes {rs qs : List Rc} {k : Int} (h1 : isReg rs = true) (h2 : isReg qs = true) (hk : inB 0 k 8 = true) : encV rs qs k = encL rs qs k := if_pos ⟨⟨h1, h2⟩, hk⟩
theorem encV_no1 {rs qs : List Rc} {k : Int} (h : isReg rs = false) : encV rs qs k = [] := if_neg (by rw [h]; simp)
theorem encV_no2 {rs qs : List Rc} {k : Int} (h : isReg qs = false) : encV rs qs k = [] := if_neg (by rw [h]; simp)
theorem encV_no3 {rs qs : List Rc} {k : Int} (h : inB 0 k 8 = false) : encV rs qs k = [] := if_neg (by rw [h]; simp)
theorem encV_length (rs qs : List Rc) (k : Int) : (encV rs qs k).length ≤ 1000000 := by
  unfold encV
  split
  · exact Nat.le_trans (canon_few _) (by omega)
  · simp

set_option maxHeartbeats 400000 in
theorem enc_impl (v : Value) (rs : List Rc) (u : Value) (qs : List Rc) (k : Int) (w : World) (hv : RL w 0 v rs) (hu : RL w 0 u qs) : Calls Try.prog 34 #[v, u, .int .i64 k] w fun e w' => ∃ z, e = .returned z ∧ RL w' w.heap.size z (encV rs qs k) ∧ Below w.heap.size w w' := by
  by_cases h1 : isReg rs = true
  · by_cases h2 : isReg qs = true
    · by_cases hk : inB 0 k 8 = true
      · have hk' := (inB_iff _ _ _).1 hk
        rw [encV_yes h1 h2 hk]
        go_enter Try.func34, Try.ntmps34
        go_wp2_with fail
        refine (isRegion_any v rs _ hv).mono ?_
        rintro e w1 ⟨rfl, hb1⟩
        go_wp2_with fail
        refine (isRegion_any u qs _ (hu.on hb1)).mono ?_
        rintro e w2 ⟨rfl, hb2⟩
        go_wp2_with fail
        refine (within_any _ _ _ _).mono ?_
        rintro e w3 ⟨rfl, rfl⟩
        go_wp2_with fail
        have t2 := hb1.trans (hb2.mono hb1.size)
        refine (markEnc_any v u rs qs k _ (hv.on t2) (hu.on t2) h1 h2 (by omega)).mono ?_
        rintro e w4 ⟨z, rfl, hR, hb4⟩
        go_wp2
        go_ret
        exact ⟨_, rfl, hR.less t2.size, t2.trans (hb4.mono t2.size)⟩
      · have hk' : inB 0 k 8 = false := by simpa using hk
        clear hk
        rw [encV_no3 hk']
        go_enter Try.func34, Try.ntmps34
        go_wp2_with fail
        refine (isRegion_any v rs _ hv).mono ?_
        rintro e w1 ⟨rfl, hb1⟩
        go_wp2_with fail
        refine (isRegion_any u qs _ (hu.on hb1)).mono ?_
        rintro e w2 ⟨rfl, hb2⟩
        go_wp2_with fail
        refine (within_any _ _ _ _).mono ?_
        rintro e w3 ⟨rfl, rfl⟩
        go_wp2
        go_ret
        exact ⟨_, rfl, RL.nil _ _, hb1.trans (hb2.mono hb1.size)⟩
    · have h2' : isReg qs = false := by simpa using h2
      clear h2
      rw [encV_no2 h2']
      go_enter Try.func34, Try.ntmps34
      go_wp2_with fail
      refine (isRegion_any v rs _ hv).mono ?_
      rintro e w1 ⟨rfl, hb1⟩
      go_wp2_with fail
      refine (isRegion_any u qs _ (hu.on hb1)).mono ?_
      rintro e w2 ⟨rfl, hb2⟩
      go_wp2
      go_ret
      exact ⟨_, rfl, RL.nil _ _, hb1.trans (hb2.mono hb1.size)⟩
  · have h1' : isReg rs = false := by simpa using h1
    clear h1
    rw [encV_no1 h1']
    go_enter Try.func34, Try.ntmps34
    go_wp2_with fail
    refine (isRegion_any v rs _ hv).mono ?_
    rintro e w1 ⟨rfl, hb1⟩
    go_wp2
    go_ret
    exact ⟨_, rfl, RL.nil _ _, hb1⟩

set_option maxHeartbeats 800000 in
set_option maxRecDepth 100000 in
theorem enc_spec (v : Value) (rs : List Rc) (u : Value) (qs : List Rc) (k : Int) (w : World) (hv : RL w 0 v rs) (hu : RL w 0 u qs) : Calls Try.prog 33 #[v, u, .int .i64 k] w fun e w' => ∃ z, e = .returned z ∧ RL w' w.heap.size z (encV rs qs k) ∧ Below w.heap.size w w' := by
  by_cases h1 : isReg rs = true
  · by_cases h2 : isReg qs = true
    · by_cases hk : inB 0 k 8 = true
      · have hk' := (inB_iff _ _ _).1 hk
        rw [encV_yes h1 h2 hk, ← enc_near (okAll_reg h1) hk'.1]
        have ok1 := okAll_reg h1
        have ok2 := okAll_reg h2
        clear hk
        go_enter Try.func33, Try.ntmps33
        go_wp2_with fail
        refine (l03Ok_any v rs _ hv).mono ?_
        rintro e w1 ⟨rfl, hb1⟩
        go_wp2_with fail
        refine (l03Ok_any u qs _ (hu.on hb1)).mono ?_
        rintro e w2 ⟨rfl, hb2⟩
        have t2 := hb1.trans (hb2.mono hb1.size)
        go_wp2_with fail
        refine (l03Bits_any v rs _ (hv.on t2) ok1).mono ?_
        rintro e w3 ⟨z3, rfl, hG3, hb3⟩
        have t3 := t2.trans (hb3.mono t2.size)
        go_wp2_with fail
        refine (l19Near_any z3 _ k _ (hG3.less (Nat.zero_le _)) hk').mono ?_
        rintro e w4 ⟨z4, rfl, hG4, hb4⟩
        have t4 := t3.trans (hb4.mono t3.size)
        go_wp2_with fail
        refine (l03Bits_any u qs _ (hu.on t4) ok2).mono ?_
        rintro e w5 ⟨z5, rfl, hG5, hb5⟩
        have t5 := t4.trans (hb5.mono t4.size)
        obtain ⟨g4, c4, rfl, hg4, hN⟩ := hG4.on hb5
        obtain ⟨g5, c5, rfl, hg5, hO⟩ := hG5
        have hgl := hG4
        have hg45 : g4 < w4.heap.size := by
          obtain ⟨g4', c4', e4, -, hN4⟩ := hG4
          simp only [Value.slice.injEq, Option.some.injEq, Addr.mk.injEq] at e4
          rw [e4.1.1]
          exact hN4.lt
        clear hgl hG4 hG3
        have s3 := t3.size
        have s4 := t4.size
        go_wp2
        go_loopw [9] (fun iv wr => ∃ i : Nat, i ≤ 6400 ∧ iv = .int .i64 i ∧ GB wr g4 4 (headG (diffG (nearG (cellsG rs) k) (cellsG qs)) (nearG (cellsG rs) k) i) ∧ GB wr g5 4 (cellsG qs) ∧ Below w.heap.size w wr) (fun iv _ => 6400 - (intOf iv).toNat)
        case atStart => exact ⟨0, by omega, rfl, by rw [headG_zero]; exact hN, hO, t5⟩
        case round =>
          obtain ⟨i, hi, rfl, hN1, hO1, hb⟩ := hrel
          clear hN hO t5
          by_cases hlt : i < 6400
          · have cn := hN1.cell hlt
            rw [headG_at] at cn
            have cq := hO1.cell hlt
            have hz := hN1.frozen i
            have hi0 : (0 : Int) ≤ (i : Int) ∧ (i : Int) < 6400 := by omega
            have hst := hN1.store hlt (diffG (nearG (cellsG rs) k) (cellsG qs) i)
            rw [headG_step] at hst
            have Hst := Lib.hid hst
            clear hst
            by_cases hb0 : nearG (cellsG rs) k i = true
            · have hd : diffG (nearG (cellsG rs) k) (cellsG qs) i = !cellsG qs i := by unfold diffG; rw [hb0]; rfl
              rw [hd] at Hst
              rw [hb0] at cn
              clear hd hb0
              go_wp2
              exact ⟨⟨i + 1, by omega, by go_num, Hst.out, hO1.other (show g5 ≠ g4 by omega) _, hb.setCell (by show w.heap.size ≤ g4; omega) _⟩, by simp [intOf]; omega⟩
            · have hb1 : nearG (cellsG rs) k i = false := by simpa using hb0
              have hd : diffG (nearG (cellsG rs) k) (cellsG qs) i = false := by unfold diffG; rw [hb1]; rfl
              rw [hd] at Hst
              rw [hb1] at cn
              clear hd hb0 hb1
              go_wp2
              exact ⟨⟨i + 1, by omega, by go_num, Hst.out, hO1.other (show g5 ≠ g4 by omega) _, hb.setCell (by show w.heap.size ≤ g4; omega) _⟩, by simp [intOf]; omega⟩
          · have hie : i = 6400 := by omega
            rw [hie] at hN1
            go_wp2_with fail
            refine (l03Canon_any _ _ _ ⟨g4, c4, rfl, Nat.zero_le _, hN1.same (headG_all _ _)⟩).mono ?_
            rintro e w9 ⟨z9, rfl, hR9, hb9⟩
            go_wp2
            go_ret
            exact ⟨_, rfl, hR9.less hb.size, hb.trans (hb9.mono hb.size)⟩
      · have hk' := (inB_no _ _ _).1 (by simpa using hk)
        rw [encV_no3 (by simpa using hk)]
        clear hk
        go_enter Try.func33, Try.ntmps33
        go_wp2_with fail
        refine (l03Ok_any v rs _ hv).mono ?_
        rintro e w1 ⟨rfl, hb1⟩
        go_wp2_with fail
        refine (l03Ok_any u qs _ (hu.on hb1)).mono ?_
        rintro e w2 ⟨rfl, hb2⟩
        have t2 := hb1.trans (hb2.mono hb1.size)
        by_cases hk0 : k < 0
        · go_wp2
          go_ret
          exact ⟨_, rfl, row_empty _ _ _ rfl t2.size, t2.alloc t2.size _⟩
        · have hk8 : 8 < k := by omega
          go_wp2
          go_ret
          exact ⟨_, rfl, row_empty _ _ _ rfl t2.size, t2.alloc t2.size _⟩
    · have h2' : isReg qs = false := by simpa using h2
      clear h2
      rw [encV_no2 h2']
      go_enter Try.func33, Try.ntmps33
      go_wp2_with fail
      refine (l03Ok_any v rs _ hv).mono ?_
      rintro e w1 ⟨rfl, hb1⟩
      go_wp2_with fail
      refine (l03Ok_any u qs _ (hu.on hb1)).mono ?_
      rintro e w2 ⟨rfl, hb2⟩
      have t2 := hb1.trans (hb2.mono hb1.size)
      go_wp2
      go_ret
      exact ⟨_, rfl, row_empty _ _ _ rfl t2.size, t2.alloc t2.size _⟩
  · have h1' : isReg rs = false := by simpa using h1
    clear h1
    rw [encV_no1 h1']
    go_enter Try.func33, Try.ntmps33
    go_wp2_with fail
    refine (l03Ok_any v rs _ hv).mono ?_
    rintro e w1 ⟨rfl, hb1⟩
    go_wp2
    go_ret
    exact ⟨_, rfl, row_empty _ _ _ rfl hb1.size, hb1.alloc hb1.size _⟩

end Go.Proofs.Ytcdfbfnnlfgkfaa
