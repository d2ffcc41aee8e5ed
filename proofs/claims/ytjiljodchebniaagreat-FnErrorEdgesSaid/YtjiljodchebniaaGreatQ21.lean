/- Contracts: the closures of boundary, runs over them. Conditions: the boxes of boundary in memory. -/
import Derived.Test.YtjiljodchebniaaGreatQ11
import Derived.Deep.CutRange

namespace Go.Proofs.YtjiljodchebniaaGreat
open Go.RowKit

theorem stp_small (a b : Bool) : stp a b = 0 ∨ stp a b = 1 ∨ stp a b = -1 := by cases a <;> cases b <;> decide
/-- A round of the search for a run's end. -/
theorem runUp_one {f : Int → Int} {k R : Int} {j : Nat} (h : runUp f k (80 - j) ((j : Int) - 40) = R) (hj : j < 80) (hf : f ((j : Int) - 40) = k) : runUp f k (80 - (j + 1)) (((j + 1 : Nat) : Int) - 40) = R := by
  rw [show 80 - j = (80 - (j + 1)) + 1 by omega, runUp, if_pos hf] at h
  rw [← h]
  congr 1
  omega
theorem run_out {f : Int → Int} {k R : Int} {j : Nat} (h : runUp f k (80 - j) ((j : Int) - 40) = R) (hf : j = 80 ∨ f ((j : Int) - 40) ≠ k) : R = (j : Int) - 40 := by
  rw [← h]
  by_cases hj : j < 80
  · rw [show 80 - j = (80 - (j + 1)) + 1 by omega, runUp, if_neg]
    rcases hf with h1 | h1
    · omega
    · exact h1
  · rw [show 80 - j = 0 by omega, runUp]
/-- A round over a line. -/
theorem lineE_round {G : Gr} {vv : Bool} {a K : Int} {i n1 j : Nat} {es L : List Ed} (hi : i < 80) (hK : K = stG G vv a ((i : Int) - 40)) (hR : (j : Int) - 40 = runUp (stG G vv a) K (80 - (i + 1)) (((i + 1 : Nat) : Int) - 40)) (h : es ++ lineE G vv a (n1 + 1) ((i : Int) - 40) = L) :
    (K = 0 → es ++ lineE G vv a n1 ((j : Int) - 40) = L) ∧ (K ≠ 0 → (es ++ [edOf vv K a ((i : Int) - 40) ((j : Int) - 40)]) ++ lineE G vv a n1 ((j : Int) - 40) = L) := by
  rw [lineE, if_neg (by omega), ← hK, show (39 - ((i : Int) - 40)).toNat = 80 - (i + 1) by omega, show (i : Int) - 40 + 1 = ((i + 1 : Nat) : Int) - 40 by omega, ← hR] at h
  constructor
  · intro h0
    rw [if_pos h0, List.nil_append] at h
    exact h
  · intro h0
    rw [if_neg h0] at h
    rw [List.append_assoc]
    exact h


set_option maxHeartbeats 800000 in
set_option maxRecDepth 100000 in
/-- What a line holds at place i. -/
theorem atH_any (w W : World) (cb lb ob g : Nat) (G : Gr) (line : Int) (v : Value) (es : List Ed) (i : Nat) (hS : BS w W cb lb ob g G line v es) (hi : i ≤ 80) (hl : -40 ≤ line ∧ line ≤ 40) :
    Calls Tryz.prog 65 #[.int .i64 i, .pointer (some ⟨cb, 0, none⟩), .pointer (some ⟨lb, 0, none⟩)] W fun e w' => e = .returned (.int .i64 (stG G false line ((i : Int) - 40))) ∧ BS w w' cb lb ob g G line v es ∧ Below W.heap.size W w' := by
  have e1 := Go.IntWalk.i64_in ((i : Int) - 40) (by omega)
  have e2 := Go.IntWalk.i64_in (line - 1) (by omega)
  have HS := Lib.hid hS
  have tc := Lib.hid (Below.refl W.heap.size W).drew
  have HC := Lib.hid (show ∀ W', Below W.heap.size W W' → W'.cell? ⟨cb, 0, none⟩ = some (.pointer (some ⟨g, 0, none⟩)) ∧ W'.cell? ⟨lb, 0, none⟩ = some (.int .i64 line) from fun W' hW => ⟨(hS.cbx.on hW).cell 0, (hS.lbx.on hW).cell 0⟩)
  have HG := Lib.hid (show ∀ W', Below W.heap.size W W' → GB W' g 89 G from fun W' hW => hS.gb.on hW)
  clear hS
  go_enter Tryz.func65, Tryz.ntmps65
  go_wp2
  go_region_held3 (fun W' => W'.cell? ⟨cb, 0, none⟩ = some (.pointer (some ⟨g, 0, none⟩)) ∧ W'.cell? ⟨lb, 0, none⟩ = some (.int .i64 line))
    (first | with_reducible exact HC.out _ tc.out | with_reducible exact HC.out _ tx.out | with_reducible exact HC.out _ ty.out | with_reducible exact HC.out _ tz.out)
    (first
      | (go_at_call 57; (with_reducible refine (has_any g G ((i : Int) - 40) (line - 1) _ (HG.out _ tc.out)).mono ?_); rintro e w1 ⟨rfl, hb1⟩; have tx := Lib.hid (tc.out.trans (hb1.mono tc.out.size)))
      | (go_at_call 57; (with_reducible refine (has_any g G ((i : Int) - 40) line _ (HG.out _ tx.out)).mono ?_); rintro e w2 ⟨rfl, hb2⟩; have ty := Lib.hid (tx.out.trans (hb2.mono tx.out.size)))
      | (go_at_call 66; (with_reducible refine (step_any _ _ _).mono ?_); rintro e w3 ⟨rfl, rfl⟩; have tz := Lib.hid ty.out))
  all_goals
    go_wp2
    go_ret
    exact ⟨rfl, HS.out.on ty.out, ty.out⟩

set_option maxHeartbeats 800000 in
set_option maxRecDepth 100000 in
/-- An edge is put behind the list. -/
theorem putH_any (w W : World) (cb lb ob g : Nat) (G : Gr) (line : Int) (v : Value) (es : List Ed) (p q k : Int) (hS : BS w W cb lb ob g G line v es) (hk : k = 1 ∨ k = -1) (hlen : es.length ≤ 1000000) :
    Calls Tryz.prog 67 #[.int .i64 p, .int .i64 q, .int .i64 k, .pointer (some ⟨ob, 0, none⟩), .pointer (some ⟨lb, 0, none⟩)] W fun e w' => e = .returned (.tuple #[]) ∧ ∃ v', BS w w' cb lb ob g G line v' (es ++ [edOf false k line p q]) := by
  have HS := Lib.hid hS
  have d0 := hS.obx.cell 0
  have d1 := hS.lbx.cell 0
  simp only [List.getElem?_toArray, List.getElem?_cons_zero] at d0 d1
  have hsz := hS.bel.size
  have hlo := hS.obx.lt
  obtain ⟨A, c, rfl, -, -, -⟩ := hS.row.form
  clear hS
  go_enter Tryz.func67, Tryz.ntmps67
  rcases hk with rfl | rfl
  · go_wp2_with (at_builtin; refine wpList_append_E rfl (.tmp 12) (.tmp 18) rfl w.heap.size _ es rfl HS.out.row p line q line rfl hlen hsz ?_; intro v' w1 k1 k2 k3; obtain ⟨Av, cw, rfl, -, -, -⟩ := k1.form; have s1 := HS.out.grow k1 k2; rw [List.length_append, List.length_singleton] at s1; have S1 := Lib.hid s1; clear s1; have O1 := HS.out.obx.grown k2 (bk_not HS.out.row HS.out.obx (by decide)); have d2 : w1.cell? ⟨ob, 0, none⟩ = some (.slice A es.length c) := O1.cell 0; have f2 := O1.frozen; clear k1 k2 k3 O1)
    go_end0
    exact ⟨rfl, _, S1.out⟩
  · go_wp2_with (at_builtin; refine wpList_append_E rfl (.tmp 12) (.tmp 18) rfl w.heap.size _ es rfl HS.out.row q line p line rfl hlen hsz ?_; intro v' w1 k1 k2 k3; obtain ⟨Av, cw, rfl, -, -, -⟩ := k1.form; have s1 := HS.out.grow k1 k2; rw [List.length_append, List.length_singleton] at s1; have S1 := Lib.hid s1; clear s1; have O1 := HS.out.obx.grown k2 (bk_not HS.out.row HS.out.obx (by decide)); have d2 : w1.cell? ⟨ob, 0, none⟩ = some (.slice A es.length c) := O1.cell 0; have f2 := O1.frozen; clear k1 k2 k3 O1)
    go_end0
    exact ⟨rfl, _, S1.out⟩

set_option maxHeartbeats 1600000 in
set_option maxRecDepth 100000 in
/-- runs over a line. -/
theorem runsH_any (w W : World) (cb lb ob g : Nat) (G : Gr) (line : Int) (v : Value) (es : List Ed) (hS : BS w W cb lb ob g G line v es) (hl : -40 ≤ line ∧ line ≤ 40) (hlen : es.length ≤ 100000) :
    Calls Tryz.prog 55 #[.func (.func 65) #[] #[.pointer (some ⟨cb, 0, none⟩), .pointer (some ⟨lb, 0, none⟩)], .func (.func 67) #[] #[.pointer (some ⟨ob, 0, none⟩), .pointer (some ⟨lb, 0, none⟩)]] W fun e w' => e = .returned (.tuple #[]) ∧ ∃ v', BS w w' cb lb ob g G line v' (es ++ lineL G false line) := by
  obtain ⟨L, HL⟩ : ∃ L, Hid (L = es ++ lineL G false line) := ⟨_, Lib.hid rfl⟩
  rw [← HL.out]
  have HL0 : Hid (es ++ lineE G false line 80 (-40) = L) := Lib.hid HL.out.symm
  go_enter Tryz.func55, Tryz.ntmps55
  go_wp2
  go_loopw [4] (fun iv wr => ∃ (i n : Nat) (v' : Value) (es' : List Ed), i ≤ 80 ∧ 80 - i ≤ n ∧ n ≤ 80 ∧ iv = .int .i64 i ∧ Hid (es' ++ lineE G false line n ((i : Int) - 40) = L) ∧ es'.length ≤ 100000 + i ∧ BS w wr cb lb ob g G line v' es') (fun iv _ => 80 - (intOf iv).toNat)
  case atStart => exact ⟨0, 80, _, es, by omega, by omega, by omega, rfl, HL0, by omega, hS⟩
  case round =>
    obtain ⟨i, n, v1, es1, hi, hn, hn8, rfl, HI, hle, S⟩ := hrel
    clear hS HL0
    by_cases hlt : i < 80
    · have hlti : (i : Int) < 80 := by omega
      obtain ⟨f, Hf⟩ : ∃ f, Hid (f = stG G false line) := ⟨_, Lib.hid rfl⟩
      obtain ⟨K, HK⟩ : ∃ K, Hid (K = f ((i : Int) - 40)) := ⟨_, Lib.hid rfl⟩
      obtain ⟨R, HR⟩ : ∃ R, Hid (runUp f K (80 - (i + 1)) (((i + 1 : Nat) : Int) - 40) = R) := ⟨_, Lib.hid rfl⟩
      have hK3 : K = 0 ∨ K = 1 ∨ K = -1 := by rw [HK.out, Hf.out]; exact stp_small _ _
      have HA := Lib.hid (show ∀ (W' : World) (j : Nat), j ≤ 80 → BS w W' cb lb ob g G line v1 es1 → Calls Tryz.prog 65 #[.int .i64 j, .pointer (some ⟨cb, 0, none⟩), .pointer (some ⟨lb, 0, none⟩)] W' fun e w' => e = .returned (.int .i64 (f ((j : Int) - 40))) ∧ BS w w' cb lb ob g G line v1 es1 from fun W' j hj hS' => by rw [Hf.out]; exact (atH_any w W' cb lb ob g G line v1 es1 j hS' hj hl).mono fun _ _ h => ⟨h.1, h.2.1⟩)
      have ei := Go.IntWalk.i64_in ((i : Int) + 1) (by omega)
      go_wp2
      obtain ⟨wo, hwo⟩ : ∃ wo, wo = wr := ⟨_, rfl⟩
      subst hwo
      go_loopw [5] (fun jv wx => ∃ j : Nat, i < j ∧ j ≤ 80 ∧ jv = .int .i64 j ∧ Hid (runUp f K (80 - j) ((j : Int) - 40) = R) ∧ BS w wx cb lb ob g G line v1 es1) (fun jv _ => 80 - (intOf jv).toNat)
      case atStart => exact ⟨i + 1, by omega, by omega, by go_num, HR, S⟩
      case round =>
        obtain ⟨j, hij, hj, rfl, HJ, Sx⟩ := hrel
        clear S
        by_cases hj8 : j < 80
        · have hj8' : (j : Int) < 80 := by omega
          have ej := Go.IntWalk.i64_in ((j : Int) + 1) (by omega)
          by_cases hf : f ((j : Int) - 40) = K
          · go_wp2_with (first
              | (go_at_call 65; (with_reducible refine (HA.out _ j (by omega) Sx).mono ?_); rintro e w1 ⟨he, S1⟩; rw [hf] at he; subst he)
              | (go_at_call 65; (with_reducible refine (HA.out _ i (by omega) S1).mono ?_); rintro e w2 ⟨he, S2⟩; rw [← HK.out] at he; subst he))
            exact ⟨⟨j + 1, by omega, by omega, by go_num, Lib.hid (runUp_one HJ.out hj8 hf), S2⟩, by simp [intOf]; omega⟩
          · obtain ⟨z, Hz⟩ : ∃ z, Hid (f ((j : Int) - 40) = z) := ⟨_, Lib.hid rfl⟩
            have hzK : (z == K) = false := by rw [← Hz.out]; simpa using hf
            have hfx := Lib.hid hf
            clear hf
            go_wp2_with (first
              | (go_at_call 65; (with_reducible refine (HA.out _ j (by omega) Sx).mono ?_); rintro e w1 ⟨he, S1⟩; rw [Hz.out] at he; subst he)
              | (go_at_call 65; (with_reducible refine (HA.out _ i (by omega) S1).mono ?_); rintro e w2 ⟨he, S2⟩; rw [← HK.out] at he; subst he))
            have hRj := run_out HJ.out (.inr hfx.out)
            obtain ⟨n1, rfl⟩ : ∃ n1, n = n1 + 1 := ⟨n - 1, by omega⟩
            have HI2 := Lib.hid (lineE_round (G := G) (vv := false) (a := line) hlt (show K = stG G false line ((i : Int) - 40) by rw [HK.out, Hf.out]) (j := j) (by rw [← hRj, ← HR.out, Hf.out]) HI.out)
            have e1 := Go.IntWalk.i64_in ((i : Int) - 40) (by omega)
            have e2 := Go.IntWalk.i64_in ((j : Int) - 40) (by omega)
            by_cases hK0 : K = 0
            · have HI3 := Lib.hid (HI2.out.1 hK0)
              go_wp2_with (go_at_call 65; (with_reducible refine (HA.out _ i (by omega) S2).mono ?_); rintro e w3 ⟨he, S3⟩; rw [← HK.out, hK0] at he; subst he)
              exact ⟨⟨j, n1, _, es1, hj, by omega, by omega, rfl, HI3, by omega, S3⟩, by simp [intOf]; omega⟩
            · have HI3 := Lib.hid (HI2.out.2 hK0)
              have bK : (K == 0) = false := by simpa using hK0
              have hK1 : K = 1 ∨ K = -1 := by omega
              go_wp2_with (first
                | (go_at_call 65; (with_reducible refine (HA.out _ i (by omega) S2).mono ?_); rintro e w3 ⟨he, S3⟩; rw [← HK.out] at he; subst he)
                | (go_at_call 65; (with_reducible refine (HA.out _ i (by omega) S3).mono ?_); rintro e w4 ⟨he, S4⟩; rw [← HK.out] at he; subst he)
                | (go_at_call 67; (with_reducible refine (putH_any w _ cb lb ob g G line v1 es1 _ _ K S4 hK1 (by omega)).mono ?_); rintro e w5 ⟨rfl, v5, S5⟩))
              exact ⟨⟨j, n1, _, es1 ++ [edOf false K line ((i : Int) - 40) ((j : Int) - 40)], hj, by omega, by omega, rfl, HI3, by rw [List.length_append, List.length_singleton]; omega, S5⟩, by simp [intOf]; omega⟩
        · obtain rfl : j = 80 := by omega
          have hRj := run_out HJ.out (.inl rfl)
          obtain ⟨n1, rfl⟩ : ∃ n1, n = n1 + 1 := ⟨n - 1, by omega⟩
          have HI2 := Lib.hid (lineE_round (G := G) (vv := false) (a := line) hlt (show K = stG G false line ((i : Int) - 40) by rw [HK.out, Hf.out]) (j := 80) (by rw [← hRj, ← HR.out, Hf.out]) HI.out)
          have e1 := Go.IntWalk.i64_in ((i : Int) - 40) (by omega)
          have e2 := Go.IntWalk.i64_in (((80 : Nat) : Int) - 40) (by omega)
          by_cases hK0 : K = 0
          · have HI3 := Lib.hid (HI2.out.1 hK0)
            go_wp2_with (go_at_call 65; (with_reducible refine (HA.out _ i (by omega) Sx).mono ?_); rintro e w3 ⟨he, S3⟩; rw [← HK.out, hK0] at he; subst he)
            exact ⟨⟨80, n1, _, es1, hj, by omega, by omega, rfl, HI3, by omega, S3⟩, by simp [intOf]; omega⟩
          · have HI3 := Lib.hid (HI2.out.2 hK0)
            have bK : (K == 0) = false := by simpa using hK0
            have hK1 : K = 1 ∨ K = -1 := by omega
            go_wp2_with (first
              | (go_at_call 65; (with_reducible refine (HA.out _ i (by omega) Sx).mono ?_); rintro e w3 ⟨he, S3⟩; rw [← HK.out] at he; subst he)
              | (go_at_call 65; (with_reducible refine (HA.out _ i (by omega) S3).mono ?_); rintro e w4 ⟨he, S4⟩; rw [← HK.out] at he; subst he)
              | (go_at_call 67; (with_reducible refine (putH_any w _ cb lb ob g G line v1 es1 _ _ K S4 hK1 (by omega)).mono ?_); rintro e w5 ⟨rfl, v5, S5⟩))
            exact ⟨⟨80, n1, _, es1 ++ [edOf false K line ((i : Int) - 40) (((80 : Nat) : Int) - 40)], hj, by omega, by omega, rfl, HI3, by rw [List.length_append, List.length_singleton]; omega, S5⟩, by simp [intOf]; omega⟩
    · obtain rfl : i = 80 := by omega
      have HE : Hid (es1 = L) := Lib.hid (by
        have := HI.out
        cases n with
        | zero => simpa [lineE] using this
        | succ n => rw [lineE, if_pos (by omega), List.append_nil] at this; exact this)
      go_wp2
      go_end0
      refine ⟨rfl, v1, ?_⟩
      rw [← HE.out]
      exact S


set_option maxHeartbeats 800000 in
set_option maxRecDepth 100000 in
/-- What a line holds at place i. -/
theorem atV_any (w W : World) (cb lb ob g : Nat) (G : Gr) (line : Int) (v : Value) (es : List Ed) (i : Nat) (hS : BS w W cb lb ob g G line v es) (hi : i ≤ 80) (hl : -40 ≤ line ∧ line ≤ 40) :
    Calls Tryz.prog 68 #[.int .i64 i, .pointer (some ⟨cb, 0, none⟩), .pointer (some ⟨lb, 0, none⟩)] W fun e w' => e = .returned (.int .i64 (stG G true line ((i : Int) - 40))) ∧ BS w w' cb lb ob g G line v es ∧ Below W.heap.size W w' := by
  have e1 := Go.IntWalk.i64_in ((i : Int) - 40) (by omega)
  have e2 := Go.IntWalk.i64_in (line - 1) (by omega)
  have HS := Lib.hid hS
  have tc := Lib.hid (Below.refl W.heap.size W).drew
  have HC := Lib.hid (show ∀ W', Below W.heap.size W W' → W'.cell? ⟨cb, 0, none⟩ = some (.pointer (some ⟨g, 0, none⟩)) ∧ W'.cell? ⟨lb, 0, none⟩ = some (.int .i64 line) from fun W' hW => ⟨(hS.cbx.on hW).cell 0, (hS.lbx.on hW).cell 0⟩)
  have HG := Lib.hid (show ∀ W', Below W.heap.size W W' → GB W' g 89 G from fun W' hW => hS.gb.on hW)
  clear hS
  go_enter Tryz.func68, Tryz.ntmps68
  go_wp2
  go_region_held3 (fun W' => W'.cell? ⟨cb, 0, none⟩ = some (.pointer (some ⟨g, 0, none⟩)) ∧ W'.cell? ⟨lb, 0, none⟩ = some (.int .i64 line))
    (first | with_reducible exact HC.out _ tc.out | with_reducible exact HC.out _ tx.out | with_reducible exact HC.out _ ty.out | with_reducible exact HC.out _ tz.out)
    (first
      | (go_at_call 57; (with_reducible refine (has_any g G (line - 1) ((i : Int) - 40) _ (HG.out _ tc.out)).mono ?_); rintro e w1 ⟨rfl, hb1⟩; have tx := Lib.hid (tc.out.trans (hb1.mono tc.out.size)))
      | (go_at_call 57; (with_reducible refine (has_any g G line ((i : Int) - 40) _ (HG.out _ tx.out)).mono ?_); rintro e w2 ⟨rfl, hb2⟩; have ty := Lib.hid (tx.out.trans (hb2.mono tx.out.size)))
      | (go_at_call 66; (with_reducible refine (step_any _ _ _).mono ?_); rintro e w3 ⟨rfl, rfl⟩; have tz := Lib.hid ty.out))
  all_goals
    go_wp2
    go_ret
    exact ⟨rfl, HS.out.on ty.out, ty.out⟩

set_option maxHeartbeats 800000 in
set_option maxRecDepth 100000 in
/-- An edge is put behind the list. -/
theorem putV_any (w W : World) (cb lb ob g : Nat) (G : Gr) (line : Int) (v : Value) (es : List Ed) (p q k : Int) (hS : BS w W cb lb ob g G line v es) (hk : k = 1 ∨ k = -1) (hlen : es.length ≤ 1000000) :
    Calls Tryz.prog 69 #[.int .i64 p, .int .i64 q, .int .i64 k, .pointer (some ⟨ob, 0, none⟩), .pointer (some ⟨lb, 0, none⟩)] W fun e w' => e = .returned (.tuple #[]) ∧ ∃ v', BS w w' cb lb ob g G line v' (es ++ [edOf true k line p q]) := by
  have HS := Lib.hid hS
  have d0 := hS.obx.cell 0
  have d1 := hS.lbx.cell 0
  simp only [List.getElem?_toArray, List.getElem?_cons_zero] at d0 d1
  have hsz := hS.bel.size
  have hlo := hS.obx.lt
  obtain ⟨A, c, rfl, -, -, -⟩ := hS.row.form
  clear hS
  go_enter Tryz.func69, Tryz.ntmps69
  rcases hk with rfl | rfl
  · go_wp2_with (at_builtin; refine wpList_append_E rfl (.tmp 12) (.tmp 18) rfl w.heap.size _ es rfl HS.out.row line q line p rfl hlen hsz ?_; intro v' w1 k1 k2 k3; obtain ⟨Av, cw, rfl, -, -, -⟩ := k1.form; have s1 := HS.out.grow k1 k2; rw [List.length_append, List.length_singleton] at s1; have S1 := Lib.hid s1; clear s1; have O1 := HS.out.obx.grown k2 (bk_not HS.out.row HS.out.obx (by decide)); have d2 : w1.cell? ⟨ob, 0, none⟩ = some (.slice A es.length c) := O1.cell 0; have f2 := O1.frozen; clear k1 k2 k3 O1)
    go_end0
    exact ⟨rfl, _, S1.out⟩
  · go_wp2_with (at_builtin; refine wpList_append_E rfl (.tmp 12) (.tmp 18) rfl w.heap.size _ es rfl HS.out.row line p line q rfl hlen hsz ?_; intro v' w1 k1 k2 k3; obtain ⟨Av, cw, rfl, -, -, -⟩ := k1.form; have s1 := HS.out.grow k1 k2; rw [List.length_append, List.length_singleton] at s1; have S1 := Lib.hid s1; clear s1; have O1 := HS.out.obx.grown k2 (bk_not HS.out.row HS.out.obx (by decide)); have d2 : w1.cell? ⟨ob, 0, none⟩ = some (.slice A es.length c) := O1.cell 0; have f2 := O1.frozen; clear k1 k2 k3 O1)
    go_end0
    exact ⟨rfl, _, S1.out⟩

set_option maxHeartbeats 1600000 in
set_option maxRecDepth 100000 in
/-- runs over a line. -/
theorem runsV_any (w W : World) (cb lb ob g : Nat) (G : Gr) (line : Int) (v : Value) (es : List Ed) (hS : BS w W cb lb ob g G line v es) (hl : -40 ≤ line ∧ line ≤ 40) (hlen : es.length ≤ 100000) :
    Calls Tryz.prog 55 #[.func (.func 68) #[] #[.pointer (some ⟨cb, 0, none⟩), .pointer (some ⟨lb, 0, none⟩)], .func (.func 69) #[] #[.pointer (some ⟨ob, 0, none⟩), .pointer (some ⟨lb, 0, none⟩)]] W fun e w' => e = .returned (.tuple #[]) ∧ ∃ v', BS w w' cb lb ob g G line v' (es ++ lineL G true line) := by
  obtain ⟨L, HL⟩ : ∃ L, Hid (L = es ++ lineL G true line) := ⟨_, Lib.hid rfl⟩
  rw [← HL.out]
  have HL0 : Hid (es ++ lineE G true line 80 (-40) = L) := Lib.hid HL.out.symm
  go_enter Tryz.func55, Tryz.ntmps55
  go_wp2
  go_loopw [4] (fun iv wr => ∃ (i n : Nat) (v' : Value) (es' : List Ed), i ≤ 80 ∧ 80 - i ≤ n ∧ n ≤ 80 ∧ iv = .int .i64 i ∧ Hid (es' ++ lineE G true line n ((i : Int) - 40) = L) ∧ es'.length ≤ 100000 + i ∧ BS w wr cb lb ob g G line v' es') (fun iv _ => 80 - (intOf iv).toNat)
  case atStart => exact ⟨0, 80, _, es, by omega, by omega, by omega, rfl, HL0, by omega, hS⟩
  case round =>
    obtain ⟨i, n, v1, es1, hi, hn, hn8, rfl, HI, hle, S⟩ := hrel
    clear hS HL0
    by_cases hlt : i < 80
    · have hlti : (i : Int) < 80 := by omega
      obtain ⟨f, Hf⟩ : ∃ f, Hid (f = stG G true line) := ⟨_, Lib.hid rfl⟩
      obtain ⟨K, HK⟩ : ∃ K, Hid (K = f ((i : Int) - 40)) := ⟨_, Lib.hid rfl⟩
      obtain ⟨R, HR⟩ : ∃ R, Hid (runUp f K (80 - (i + 1)) (((i + 1 : Nat) : Int) - 40) = R) := ⟨_, Lib.hid rfl⟩
      have hK3 : K = 0 ∨ K = 1 ∨ K = -1 := by rw [HK.out, Hf.out]; exact stp_small _ _
      have HA := Lib.hid (show ∀ (W' : World) (j : Nat), j ≤ 80 → BS w W' cb lb ob g G line v1 es1 → Calls Tryz.prog 68 #[.int .i64 j, .pointer (some ⟨cb, 0, none⟩), .pointer (some ⟨lb, 0, none⟩)] W' fun e w' => e = .returned (.int .i64 (f ((j : Int) - 40))) ∧ BS w w' cb lb ob g G line v1 es1 from fun W' j hj hS' => by rw [Hf.out]; exact (atV_any w W' cb lb ob g G line v1 es1 j hS' hj hl).mono fun _ _ h => ⟨h.1, h.2.1⟩)
      have ei := Go.IntWalk.i64_in ((i : Int) + 1) (by omega)
      go_wp2
      obtain ⟨wo, hwo⟩ : ∃ wo, wo = wr := ⟨_, rfl⟩
      subst hwo
      go_loopw [5] (fun jv wx => ∃ j : Nat, i < j ∧ j ≤ 80 ∧ jv = .int .i64 j ∧ Hid (runUp f K (80 - j) ((j : Int) - 40) = R) ∧ BS w wx cb lb ob g G line v1 es1) (fun jv _ => 80 - (intOf jv).toNat)
      case atStart => exact ⟨i + 1, by omega, by omega, by go_num, HR, S⟩
      case round =>
        obtain ⟨j, hij, hj, rfl, HJ, Sx⟩ := hrel
        clear S
        by_cases hj8 : j < 80
        · have hj8' : (j : Int) < 80 := by omega
          have ej := Go.IntWalk.i64_in ((j : Int) + 1) (by omega)
          by_cases hf : f ((j : Int) - 40) = K
          · go_wp2_with (first
              | (go_at_call 68; (with_reducible refine (HA.out _ j (by omega) Sx).mono ?_); rintro e w1 ⟨he, S1⟩; rw [hf] at he; subst he)
              | (go_at_call 68; (with_reducible refine (HA.out _ i (by omega) S1).mono ?_); rintro e w2 ⟨he, S2⟩; rw [← HK.out] at he; subst he))
            exact ⟨⟨j + 1, by omega, by omega, by go_num, Lib.hid (runUp_one HJ.out hj8 hf), S2⟩, by simp [intOf]; omega⟩
          · obtain ⟨z, Hz⟩ : ∃ z, Hid (f ((j : Int) - 40) = z) := ⟨_, Lib.hid rfl⟩
            have hzK : (z == K) = false := by rw [← Hz.out]; simpa using hf
            have hfx := Lib.hid hf
            clear hf
            go_wp2_with (first
              | (go_at_call 68; (with_reducible refine (HA.out _ j (by omega) Sx).mono ?_); rintro e w1 ⟨he, S1⟩; rw [Hz.out] at he; subst he)
              | (go_at_call 68; (with_reducible refine (HA.out _ i (by omega) S1).mono ?_); rintro e w2 ⟨he, S2⟩; rw [← HK.out] at he; subst he))
            have hRj := run_out HJ.out (.inr hfx.out)
            obtain ⟨n1, rfl⟩ : ∃ n1, n = n1 + 1 := ⟨n - 1, by omega⟩
            have HI2 := Lib.hid (lineE_round (G := G) (vv := true) (a := line) hlt (show K = stG G true line ((i : Int) - 40) by rw [HK.out, Hf.out]) (j := j) (by rw [← hRj, ← HR.out, Hf.out]) HI.out)
            have e1 := Go.IntWalk.i64_in ((i : Int) - 40) (by omega)
            have e2 := Go.IntWalk.i64_in ((j : Int) - 40) (by omega)
            by_cases hK0 : K = 0
            · have HI3 := Lib.hid (HI2.out.1 hK0)
              go_wp2_with (go_at_call 68; (with_reducible refine (HA.out _ i (by omega) S2).mono ?_); rintro e w3 ⟨he, S3⟩; rw [← HK.out, hK0] at he; subst he)
              exact ⟨⟨j, n1, _, es1, hj, by omega, by omega, rfl, HI3, by omega, S3⟩, by simp [intOf]; omega⟩
            · have HI3 := Lib.hid (HI2.out.2 hK0)
              have bK : (K == 0) = false := by simpa using hK0
              have hK1 : K = 1 ∨ K = -1 := by omega
              go_wp2_with (first
                | (go_at_call 68; (with_reducible refine (HA.out _ i (by omega) S2).mono ?_); rintro e w3 ⟨he, S3⟩; rw [← HK.out] at he; subst he)
                | (go_at_call 68; (with_reducible refine (HA.out _ i (by omega) S3).mono ?_); rintro e w4 ⟨he, S4⟩; rw [← HK.out] at he; subst he)
                | (go_at_call 69; (with_reducible refine (putV_any w _ cb lb ob g G line v1 es1 _ _ K S4 hK1 (by omega)).mono ?_); rintro e w5 ⟨rfl, v5, S5⟩))
              exact ⟨⟨j, n1, _, es1 ++ [edOf true K line ((i : Int) - 40) ((j : Int) - 40)], hj, by omega, by omega, rfl, HI3, by rw [List.length_append, List.length_singleton]; omega, S5⟩, by simp [intOf]; omega⟩
        · obtain rfl : j = 80 := by omega
          have hRj := run_out HJ.out (.inl rfl)
          obtain ⟨n1, rfl⟩ : ∃ n1, n = n1 + 1 := ⟨n - 1, by omega⟩
          have HI2 := Lib.hid (lineE_round (G := G) (vv := true) (a := line) hlt (show K = stG G true line ((i : Int) - 40) by rw [HK.out, Hf.out]) (j := 80) (by rw [← hRj, ← HR.out, Hf.out]) HI.out)
          have e1 := Go.IntWalk.i64_in ((i : Int) - 40) (by omega)
          have e2 := Go.IntWalk.i64_in (((80 : Nat) : Int) - 40) (by omega)
          by_cases hK0 : K = 0
          · have HI3 := Lib.hid (HI2.out.1 hK0)
            go_wp2_with (go_at_call 68; (with_reducible refine (HA.out _ i (by omega) Sx).mono ?_); rintro e w3 ⟨he, S3⟩; rw [← HK.out, hK0] at he; subst he)
            exact ⟨⟨80, n1, _, es1, hj, by omega, by omega, rfl, HI3, by omega, S3⟩, by simp [intOf]; omega⟩
          · have HI3 := Lib.hid (HI2.out.2 hK0)
            have bK : (K == 0) = false := by simpa using hK0
            have hK1 : K = 1 ∨ K = -1 := by omega
            go_wp2_with (first
              | (go_at_call 68; (with_reducible refine (HA.out _ i (by omega) Sx).mono ?_); rintro e w3 ⟨he, S3⟩; rw [← HK.out] at he; subst he)
              | (go_at_call 68; (with_reducible refine (HA.out _ i (by omega) S3).mono ?_); rintro e w4 ⟨he, S4⟩; rw [← HK.out] at he; subst he)
              | (go_at_call 69; (with_reducible refine (putV_any w _ cb lb ob g G line v1 es1 _ _ K S4 hK1 (by omega)).mono ?_); rintro e w5 ⟨rfl, v5, S5⟩))
            exact ⟨⟨80, n1, _, es1 ++ [edOf true K line ((i : Int) - 40) (((80 : Nat) : Int) - 40)], hj, by omega, by omega, rfl, HI3, by rw [List.length_append, List.length_singleton]; omega, S5⟩, by simp [intOf]; omega⟩
    · obtain rfl : i = 80 := by omega
      have HE : Hid (es1 = L) := Lib.hid (by
        have := HI.out
        cases n with
        | zero => simpa [lineE] using this
        | succ n => rw [lineE, if_pos (by omega), List.append_nil] at this; exact this)
      go_wp2
      go_end0
      refine ⟨rfl, v1, ?_⟩
      rw [← HE.out]
      exact S

end Go.Proofs.YtjiljodchebniaaGreat
