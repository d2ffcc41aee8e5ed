/- Contracts: l06Line, the reference's FacingEdges. Conditions: a set of cells in memory, a region in memory. -/
import Derived.Test.YtjiljodchebniaaGreatQ20
import Derived.Test.YtjiljodchebniaaGreatQ21

namespace Go.Proofs.YtjiljodchebniaaGreat
open Go.RowKit

theorem pair_any (v : Bool) (u : Value) (G : Gr) (a p q : Int) (w : World) (hG : GS w 0 u G) (h1 : stG G (!v) p a = 1) (h2 : stG G (!v) q a = -1) (hp : -40 ≤ p ∧ p ≤ 40) (hq : -40 ≤ q ∧ q ≤ 40) (ha : -40 ≤ a ∧ a ≤ 40) :
    Calls Tryz.prog 76 #[u, .int .i64 p, .int .i64 q, .int .i64 a, .bool (!v), .bool true] w fun e w' => ∃ x0 x1 x2 x3 x4 x5 x6 x7 xd, e = .returned (.agg #[.int .i64 x0, .int .i64 x1, .int .i64 x2, .int .i64 x3, .int .i64 x4, .int .i64 x5, .int .i64 x6, .int .i64 x7, .int .i64 xd]) ∧ pairOf G v a p q = ⟨⟨x0, x1, x2, x3⟩, ⟨x4, x5, x6, x7⟩⟩ ∧ xd = q - p ∧ Below w.heap.size w w' := by
  cases v
  · exact pairH_any u G a p q w hG h1 h2 hp hq ha
  · exact pairV_any u G a p q w hG h1 h2 hp hq ha

/-! A round over a line. -/
theorem lineP_round {G : Gr} {v : Bool} {a d : Int} {f : List EP → EP → List EP} {i n1 j : Nat} {es L : List EP} (hi : i < 80) (hR : runUp (knG G v a) (knG G v a ((i : Int) - 40)) (80 - (i + 1)) (((i + 1 : Nat) : Int) - 40) = (j : Int) - 40) (h : List.foldl f es (lineP G v a d (n1 + 1) ((i : Int) - 40)) = L) :
    (¬ (lnG G v a ((i : Int) - 40) = true ∧ (j : Int) - i < d) → List.foldl f es (lineP G v a d n1 ((j : Int) - 40)) = L) ∧ (lnG G v a ((i : Int) - 40) = true ∧ (j : Int) - i < d → List.foldl f (f es (pairOf G v a ((i : Int) - 40) ((j : Int) - 40))) (lineP G v a d n1 ((j : Int) - 40)) = L) := by
  rw [lineP, if_neg (by omega), show (39 - ((i : Int) - 40)).toNat = 80 - (i + 1) by omega, show (i : Int) - 40 + 1 = ((i + 1 : Nat) : Int) - 40 by omega, hR] at h
  have e : knG G v a ((i : Int) - 40) ≠ 0 ↔ lnG G v a ((i : Int) - 40) = true := by
    rw [Ne, knG_zero]
    cases lnG G v a ((i : Int) - 40) <;> simp
  constructor
  · intro h0
    rw [if_neg (by rw [e]; rintro ⟨h1, h2⟩; exact h0 ⟨h1, by omega⟩), List.nil_append] at h
    exact h
  · intro h0
    rw [if_pos ⟨e.2 h0.1, by omega⟩] at h
    exact h
theorem kn_in {G : Gr} {v : Bool} {a : Int} {b : Bool} {R : Int} {j : Nat} (h : runUp (knG G v a) (if b = true then 1 else 0) (80 - j) ((j : Int) - 40) = R) (hj : j < 80) (hf : lnG G v a ((j : Int) - 40) = b) : runUp (knG G v a) (if b = true then 1 else 0) (80 - (j + 1)) (((j + 1 : Nat) : Int) - 40) = R := by
  refine runUp_one h hj ?_
  unfold knG
  rw [hf]
theorem kn_out {G : Gr} {v : Bool} {a : Int} {b : Bool} {R : Int} {j : Nat} (h : runUp (knG G v a) (if b = true then 1 else 0) (80 - j) ((j : Int) - 40) = R) (hf : j = 80 ∨ lnG G v a ((j : Int) - 40) = !b) : R = (j : Int) - 40 := by
  refine run_out h ?_
  rcases hf with hf | hf
  · exact .inl hf
  · right
    unfold knG
    rw [hf]
    cases b <;> decide
/-- What a run from i to j is. -/
theorem run_short {G : Gr} {v : Bool} {a d : Int} {i j : Nat} (hij : i < j) (hj : j ≤ 80) (hR : runUp (knG G v a) (knG G v a ((i : Int) - 40)) (80 - (i + 1)) (((i + 1 : Nat) : Int) - 40) = (j : Int) - 40) (hs : lnG G v a ((i : Int) - 41) = false ∨ lnG G v a ((i : Int) - 40) = false) :
    (lnG G v a ((j : Int) - 41) = false ∨ lnG G v a ((j : Int) - 40) = false) ∧ (lnG G v a ((i : Int) - 40) = true → (j : Int) - i < d → ShortC G v a ((i : Int) - 40) ((j : Int) - 40) d) := by
  have hall : ∀ u : Int, (i : Int) - 40 ≤ u → u < (j : Int) - 40 → knG G v a u = knG G v a ((i : Int) - 40) := fun u c1 c2 => by
    by_cases e : u = (i : Int) - 40
    · rw [e]
    · exact runUp_all _ _ (80 - (i + 1)) (((i + 1 : Nat) : Int) - 40) u (by omega) (by rw [hR]; exact c2)
  have hend : knG G v a ((j : Int) - 40) ≠ knG G v a ((i : Int) - 40) ∨ j = 80 := by
    rcases runUp_or (knG G v a) (knG G v a ((i : Int) - 40)) (80 - (i + 1)) (((i + 1 : Nat) : Int) - 40) with h | h
    · left; rw [hR] at h; exact h
    · right; rw [hR] at h; omega
  have hoff : j = 80 → lnG G v a ((j : Int) - 40) = false := fun e => by
    cases h : lnG G v a ((j : Int) - 40) with
    | false => rfl
    | true => have := (lnG_out h).1; omega
  have hjf : lnG G v a ((i : Int) - 40) = true → lnG G v a ((j : Int) - 40) = false := fun h => by
    rcases hend with e | e
    · rw [knG_one.2 h] at e
      cases h2 : lnG G v a ((j : Int) - 40) with
      | false => rfl
      | true => exact absurd (knG_one.2 h2) e
    · exact hoff e
  constructor
  · cases h : lnG G v a ((i : Int) - 40) with
    | true => exact .inr (hjf h)
    | false =>
      left
      have := hall ((j : Int) - 41) (by omega) (by omega)
      rw [knG_zero.2 h] at this
      exact knG_zero.1 this
  · intro h h2
    refine ⟨by omega, by omega, fun t c1 c2 => knG_one.1 ((hall t c1 c2).trans (knG_one.2 h)), ?_, hjf h⟩
    rcases hs with e | e
    · rw [show (i : Int) - 40 - 1 = (i : Int) - 41 by omega]; exact e
    · rw [h] at e; cases e

set_option maxHeartbeats 3200000 in
set_option maxRecDepth 100000 in
/-- l06Line. -/
theorem line_P (u : Value) (G : Gr) (v : Bool) (g n c : Nat) (es : List EP) (a d : Int) (B : Nat) (w : World) (hG : GS w 0 u G) (hv : PEL w B (.slice (some ⟨g, 0, none⟩) n c) es) (hB : B ≤ w.heap.size) (hl : es.length ≤ 50000) (ha : -40 ≤ a ∧ a ≤ 39) (hd : 1 ≤ d ∧ d ≤ 80) :
    Calls Tryz.prog 35 #[u, .slice (some ⟨g, 0, none⟩) n c, .int .i64 a, .int .i64 d, .bool (!v), .bool true] w fun e w' => ∃ g' n' c', e = .returned (.slice (some ⟨g', 0, none⟩) n' c') ∧ PEL w' B (.slice (some ⟨g', 0, none⟩) n' c') (putPs es (linesP G v a d)) ∧ Below w.heap.size w w' := by
  obtain ⟨L, HL⟩ : ∃ L, Hid (L = putPs es (linesP G v a d)) := ⟨_, Lib.hid rfl⟩
  rw [← HL.out]
  have HL0 : Hid (List.foldl putP es (lineP G v a d 80 (-40)) = L) := Lib.hid HL.out.symm
  have HG := Lib.hid (show ∀ W, Below w.heap.size w W → GS W 0 u G from fun W hW => hG.on hW)
  have HA := Lib.hid (show ∀ (W : World) (t : Int), Below w.heap.size w W → Calls Tryz.prog 74 #[u, .int .i64 t, .int .i64 a, .bool (!v)] W fun e w' => e = .returned (.bool (lnG G v a t)) ∧ W = w' from fun W t hW => across_any u G v t a W (HG.out W hW))
  clear hG
  go_enter Tryz.func35, Tryz.ntmps35
  go_wp2
  go_loopw [1, 13] (fun ov av wr => ∃ (i m : Nat) (es' : List EP) (g' n' c' : Nat), i ≤ 80 ∧ 80 - i ≤ m ∧ m ≤ 80 ∧ ov = .slice (some ⟨g', 0, none⟩) n' c' ∧ av = .int .i64 ((i : Int) - 40) ∧ Hid (List.foldl putP es' (lineP G v a d m ((i : Int) - 40)) = L) ∧ Hid (lnG G v a ((i : Int) - 41) = false ∨ lnG G v a ((i : Int) - 40) = false) ∧ es'.length ≤ 50000 + i ∧ PEL wr B (.slice (some ⟨g', 0, none⟩) n' c') es' ∧ Below w.heap.size w wr) (fun _ av _ => (40 - intOf av).toNat)
  case atStart => exact ⟨0, 80, es, g, n, c, by omega, by omega, by omega, rfl, rfl, HL0, Lib.hid (.inl (by
    cases h : lnG G v a (((0 : Nat) : Int) - 41) with
    | false => rfl
    | true => have := (lnG_out h).1; omega)), by omega, hv, Below.refl _ _⟩
  case round =>
    obtain ⟨i, m, es1, g1, n1, c1, hi, hm, hm8, rfl, rfl, HI, HS, hle, hP, hb⟩ := hrel
    clear hv HL0
    have hszr := hb.size
    by_cases hlt : i < 80
    · have hlti : (i : Int) - 40 < 40 := by omega
      obtain ⟨b, hbb⟩ : ∃ b, lnG G v a ((i : Int) - 40) = b := ⟨_, rfl⟩
      have HBb := Lib.hid hbb
      obtain ⟨R, HR⟩ : ∃ R, Hid (runUp (knG G v a) (if b = true then 1 else 0) (80 - (i + 1)) (((i + 1 : Nat) : Int) - 40) = R) := ⟨_, Lib.hid rfl⟩
      have ei := Go.IntWalk.i64_in ((i : Int) - 40 + 1) (by omega)
      clear hbb
      go_wp2
      obtain ⟨wo, hwo⟩ : ∃ wo, wo = wr := ⟨_, rfl⟩
      subst hwo
      go_loopw [14] (fun jv wx => ∃ j : Nat, i < j ∧ j ≤ 80 ∧ jv = .int .i64 ((j : Int) - 40) ∧ Hid (runUp (knG G v a) (if b = true then 1 else 0) (80 - j) ((j : Int) - 40) = R) ∧ wx = wo) (fun jv _ => (40 - intOf jv).toNat)
      case atStart => exact ⟨i + 1, by omega, by omega, by go_num, HR, rfl⟩
      case round =>
        obtain ⟨j, hij, hj, rfl, HJ, hw⟩ := hrel
        subst hw
        by_cases hin : j < 80 ∧ lnG G v a ((j : Int) - 40) = b
        · obtain ⟨hj8, hf⟩ := hin
          have hj8' : (j : Int) - 40 < 40 := by omega
          have ej := Go.IntWalk.i64_in ((j : Int) - 40 + 1) (by omega)
          go_wp2_with (first
            | (go_at_call 74; (with_reducible refine (HA.out _ ((j : Int) - 40) hb).mono ?_); rintro e w1 ⟨he, rfl⟩; rw [hf] at he; subst he)
            | (go_at_call 74; (with_reducible refine (HA.out _ ((i : Int) - 40) hb).mono ?_); rintro e w2 ⟨he, rfl⟩; rw [HBb.out] at he; subst he))
          exact ⟨⟨j + 1, by omega, by omega, by go_num, Lib.hid (kn_in HJ.out hj8 hf), trivial⟩, by simp [intOf]; omega⟩
        · have hout : j = 80 ∨ (j < 80 ∧ lnG G v a ((j : Int) - 40) = !b) := by
            by_cases h8 : j = 80
            · exact .inl h8
            · refine .inr ⟨by omega, ?_⟩
              have h9 : ¬ lnG G v a ((j : Int) - 40) = b := fun e => hin ⟨by omega, e⟩
              cases hx : lnG G v a ((j : Int) - 40) <;> cases b <;> simp_all
          clear hin
          have hRj := kn_out HJ.out (hout.imp id And.right)
          have hRR : runUp (knG G v a) (knG G v a ((i : Int) - 40)) (80 - (i + 1)) (((i + 1 : Nat) : Int) - 40) = (j : Int) - 40 := by
            rw [← hRj, ← HR.out]
            unfold knG
            rw [HBb.out]
          obtain ⟨m1, rfl⟩ : ∃ m1, m = m1 + 1 := ⟨m - 1, by omega⟩
          have HL1 := Lib.hid (lineP_round hlt hRR HI.out)
          have HS1 := Lib.hid (run_short (d := d) hij hj hRR HS.out)
          have e9 := Go.IntWalk.i64_in (((j : Int) - 40) - ((i : Int) - 40)) (by omega)
          clear hRj hRR
          by_cases hrun : b = true ∧ (j : Int) - i < d
          · obtain ⟨hbt, hd9⟩ := hrun
            subst hbt
            have hd8 : (j : Int) - 40 - ((i : Int) - 40) < d := by omega
            have HC := Lib.hid (HS1.out.2 HBb.out hd9)
            have HN := Lib.hid (HL1.out.2 ⟨HBb.out, hd9⟩)
            have Hin := Lib.hid (short_in HC.out)
            rcases hout with hj80 | ⟨hj8, hf⟩
            case' inl =>
              have hj8' : ¬ ((j : Int) - 40 < 40) := by omega
              clear hj80
              go_wp2_with (first | fail | (go_at_call 74; (with_reducible refine (HA.out _ ((i : Int) - 40) hb).mono ?_); rintro e w2 ⟨he, rfl⟩; rw [HBb.out] at he; subst he))
            case' inr =>
              have hj8' : (j : Int) - 40 < 40 := by omega
              go_wp2_with (first | (go_at_call 74; (with_reducible refine (HA.out _ ((j : Int) - 40) hb).mono ?_); rintro e w1 ⟨he, rfl⟩; rw [hf] at he; subst he) | (go_at_call 74; (with_reducible refine (HA.out _ ((i : Int) - 40) hb).mono ?_); rintro e w2 ⟨he, rfl⟩; rw [HBb.out] at he; subst he))
            all_goals
              go_wp2_with (first
                | (go_at_call 76; (with_reducible refine (pair_any v u G a ((i : Int) - 40) ((j : Int) - 40) _ (HG.out _ hb) (short_sides HC.out).1 (short_sides HC.out).2 (by have := Hin.out; omega) (by have := Hin.out; omega) (by omega)).mono ?_); rintro e w3 ⟨x0, x1, x2, x3, x4, x5, x6, x7, xd, rfl, hpo, hxd, hb3⟩; have hdd := (congrArg EP.d hpo).symm.trans ((pair_d v a ((i : Int) - 40) ((j : Int) - 40)).trans hxd.symm); have HP3 := Lib.hid (hP.on hb3); have hb4 := Lib.hid (hb.trans (hb3.mono hszr)); have HPO := Lib.hid hpo; clear hpo hxd hb3)
                | (go_at_call 75; refine (put_P g1 n1 c1 es1 x0 x1 x2 x3 x4 x5 x6 x7 xd hdd B _ HP3.out (by have := hb4.out.size; omega) (by omega)).mono ?_; rintro e w4 ⟨g4, n4, c4, rfl, hP4, hb5⟩))
              refine ⟨⟨j, m1, _, g4, n4, c4, hj, by omega, by omega, rfl, rfl, ?_, Lib.hid HS1.out.1, ?_, hP4, hb4.out.trans (hb5.mono hb4.out.size)⟩, by simp [intOf]; omega⟩
              · rw [← HPO.out]
                exact HN
              · have := putP_len es1 ⟨⟨x0, x1, x2, x3⟩, ⟨x4, x5, x6, x7⟩⟩
                omega
          · have HN := Lib.hid (HL1.out.1 (by rw [HBb.out]; exact hrun))
            have hcase : b = false ∨ (b = true ∧ ¬ ((j : Int) - 40 - ((i : Int) - 40) < d)) := by
              cases b
              · exact .inl rfl
              · exact .inr ⟨rfl, fun h => hrun ⟨rfl, by omega⟩⟩
            clear hrun
            rcases hcase with rfl | ⟨rfl, hd8⟩
            case' inl => skip
            case' inr => skip
            all_goals
              rcases hout with hj80 | ⟨hj8, hf⟩
              case' inl =>
                have hj8' : ¬ ((j : Int) - 40 < 40) := by omega
                clear hj80
                go_wp2_with (first | fail | (go_at_call 74; (with_reducible refine (HA.out _ ((i : Int) - 40) hb).mono ?_); rintro e w2 ⟨he, rfl⟩; rw [HBb.out] at he; subst he))
              case' inr =>
                have hj8' : (j : Int) - 40 < 40 := by omega
                go_wp2_with (first | (go_at_call 74; (with_reducible refine (HA.out _ ((j : Int) - 40) hb).mono ?_); rintro e w1 ⟨he, rfl⟩; rw [hf] at he; subst he) | (go_at_call 74; (with_reducible refine (HA.out _ ((i : Int) - 40) hb).mono ?_); rintro e w2 ⟨he, rfl⟩; rw [HBb.out] at he; subst he))
            all_goals
              exact ⟨⟨j, m1, es1, g1, n1, c1, hj, by omega, by omega, rfl, rfl, HN, Lib.hid HS1.out.1, by omega, hP, hb⟩, by simp [intOf]; omega⟩
    · obtain rfl : i = 80 := by omega
      have HE : Hid (es1 = L) := Lib.hid (by
        have := HI.out
        cases m with
        | zero => simpa [lineP] using this
        | succ m => rw [lineP, if_pos (by omega)] at this; exact this)
      go_wp2
      go_ret
      refine ⟨g1, n1, c1, rfl, ?_, hb⟩
      rw [← HE.out]
      exact hP

theorem line_H (u : Value) (G : Gr) (g n c : Nat) (es : List EP) (a d : Int) (B : Nat) (w : World) (hG : GS w 0 u G) (hv : PEL w B (.slice (some ⟨g, 0, none⟩) n c) es) (hB : B ≤ w.heap.size) (hl : es.length ≤ 50000) (ha : -40 ≤ a ∧ a ≤ 39) (hd : 1 ≤ d ∧ d ≤ 80) :
    Calls Tryz.prog 35 #[u, .slice (some ⟨g, 0, none⟩) n c, .int .i64 a, .int .i64 d, .bool true, .bool true] w fun e w' => ∃ g' n' c', e = .returned (.slice (some ⟨g', 0, none⟩) n' c') ∧ PEL w' B (.slice (some ⟨g', 0, none⟩) n' c') (putPs es (linesP G false a d)) ∧ Below w.heap.size w w' :=
  line_P u G false g n c es a d B w hG hv hB hl ha hd
theorem line_V (u : Value) (G : Gr) (g n c : Nat) (es : List EP) (a d : Int) (B : Nat) (w : World) (hG : GS w 0 u G) (hv : PEL w B (.slice (some ⟨g, 0, none⟩) n c) es) (hB : B ≤ w.heap.size) (hl : es.length ≤ 50000) (ha : -40 ≤ a ∧ a ≤ 39) (hd : 1 ≤ d ∧ d ≤ 80) :
    Calls Tryz.prog 35 #[u, .slice (some ⟨g, 0, none⟩) n c, .int .i64 a, .int .i64 d, .bool false, .bool true] w fun e w' => ∃ g' n' c', e = .returned (.slice (some ⟨g', 0, none⟩) n' c') ∧ PEL w' B (.slice (some ⟨g', 0, none⟩) n' c') (putPs es (linesP G true a d)) ∧ Below w.heap.size w w' :=
  line_P u G true g n c es a d B w hG hv hB hl ha hd
set_option maxHeartbeats 1600000 in
set_option maxRecDepth 100000 in
/-- FacingEdges of the reference. -/
theorem face_spec (v : Value) (rs : List Rc) (d : Int) (w : World) (hv : RL w 0 v rs) (hr : isReg rs = true) (hd : 1 ≤ d ∧ d ≤ 80) :
    Calls Tryz.prog 13 #[v, .int .i64 d, .bool true] w fun e w' => ∃ u, e = .returned u ∧ PEL w' w.heap.size u (faceS (cellsG rs) d) ∧ Below w.heap.size w w' := by
  obtain ⟨L, HL⟩ : ∃ L, Hid (L = faceS (cellsG rs) d) := ⟨_, Lib.hid rfl⟩
  rw [← HL.out]
  have HR := Lib.hid hr
  have HI : Hid (inB 1 d 80 = true) := Lib.hid (by unfold inB; simpa using hd)
  have HOK := Lib.hid (okAll_of_reg hr)
  clear hr
  go_enter Tryz.func13, Tryz.ntmps13
  go_wp2_with (first
    | (go_at_call 18; (with_reducible refine (l03Ok_any v rs _ hv).mono ?_); rintro e w1 ⟨he, hb1⟩; rw [HR.out] at he; subst he; have hv1 := hv.on hb1)
    | (go_at_call 33; refine (l01In_any _ _ _ _).mono ?_; rintro e w2 ⟨he, rfl⟩; rw [HI.out] at he; subst he)
    | (go_at_call 34; (with_reducible refine (l03Bits_any v rs _ hv1 HOK.out).mono ?_); rintro e w3 ⟨u, rfl, hG, hb3⟩; have hb4 := Lib.hid (hb1.trans (hb3.mono hb1.size)); have hGx := Lib.hid (hG.less (Nat.zero_le _)); clear hG hb3))
  have r0 : PEL (w3.alloc (.cells #[] 50)) w.heap.size (.slice (some ⟨w3.heap.size, 0, none⟩) 0 0) [] := (show PEL (w3.alloc (.cells #[] 50)) w3.heap.size (.slice (some ⟨w3.heap.size, 0, none⟩) 0 0) [] from World.ownsRow_lit w3 #[] 0 (Nat.le_refl _) (by simp [maxLen]) (by simp)).less hb4.out.size
  have g0 := hGx.out.on ((Below.refl w3.heap.size w3).alloc (Nat.le_refl _) (.cells #[] 50))
  have b0 := hb4.out.alloc hb4.out.size (.cells #[] 50)
  clear hb4 hGx hv hv1 hb1
  go_loopw [8, 9] (fun ov cv wr => ∃ (n g m c : Nat), n ≤ 80 ∧ cv = .int .i64 ((n : Int) - 40) ∧ ov = .slice (some ⟨g, 0, none⟩) m c ∧ PEL wr w.heap.size (.slice (some ⟨g, 0, none⟩) m c) (putPs [] (faceTo (cellsG rs) d n)) ∧ GS wr 0 u (cellsG rs) ∧ Below w.heap.size w wr) (fun _ cv _ => (40 - intOf cv).toNat)
  case atStart => exact ⟨0, _, _, _, by omega, rfl, rfl, r0, g0, b0⟩
  case round =>
    obtain ⟨n, g, m, c, hn, rfl, rfl, hP, hGr, hb⟩ := hrel
    clear r0 g0 b0
    have hszr := hb.size
    have hlen := putPs_len (faceTo (cellsG rs) d n) []
    have hlen2 := faceTo_len (cellsG rs) d n
    rw [List.length_nil] at hlen
    by_cases hlt : n < 80
    · have hlt2 : (n : Int) - 40 < 40 := by omega
      have en := Go.IntWalk.i64_in ((n : Int) - 40 + 1) (by omega)
      have hl2 := lineP_len (cellsG rs) false ((n : Int) - 40) d 80 (-40)
      have hl1 : (putPs [] (faceTo (cellsG rs) d n)).length ≤ 50000 := by omega
      have hl3 : (putPs (putPs [] (faceTo (cellsG rs) d n)) (linesP (cellsG rs) false ((n : Int) - 40) d)).length ≤ 50000 := by
        have := putPs_len (linesP (cellsG rs) false ((n : Int) - 40) d) (putPs [] (faceTo (cellsG rs) d n))
        unfold linesP at this ⊢
        omega
      have HS := Lib.hid (show faceTo (cellsG rs) d (n + 1) = _ from faceTo_succ (cellsG rs) d n)
      clear hlen hlen2 hl2
      go_wp2_with (first
        | (go_at_call 35; (with_reducible refine (line_H u (cellsG rs) g m c _ ((n : Int) - 40) d w.heap.size _ hGr hP hszr hl1 (by omega) hd).mono ?_); rintro e w5 ⟨g5, m5, c5, rfl, hP5, hb5⟩; have hG5 := hGr.on hb5; have hb6 := hb.trans (hb5.mono hszr); have hs6 := hb6.size; clear hb5)
        | (go_at_call 35; (with_reducible refine (line_V u (cellsG rs) g5 m5 c5 _ ((n : Int) - 40) d w.heap.size _ hG5 hP5 hs6 hl3 (by omega) hd).mono ?_); rintro e w7 ⟨g7, m7, c7, rfl, hP7, hb7⟩; have hG7 := hG5.on hb7; have hb8 := hb6.trans (hb7.mono hs6); clear hb7))
      refine ⟨⟨n + 1, g7, m7, c7, by omega, by go_num, rfl, ?_, hG7, hb8⟩, by simp [intOf]; omega⟩
      rw [HS.out, putPs_append, putPs_append]
      exact hP7
    · obtain rfl : n = 80 := by omega
      go_wp2
      go_ret
      refine ⟨_, rfl, ?_, hb⟩
      rw [HL.out]
      exact hP

end Go.Proofs.YtjiljodchebniaaGreat
