/- Contracts: the closures of facing over a column, runs over them. Conditions: the state of facing. What memory holds: lists of pairs of numbers (the queues of the searches). No conditions. The eight neighbours of a cell in the order in which the program's search looks at them. No conditions. The four neighbours of a cell in the order in which the reference's search looks at them. No conditions. -/
import Derived.Test.YtjiljodchebniaaGreatQ23
import Derived.Deep.CutRange
import Derived.Test.YtjiljodchebniaaGreatQ06
import Derived.Test.YtjiljodchebniaaGreatQ01

namespace Go.Proofs.YtjiljodchebniaaGreat
open Go.Maps Go.RowKit



set_option maxHeartbeats 1600000 in
set_option maxRecDepth 100000 in
/-- What a line holds at place i. -/
theorem katV_any (w W : World) (N : FN) (G : Gr) (d : Int) (U L : Value → Value) (nu nl lb : Nat) (line : Int) (v : Value) (es : List EP) (i : Nat) (hS : FS w N G d U L nu nl lb line v es es W) (hi : i ≤ 80) :
    Calls Tryz.prog 59 #[.int .i64 i, .pointer (some ⟨N.kb, 0, none⟩), .pointer (some ⟨N.cb, 0, none⟩), .pointer (some ⟨lb, 0, none⟩)] W fun e w' => e = .returned (.int .i64 (knG G true line ((i : Int) - 40))) ∧ FS w N G d U L nu nl lb line v es es w' := by
  have e1 := Go.IntWalk.i64_in ((i : Int) - 40) (by omega)
  have HS := Lib.hid hS
  have tc := Lib.hid (Below.refl W.heap.size W).drew
  have HC := Lib.hid (show ∀ W', Below W.heap.size W W' → W'.cell? ⟨N.kb, 0, none⟩ = some (.func (.func 53) #[] #[.pointer (some ⟨N.ib, 0, none⟩)]) ∧ W'.cell? ⟨N.cb, 0, none⟩ = some (.pointer (some ⟨N.g, 0, none⟩)) ∧ W'.cell? ⟨lb, 0, none⟩ = some (.int .i64 line) from fun W' hW => ⟨(hS.z.k.on hW).cell 0, (hS.z.c.on hW).cell 0, (hS.z.l.on hW).cell 0⟩)
  have HG := Lib.hid (show ∀ W', Below W.heap.size W W' → GB W' N.g 89 G from fun W' hW => hS.z.gb.on hW)
  have HI := Lib.hid (show ∀ W', Below W.heap.size W W' → Bk W' N.ib 4 #[.bool true] from fun W' hW => hS.z.i.on hW)
  have HK : Hid (knG G true line ((i : Int) - 40) = if hasG G line ((i : Int) - 40) = true then 1 else 0) := Lib.hid rfl
  obtain ⟨r, HR⟩ : ∃ r : Int, Hid (r = if hasG G line ((i : Int) - 40) = true then 1 else 0) := ⟨_, Lib.hid rfl⟩
  rw [HK.out, ← HR.out]
  have HQ := Lib.hid (show ∀ W', Below W.heap.size W W' → Calls Tryz.prog 53 #[.bool (hasG G line ((i : Int) - 40)), .pointer (some ⟨N.ib, 0, none⟩)] W' fun e w' => e = .returned (.int .i64 r) ∧ W' = w' from fun W' hW => by rw [HR.out]; exact kind_any _ N.ib _ (HI.out _ hW))
  clear hS
  go_enter Tryz.func59, Tryz.ntmps59
  go_wp2
  go_region_held3 (fun W' => W'.cell? ⟨N.kb, 0, none⟩ = some (.func (.func 53) #[] #[.pointer (some ⟨N.ib, 0, none⟩)]) ∧ W'.cell? ⟨N.cb, 0, none⟩ = some (.pointer (some ⟨N.g, 0, none⟩)) ∧ W'.cell? ⟨lb, 0, none⟩ = some (.int .i64 line))
    (first | with_reducible exact HC.out _ tc.out | with_reducible exact HC.out _ tx.out | with_reducible exact HC.out _ ty.out)
    (first
      | (go_at_call 57; (with_reducible refine (has_any N.g G line ((i : Int) - 40) _ (HG.out _ tc.out)).mono ?_); rintro e w1 ⟨rfl, hb1⟩; have tx := Lib.hid (tc.out.trans (hb1.mono tc.out.size)))
      | (go_at_call 53; (with_reducible refine (HQ.out _ tx.out).mono ?_); rintro e w2 ⟨rfl, rfl⟩; have ty := Lib.hid tx.out))
  all_goals
    go_wp2
    go_ret
    exact ⟨rfl, HS.out.on ty.out⟩

set_option maxHeartbeats 1600000 in
set_option maxRecDepth 100000 in
/-- A run is met. -/
theorem kputV_any (w W : World) (N : FN) (G : Gr) (d : Int) (U L : Value → Value) (nu nl lb : Nat) (line : Int) (v : Value) (es : List EP) (p q k : Int) (hS : FS w N G d U L nu nl lb line v es es W) (hM : MapL G L) (hp : -40 ≤ p ∧ p ≤ 40) (hq : -40 ≤ q ∧ q ≤ 40) (hl : -40 ≤ line ∧ line ≤ 40) (hs : q - p < d → ShortC G true line p q d) (hlen : es.length ≤ 100000) :
    Calls Tryz.prog 60 #[.int .i64 p, .int .i64 q, .int .i64 k, .pointer (some ⟨N.qb, 0, none⟩), .pointer (some ⟨N.ab, 0, none⟩), .pointer (some ⟨N.vb, 0, none⟩), .pointer (some ⟨lb, 0, none⟩)] W fun e w' => e = .returned (.tuple #[]) ∧ ∃ v', FS w N G d U L nu nl lb line v' (if q - p < d then addP es (pairOf G true line p q) else es) (if q - p < d then addP es (pairOf G true line p q) else es) w' := by
  have HS := Lib.hid hS
  have q0 : W.cell? ⟨N.qb, 0, none⟩ = some (.func (.func 54) #[] #[.pointer (some ⟨N.db, 0, none⟩), .pointer (some ⟨N.ib, 0, none⟩)]) := hS.z.q.cell 0
  have hc := counts_any p q d N.db N.ib W hS.z.dd hS.z.i (by omega) (by omega)
  have HC := Lib.hid hc
  clear hc hS
  by_cases h : q - p < d
  · rw [if_pos h]
    rw [decide_eq_true h] at HC
    have hsh := hs h
    have e2 := Go.IntWalk.i64_in (q - p) (by omega)
    obtain ⟨s1, s2⟩ := short_sides hsh
    have u1 := hM 1 p line (.inl rfl) s1
    have u2 := hM (-1) q line (.inr rfl) s2
    have sm1 := smallE_of (pair_edges hsh).1
    have sm2 := smallE_of (pair_edges hsh).2
    have hd9 := pair_d (G := G) true line p q
    obtain ⟨⟨⟨x0, x1, x2, x3⟩, ⟨x4, x5, x6, x7⟩⟩, hX⟩ : ∃ X, pairOf G true line p q = X := ⟨_, rfl⟩
    have hX1 : wholeE G false 1 p line = ⟨x0, x1, x2, x3⟩ := congrArg EP.f hX
    have hX2 : wholeE G false (-1) q line = ⟨x4, x5, x6, x7⟩ := congrArg EP.s hX
    rw [hX1] at u1
    rw [hX2] at u2
    rw [hX] at sm1 sm2 hd9
    rw [hX]
    obtain ⟨k1, hk1⟩ := key_pt line p (wf_small (by omega)) (wf_small (by omega))
    obtain ⟨k2, hk2⟩ := key_pt line q (wf_small (by omega)) (wf_small (by omega))
    have HA := Lib.hid (show ∀ v' es' W', FS w N G d U L nu nl lb line v' es' es' W' → W'.cell? ⟨N.ab, 0, none⟩ = some (.func (.func 52) #[] #[.pointer (some ⟨N.mb, 0, none⟩), .pointer (some ⟨N.ob, 0, none⟩)]) ∧ W'.cell? ⟨N.vb, 0, none⟩ = some (.map (some N.ml)) ∧ W'.cell? ⟨lb, 0, none⟩ = some (.int .i64 line) ∧ (Instr.lookup 91 (.map (some N.ml)) (.agg #[.int .i64 line, .int .i64 p]) false).run Tryz.prog W' = .ok (.agg #[.int .i64 x0, .int .i64 x1, .int .i64 x2, .int .i64 x3]) W' ∧ (Instr.lookup 91 (.map (some N.ml)) (.agg #[.int .i64 line, .int .i64 q]) false).run Tryz.prog W' = .ok (.agg #[.int .i64 x4, .int .i64 x5, .int .i64 x6, .int .i64 x7]) W' from fun v' es' W' hW => ⟨hW.z.a.cell 0, hW.z.v.cell 0, hW.z.l.cell 0, by
      have := hW.z.ml.look keyedPt Tryz.underlying91 (zeroEdgeV _) hk1
      exact this.trans (by rw [show L (.agg #[.int .i64 line, .int .i64 p]) = _ from u1]; rfl), by
      have := hW.z.ml.look keyedPt Tryz.underlying91 (zeroEdgeV _) hk2
      exact this.trans (by rw [show L (.agg #[.int .i64 line, .int .i64 q]) = _ from u2]; rfl)⟩)
    have HAD := Lib.hid (add_any w W.drew N G d U L nu nl lb line v es x0 x1 x2 x3 x4 x5 x6 x7 (q - p) hd9 (HS.out.on (Below.refl W.heap.size W).drew) sm1 sm2 (by omega) hlen)
    have TC := Lib.hid (HS.out.on (Below.refl W.heap.size W).drew)
    clear hsh s1 s2 u1 u2 sm1 sm2 hd9 hX hX1 hX2 hk1 hk2 hM hs
    go_enter Tryz.func60, Tryz.ntmps60
    go_wp2_with (go_at_call 54; (with_reducible refine HC.out.mono ?_); rintro e w1 ⟨rfl, rfl⟩)
    go_region_held3 (fun W' => W'.cell? ⟨N.ab, 0, none⟩ = some (.func (.func 52) #[] #[.pointer (some ⟨N.mb, 0, none⟩), .pointer (some ⟨N.ob, 0, none⟩)]) ∧ W'.cell? ⟨N.vb, 0, none⟩ = some (.map (some N.ml)) ∧ W'.cell? ⟨lb, 0, none⟩ = some (.int .i64 line) ∧ (Instr.lookup 91 (.map (some N.ml)) (.agg #[.int .i64 line, .int .i64 p]) false).run Tryz.prog W' = .ok (.agg #[.int .i64 x0, .int .i64 x1, .int .i64 x2, .int .i64 x3]) W' ∧ (Instr.lookup 91 (.map (some N.ml)) (.agg #[.int .i64 line, .int .i64 q]) false).run Tryz.prog W' = .ok (.agg #[.int .i64 x4, .int .i64 x5, .int .i64 x6, .int .i64 x7]) W')
      (first | with_reducible exact HA.out _ _ _ TC.out | with_reducible exact HA.out _ _ _ S2.out)
      (first
        | (go_at_call 52; (with_reducible refine HAD.out.mono ?_); rintro e w2 ⟨rfl, v2, s2⟩; have S2 := Lib.hid s2; clear s2))
    all_goals
      go_wp2
      go_end0
      exact ⟨rfl, _, S2.out⟩
  · rw [if_neg h]
    rw [decide_eq_false h] at HC
    go_enter Tryz.func60, Tryz.ntmps60
    go_wp2_with (go_at_call 54; (with_reducible refine HC.out.mono ?_); rintro e w1 ⟨rfl, rfl⟩)
    go_end0
    exact ⟨rfl, _, HS.out⟩

set_option maxHeartbeats 3200000 in
set_option maxRecDepth 100000 in
/-- runs over a line. -/
theorem krunsV_any (w W : World) (N : FN) (G : Gr) (d : Int) (U L : Value → Value) (nu nl lb : Nat) (line : Int) (v : Value) (es : List EP) (hS : FS w N G d U L nu nl lb line v es es W) (hM : MapL G L) (hl : -40 ≤ line ∧ line ≤ 40) (hlen : es.length ≤ 50000) :
    Calls Tryz.prog 55 #[.func (.func 59) #[] #[.pointer (some ⟨N.kb, 0, none⟩), .pointer (some ⟨N.cb, 0, none⟩), .pointer (some ⟨lb, 0, none⟩)], .func (.func 60) #[] #[.pointer (some ⟨N.qb, 0, none⟩), .pointer (some ⟨N.ab, 0, none⟩), .pointer (some ⟨N.vb, 0, none⟩), .pointer (some ⟨lb, 0, none⟩)]] W fun e w' => e = .returned (.tuple #[]) ∧ ∃ v', FS w N G d U L nu nl lb line v' (addAll es (linesP G true line d)) (addAll es (linesP G true line d)) w' := by
  obtain ⟨L9, HL⟩ : ∃ L9, Hid (L9 = addAll es (linesP G true line d)) := ⟨_, Lib.hid rfl⟩
  rw [← HL.out]
  have HL0 : Hid (List.foldl addP es (lineP G true line d 80 (-40)) = L9) := Lib.hid HL.out.symm
  have HM := Lib.hid hM
  clear hM
  go_enter Tryz.func55, Tryz.ntmps55
  go_wp2
  go_loopw [4] (fun iv wr => ∃ (i n : Nat) (v' : Value) (es' : List EP), i ≤ 80 ∧ 80 - i ≤ n ∧ n ≤ 80 ∧ iv = .int .i64 i ∧ Hid (List.foldl addP es' (lineP G true line d n ((i : Int) - 40)) = L9) ∧ Hid (lnG G true line ((i : Int) - 41) = false ∨ lnG G true line ((i : Int) - 40) = false) ∧ es'.length ≤ 50000 + i ∧ FS w N G d U L nu nl lb line v' es' es' wr) (fun iv _ => 80 - (intOf iv).toNat)
  case atStart => exact ⟨0, 80, _, es, by omega, by omega, by omega, rfl, HL0, Lib.hid (.inl (by
    cases h : lnG G true line (((0 : Nat) : Int) - 41) with
    | false => rfl
    | true => have := (lnG_out h).1; omega)), by omega, hS⟩
  case round =>
    obtain ⟨i, n, v1, es1, hi, hn, hn8, rfl, HI, HT, hle, S⟩ := hrel
    clear hS HL0
    by_cases hlt : i < 80
    · have hlti : (i : Int) < 80 := by omega
      obtain ⟨f, Hf⟩ : ∃ f, Hid (f = knG G true line) := ⟨_, Lib.hid rfl⟩
      obtain ⟨K, HK⟩ : ∃ K, Hid (K = f ((i : Int) - 40)) := ⟨_, Lib.hid rfl⟩
      obtain ⟨R, HR⟩ : ∃ R, Hid (runUp f K (80 - (i + 1)) (((i + 1 : Nat) : Int) - 40) = R) := ⟨_, Lib.hid rfl⟩
      have HKT : Hid (K ≠ 0 ↔ lnG G true line ((i : Int) - 40) = true) := Lib.hid (by
        rw [HK.out, Hf.out, Ne, knG_zero]
        cases lnG G true line ((i : Int) - 40) <;> simp)
      have HA := Lib.hid (show ∀ (W' : World) (j : Nat), j ≤ 80 → FS w N G d U L nu nl lb line v1 es1 es1 W' → Calls Tryz.prog 59 #[.int .i64 j, .pointer (some ⟨N.kb, 0, none⟩), .pointer (some ⟨N.cb, 0, none⟩), .pointer (some ⟨lb, 0, none⟩)] W' fun e w' => e = .returned (.int .i64 (f ((j : Int) - 40))) ∧ FS w N G d U L nu nl lb line v1 es1 es1 w' from fun W' j hj hS' => by rw [Hf.out]; exact katV_any w W' N G d U L nu nl lb line v1 es1 j hS' hj)
      have ei := Go.IntWalk.i64_in ((i : Int) + 1) (by omega)
      go_wp2
      obtain ⟨wo, hwo⟩ : ∃ wo, wo = wr := ⟨_, rfl⟩
      subst hwo
      go_loopw [5] (fun jv wx => ∃ j : Nat, i < j ∧ j ≤ 80 ∧ jv = .int .i64 j ∧ Hid (runUp f K (80 - j) ((j : Int) - 40) = R) ∧ FS w N G d U L nu nl lb line v1 es1 es1 wx) (fun jv _ => 80 - (intOf jv).toNat)
      case atStart => exact ⟨i + 1, by omega, by omega, by go_num, HR, S⟩
      case round =>
        obtain ⟨j, hij, hj, rfl, HJ, Sx⟩ := hrel
        clear S
        by_cases hin : j < 80 ∧ f ((j : Int) - 40) = K
        · obtain ⟨hj8, hf⟩ := hin
          have hj8' : (j : Int) < 80 := by omega
          have ej := Go.IntWalk.i64_in ((j : Int) + 1) (by omega)
          go_wp2_with (first
            | (go_at_call 59; (with_reducible refine (HA.out _ j (by omega) Sx).mono ?_); rintro e w1 ⟨he, S1⟩; rw [hf] at he; subst he)
            | (go_at_call 59; (with_reducible refine (HA.out _ i (by omega) S1).mono ?_); rintro e w2 ⟨he, S2⟩; rw [← HK.out] at he; subst he))
          exact ⟨⟨j + 1, by omega, by omega, by go_num, Lib.hid (runUp_one HJ.out hj8 hf), S2⟩, by simp [intOf]; omega⟩
        · have hout : j = 80 ∨ (j < 80 ∧ f ((j : Int) - 40) ≠ K) := by
            by_cases h8 : j = 80
            · exact .inl h8
            · exact .inr ⟨by omega, fun e => hin ⟨by omega, e⟩⟩
          clear hin
          have hRj := run_out HJ.out (hout.imp id And.right)
          have hRR : runUp (knG G true line) (knG G true line ((i : Int) - 40)) (80 - (i + 1)) (((i + 1 : Nat) : Int) - 40) = (j : Int) - 40 := by
            rw [← hRj, ← HR.out, HK.out, Hf.out]
          obtain ⟨n1, rfl⟩ : ∃ n1, n = n1 + 1 := ⟨n - 1, by omega⟩
          have HL1 := Lib.hid (lineP_round hlt hRR HI.out)
          have HT1 := Lib.hid (run_short (d := d) hij hj hRR HT.out)
          have e1 := Go.IntWalk.i64_in ((i : Int) - 40) (by omega)
          have e2 := Go.IntWalk.i64_in ((j : Int) - 40) (by omega)
          clear hRj hRR
          by_cases hK0 : K = 0
          · have HI3 := Lib.hid (HL1.out.1 (by rintro ⟨h9, -⟩; exact HKT.out.2 h9 hK0))
            have HK0 := Lib.hid hK0
            clear hK0
            rcases hout with hj80 | ⟨hj8, hf⟩
            case' inl =>
              have hj8' : ¬ ((j : Int) < 80) := by omega
              clear hj80
              go_wp2_with (go_at_call 59; (with_reducible refine (HA.out _ i (by omega) Sx).mono ?_); rintro e w3 ⟨he, S3⟩; rw [← HK.out, HK0.out] at he; subst he)
            case' inr =>
              have hj8' : (j : Int) < 80 := by omega
              obtain ⟨z, Hz⟩ : ∃ z, Hid (f ((j : Int) - 40) = z) := ⟨_, Lib.hid rfl⟩
              have hzK : (z == K) = false := by rw [← Hz.out]; simpa using hf
              clear hf
              go_wp2_with (first
                | (go_at_call 59; (with_reducible refine (HA.out _ j (by omega) Sx).mono ?_); rintro e w1 ⟨he, S1⟩; rw [Hz.out] at he; subst he)
                | (go_at_call 59; (with_reducible refine (HA.out _ i (by omega) S1).mono ?_); rintro e w2 ⟨he, S2⟩; rw [← HK.out] at he; subst he)
                | (go_at_call 59; (with_reducible refine (HA.out _ i (by omega) S2).mono ?_); rintro e w3 ⟨he, S3⟩; rw [← HK.out, HK0.out] at he; subst he))
            all_goals
              exact ⟨⟨j, n1, _, es1, hj, by omega, by omega, rfl, HI3, Lib.hid HT1.out.1, by omega, S3⟩, by simp [intOf]; omega⟩
          · have hKl := HKT.out.1 hK0
            have bK : (K == 0) = false := by simpa using hK0
            have HP := Lib.hid (show ∀ W', FS w N G d U L nu nl lb line v1 es1 es1 W' → Calls Tryz.prog 60 #[.int .i64 ((i : Int) - 40), .int .i64 ((j : Int) - 40), .int .i64 K, .pointer (some ⟨N.qb, 0, none⟩), .pointer (some ⟨N.ab, 0, none⟩), .pointer (some ⟨N.vb, 0, none⟩), .pointer (some ⟨lb, 0, none⟩)] W' fun e w' => e = .returned (.tuple #[]) ∧ ∃ v' es', FS w N G d U L nu nl lb line v' es' es' w' ∧ Hid (List.foldl addP es' (lineP G true line d n1 ((j : Int) - 40)) = L9) ∧ es'.length ≤ es1.length + 1 from fun W' hW => by
              refine (kputV_any w W' N G d U L nu nl lb line v1 es1 ((i : Int) - 40) ((j : Int) - 40) K hW HM.out (by omega) (by omega) hl (fun h9 => HT1.out.2 hKl (by omega)) (by omega)).mono ?_
              rintro e w' ⟨rfl, v', S'⟩
              by_cases h9 : (j : Int) - 40 - ((i : Int) - 40) < d
              · rw [if_pos h9] at S'
                exact ⟨rfl, v', _, S', Lib.hid (HL1.out.2 ⟨hKl, by omega⟩), addP_len _ _⟩
              · rw [if_neg h9] at S'
                exact ⟨rfl, v', _, S', Lib.hid (HL1.out.1 (by rintro ⟨-, h8⟩; omega)), by omega⟩)
            clear hK0
            rcases hout with hj80 | ⟨hj8, hf⟩
            case' inl =>
              have hj8' : ¬ ((j : Int) < 80) := by omega
              clear hj80
              go_wp2_with (first
                | (go_at_call 59; (with_reducible refine (HA.out _ i (by omega) Sx).mono ?_); rintro e w3 ⟨he, S3⟩; rw [← HK.out] at he; subst he)
                | (go_at_call 59; (with_reducible refine (HA.out _ i (by omega) S3).mono ?_); rintro e w4 ⟨he, S4⟩; rw [← HK.out] at he; subst he)
                | (go_at_call 60; (with_reducible refine (HP.out _ S4).mono ?_); rintro e w5 ⟨rfl, v5, es5, S5, HI5, hle5⟩))
            case' inr =>
              have hj8' : (j : Int) < 80 := by omega
              obtain ⟨z, Hz⟩ : ∃ z, Hid (f ((j : Int) - 40) = z) := ⟨_, Lib.hid rfl⟩
              have hzK : (z == K) = false := by rw [← Hz.out]; simpa using hf
              clear hf
              go_wp2_with (first
                | (go_at_call 59; (with_reducible refine (HA.out _ j (by omega) Sx).mono ?_); rintro e w1 ⟨he, S1⟩; rw [Hz.out] at he; subst he)
                | (go_at_call 59; (with_reducible refine (HA.out _ i (by omega) S1).mono ?_); rintro e w2 ⟨he, S2⟩; rw [← HK.out] at he; subst he)
                | (go_at_call 59; (with_reducible refine (HA.out _ i (by omega) S2).mono ?_); rintro e w3 ⟨he, S3⟩; rw [← HK.out] at he; subst he)
                | (go_at_call 59; (with_reducible refine (HA.out _ i (by omega) S3).mono ?_); rintro e w4 ⟨he, S4⟩; rw [← HK.out] at he; subst he)
                | (go_at_call 60; (with_reducible refine (HP.out _ S4).mono ?_); rintro e w5 ⟨rfl, v5, es5, S5, HI5, hle5⟩))
            all_goals
              exact ⟨⟨j, n1, v5, es5, hj, by omega, by omega, rfl, HI5, Lib.hid HT1.out.1, by omega, S5⟩, by simp [intOf]; omega⟩
    · obtain rfl : i = 80 := by omega
      have HE : Hid (es1 = L9) := Lib.hid (by
        have := HI.out
        cases n with
        | zero => simpa [lineP] using this
        | succ n => rw [lineP, if_pos (by omega)] at this; exact this)
      go_wp2
      go_end0
      refine ⟨rfl, v1, ?_⟩
      rw [← HE.out]
      exact S


end Go.Proofs.YtjiljodchebniaaGreat

namespace Go.Proofs.YtjiljodchebniaaGreat
open Go.RowKit

def flatP : List (Int × Int) → List Value
  | [] => []
  | p :: ps => .int .i64 p.1 :: .int .i64 p.2 :: flatP ps
theorem flatP_length : ∀ ps : List (Int × Int), (flatP ps).length = ps.length * 2
  | [] => rfl
  | p :: ps => by
    have := flatP_length ps
    simp only [flatP, List.length_cons, this]
    omega
theorem flatP_append : ∀ a b : List (Int × Int), flatP (a ++ b) = flatP a ++ flatP b
  | [], _ => rfl
  | p :: a, b => by simp only [List.cons_append, flatP, flatP_append a b]
theorem flatP_get : ∀ (ps : List (Int × Int)) (k : Nat) (p : Int × Int), ps[k]? = some p → (flatP ps)[k * 2]? = some (.int .i64 p.1) ∧ (flatP ps)[k * 2 + 1]? = some (.int .i64 p.2)
  | [], k, p, h => by simp at h
  | q :: ps, 0, p, h => by
    simp only [List.getElem?_cons_zero, Option.some.injEq] at h
    subst h
    exact ⟨rfl, rfl⟩
  | q :: ps, k + 1, p, h => by
    have ih := flatP_get ps k p (by simpa using h)
    have e1 : (k + 1) * 2 = k * 2 + 1 + 1 := by omega
    have e2 : k * 2 + 1 + 1 + 1 = (k * 2 + 1) + 1 + 1 := rfl
    rw [e1]
    simp only [flatP]
    rw [List.getElem?_cons_succ, List.getElem?_cons_succ, e2, List.getElem?_cons_succ, List.getElem?_cons_succ]
    exact ih
/-- The slice value v is the list ps of pairs, in a row from block B on (B = 0: wherever). -/
def PL (w : World) (t : TypeId) (B : Nat) (v : Value) (ps : List (Int × Int)) : Prop := w.ownsRow B t 2 v ps.length (flatP ps)
section
variable {w w' : World} {t : TypeId} {B B' : Nat} {v : Value} {ps : List (Int × Int)}
theorem PL.on (h : PL w t B v ps) (hb : Below w.heap.size w w') : PL w' t B v ps := own_on h hb
theorem PL.less (h : PL w t B v ps) (hB : B' ≤ B) : PL w t B' v ps := own_less h hB
theorem PL.alloc (h : PL w t B v ps) (o : Obj) : PL (w.alloc o) t B v ps := World.ownsRow.alloc h o
theorem PL.other (h : PL w t B v ps) {p : Addr} (hne : some p.block ≠ v.ownBlock) (x : Value) : PL (w.setCell p x) t B v ps := own_other h (fun e => hne e.symm) x
theorem PL.drewN (h : PL w t B v ps) (n : Nat) : PL (w.drewN n) t B v ps := h
theorem PL.form (h : PL w t B v ps) : ∃ A cap, v = .slice A ps.length cap ∧ ps.length ≤ cap ∧ cap ≤ maxLen ∧
    (∀ (k : Nat) (p : Int × Int), ps[k]? = some p → ∃ g, A = some ⟨g, 0, none⟩ ∧ B ≤ g ∧ g < w.heap.size ∧ w.cell? ⟨g, k * 2, none⟩ = some (.int .i64 p.1) ∧ w.cell? ⟨g, k * 2 + 1, none⟩ = some (.int .i64 p.2)) := by
  obtain ⟨A, cap, hv, h1, h2, h3⟩ := own_form h
  refine ⟨A, cap, hv, h1, h2, fun k p hk => ?_⟩
  have hlt : k < ps.length := (List.getElem?_eq_some_iff.1 hk).1
  obtain ⟨g, hA, hg, hgw, hc, _⟩ := h3 (by omega)
  obtain ⟨f0, f1⟩ := flatP_get ps k p hk
  exact ⟨g, hA, hg, hgw, hc _ _ f0, hc _ _ f1⟩
theorem PL.one (w : World) (t : TypeId) {B : Nat} (hB : B ≤ w.heap.size) (a b : Int) : PL (w.alloc (.cells #[.int .i64 a, .int .i64 b] t)) t B (.slice (some ⟨w.heap.size, 0, none⟩) 1 1) [(a, b)] := World.ownsRow_lit w #[.int .i64 a, .int .i64 b] 1 hB (by simp [maxLen]) rfl
theorem PL.elem {A : Option Addr} {n c : Nat} (h : PL w t B (.slice A n c) ps) {k : Nat} {p : Int × Int} (hr : ps[k]? = some p) : ∃ g, A = some ⟨g, 0, none⟩ ∧ g < w.heap.size ∧
    w.cell? ⟨g, k * 2, none⟩ = some (.int .i64 p.1) ∧ w.cell? ⟨g, k * 2 + 1, none⟩ = some (.int .i64 p.2) := by
  obtain ⟨A', c', e, _, _, hf⟩ := h.form
  obtain ⟨g, hA, _, hg, h0, h1⟩ := hf k _ hr
  simp only [Value.slice.injEq] at e
  exact ⟨g, e.1.trans hA, hg, h0, h1⟩
end
theorem infoPair : (Tryz.prog.info? 163).map (fun i => (i.zero, i.size, i.bytes)) = some (some (.agg #[.int .i64 0, .int .i64 0]), 2, 16) := by kernel_rfl
theorem infoPoint : (Tryz.prog.info? 93).map (fun i => (i.zero, i.size, i.bytes)) = some (some (.agg #[.int .i64 0, .int .i64 0]), 2, 16) := by kernel_rfl
/-- 'out = append(out, p)' on a list of pairs ([2]int) of the call's own. -/
theorem wpList_append_2 {w : World} {ops : Array Oper} {rest : List Oper} {o : Oper} {a : Act} {Q : Exit → Act → World → Prop} (hgd : o.guard = none) (s x : Operand)
    (ho : o.op = .call { callee := .builtin .append, args := #[s, x], argTypes := #[164, 164] })
    (B : Nat) (v : Value) (ps : List (Int × Int)) (hs : a.eval s = v) (hown : PL w 163 B v ps) (x0 y0 : Int) (hx : a.eval x = .slice (some ⟨w.heap.size, 0, none⟩) 1 1)
    (hlen : ps.length ≤ 1000000) (hB : B ≤ w.heap.size)
    (h : ∀ v' w', PL w' 163 B v' (ps ++ [(x0, y0)]) → w.grownBy w' v.ownBlock → Below B w w' → (v'.ownBlock = v.ownBlock ∨ ∃ g, v'.ownBlock = some g ∧ w.heap.size ≤ g) → wpList Tryz.prog ops Q rest (a.put o.dst v') w') :
    wpList Tryz.prog ops Q (o :: rest) a (w.alloc (.cells #[.int .i64 x0, .int .i64 y0] 163)) := by
  obtain ⟨i, hi, hz, hsz, hby⟩ := info_parts infoPair
  refine wpList_append_own_at _ hgd s x 164 ho B 163 i _ 2 16 Tryz.underlying164 hi hz hsz hby rfl (by decide) v ps.length (flatP ps) hs (World.ownsRow.alloc hown _) ⟨w.heap.size, 0, none⟩ 1 1
    [.int .i64 x0, .int .i64 y0] hx rfl ?_ ?_ (by simp only [maxLen]; omega) (by omega) (by simp; omega) ?_
  · intro j u hu
    rw [Addr.add_lit, World.cell?_alloc_new]
    simpa using hu
  · intro u hu
    simp at hu
    rcases hu with rfl | rfl <;> rfl
  · intro v' w' h1 h2 _ hat
    have h3 := grown_of_alloc h2
    refine h v' w' ?_ h3 (below_own hown h3 hB) ?_
    · unfold PL
      rw [flatP_append, List.length_append]
      exact h1
    · rcases hat with hat | hat
      · exact .inl hat
      · exact .inr ⟨_, hat, by simp⟩
end Go.Proofs.YtjiljodchebniaaGreat

namespace Go.Proofs.YtjiljodchebniaaGreat
open Go.RowKit

/-- The number of the step (0 .. 8) at which m is looked at from j. -/
def posN (j m : Nat) : Int := (((m / 80 : Nat) : Int) - ((j / 80 : Nat) : Int) + 1) * 3 + (((m % 80 : Nat) : Int) - ((j % 80 : Nat) : Int) + 1)
/-- The neighbours of j that the first k steps look at are in the list. -/
def Vis (L : Gr) (qs : List Nat) (j : Nat) (k : Int) : Prop := ∀ m : Nat, m < 6400 → nbr j m → L m = true → posN j m < k → m ∈ qs
theorem vis_zero (L : Gr) (qs : List Nat) (j : Nat) : Vis L qs j 0 := by
  intro m _ hn _ hp
  unfold posN at hp
  unfold nbr at hn
  omega
theorem vis_nine {L : Gr} {qs : List Nat} {j : Nat} (h : Vis L qs j 9) : ∀ m, nbr j m → m < 6400 → L m = true → m ∈ qs := by
  intro m hn hm hL
  refine h m hm hn hL ?_
  unfold posN
  unfold nbr at hn
  omega
theorem vis_next {L : Gr} {qs : List Nat} {j : Nat} {k : Int} (h : Vis L qs j k) (hk : ∀ m, m < 6400 → nbr j m → L m = true → posN j m = k → m ∈ qs) : Vis L qs j (k + 1) := by
  intro m hm hn hL hp
  by_cases he : posN j m = k
  · exact hk m hm hn hL he
  · exact h m hm hn hL (by omega)
theorem vis_put {L : Gr} {qs : List Nat} {j : Nat} {k : Int} (h : Vis L qs j k) (m : Nat) : Vis L (qs ++ [m]) j k := fun p hp hn hL hk => List.mem_append_left _ (h p hp hn hL hk)
theorem vis_pos {j m : Nat} {a b : Int} (hn : nbr j m) (ha : -1 ≤ a ∧ a ≤ 1) (hb : -1 ≤ b ∧ b ≤ 1) (hp : posN j m = (a + 1) * 3 + (b + 1)) : ((m / 80 : Nat) : Int) = ((j / 80 : Nat) : Int) + a ∧ ((m % 80 : Nat) : Int) = ((j % 80 : Nat) : Int) + b ∧ (a = 0 ∨ b = 0) := by
  unfold posN at hp
  unfold nbr at hn
  omega
/-- The step leads to both sides, or off the chip: nothing to do. -/
theorem vis_off {L : Gr} {qs : List Nat} {j : Nat} {a b : Int} (h : Vis L qs j ((a + 1) * 3 + (b + 1))) (ha : -1 ≤ a ∧ a ≤ 1) (hb : -1 ≤ b ∧ b ≤ 1)
    (ho : (b ≠ 0 ∧ a ≠ 0) ∨ ((j % 80 : Nat) : Int) + b < 0 ∨ ((j / 80 : Nat) : Int) + a < 0 ∨ 80 ≤ ((j % 80 : Nat) : Int) + b ∨ 80 ≤ ((j / 80 : Nat) : Int) + a) : Vis L qs j ((a + 1) * 3 + (b + 1) + 1) := by
  refine vis_next h fun m hm hn hL hp => ?_
  obtain ⟨h1, h2, h3⟩ := vis_pos hn ha hb hp
  omega
/-- The step leads to a cell c of the chip that is not in the set, or in the list. -/
theorem vis_on {L : Gr} {qs : List Nat} {j c : Nat} {a b : Int} (h : Vis L qs j ((a + 1) * 3 + (b + 1))) (ha : -1 ≤ a ∧ a ≤ 1) (hb : -1 ≤ b ∧ b ≤ 1)
    (hx : ((c % 80 : Nat) : Int) = ((j % 80 : Nat) : Int) + b) (hy : ((c / 80 : Nat) : Int) = ((j / 80 : Nat) : Int) + a) (hc : L c = false ∨ c ∈ qs) : Vis L qs j ((a + 1) * 3 + (b + 1) + 1) := by
  refine vis_next h fun m hm hn hL hp => ?_
  obtain ⟨h1, h2, h3⟩ := vis_pos hn ha hb hp
  have e : m = c := by omega
  subst e
  rcases hc with hc | hc
  · rw [hL] at hc
    exact absurd hc (by simp)
  · exact hc
theorem on_nbr {qs : List Nat} {j c : Nat} {a b : Int} (hj : j ∈ qs) (ha : -1 ≤ a ∧ a ≤ 1) (hb : -1 ≤ b ∧ b ≤ 1) (hz : a = 0 ∨ b = 0)
    (hx : ((c % 80 : Nat) : Int) = ((j % 80 : Nat) : Int) + b) (hy : ((c / 80 : Nat) : Int) = ((j / 80 : Nat) : Int) + a) (hnew : setL qs c = false) : nbr j c := by
  have hne : c ≠ j := by
    rintro rfl
    rw [(setL_iff qs c).2 hj] at hnew
    exact absurd hnew (by simp)
  unfold nbr
  omega
/-- The cell that a step leads to. -/
theorem step_cell {x y : Int} (hx : 0 ≤ x ∧ x < 80) (hy : 0 ≤ y ∧ y < 80) : ∃ c : Nat, c < 6400 ∧ ((c % 80 : Nat) : Int) = x ∧ ((c / 80 : Nat) : Int) = y ∧ (c : Int) = y * 80 + x :=
  ⟨(y * 80 + x).toNat, by omega, by omega, by omega, by omega⟩

end Go.Proofs.YtjiljodchebniaaGreat

namespace Go.Proofs.YtjiljodchebniaaGreat
open Go.RowKit

/-- The side over which m is looked at from j. -/
def dirN (j m : Nat) : Nat := if m / 80 = j / 80 then (if j % 80 < m % 80 then 0 else 1) else (if j / 80 < m / 80 then 2 else 3)
def dirX (d : Nat) : Int := if d = 0 then 1 else if d = 1 then -1 else 0
def dirY (d : Nat) : Int := if d = 2 then 1 else if d = 3 then -1 else 0
/-- The neighbours of j over the first k sides are in the list. -/
def VisD (L : Gr) (qs : List Nat) (j k : Nat) : Prop := ∀ m : Nat, m < 6400 → nbr j m → L m = true → dirN j m < k → m ∈ qs
theorem visd_zero (L : Gr) (qs : List Nat) (j : Nat) : VisD L qs j 0 := fun _ _ _ _ hp => absurd hp (by omega)
theorem dirN_lt (j m : Nat) : dirN j m < 4 := by unfold dirN; split <;> split <;> omega
theorem visd_four {L : Gr} {qs : List Nat} {j : Nat} (h : VisD L qs j 4) : ∀ m, nbr j m → m < 6400 → L m = true → m ∈ qs := fun m hn hm hL => h m hm hn hL (dirN_lt j m)
theorem visd_next {L : Gr} {qs : List Nat} {j k : Nat} (h : VisD L qs j k) (hk : ∀ m, m < 6400 → nbr j m → L m = true → dirN j m = k → m ∈ qs) : VisD L qs j (k + 1) := by
  intro m hm hn hL hp
  by_cases he : dirN j m = k
  · exact hk m hm hn hL he
  · exact h m hm hn hL (by omega)
theorem visd_put {L : Gr} {qs : List Nat} {j k : Nat} (h : VisD L qs j k) (m : Nat) : VisD L (qs ++ [m]) j k := fun p hp hn hL hk => List.mem_append_left _ (h p hp hn hL hk)
theorem dir_pos {j m : Nat} (hn : nbr j m) : ((m % 80 : Nat) : Int) = ((j % 80 : Nat) : Int) + dirX (dirN j m) ∧ ((m / 80 : Nat) : Int) = ((j / 80 : Nat) : Int) + dirY (dirN j m) := by
  unfold nbr at hn
  unfold dirN
  split
  · split
    · simp only [dirX, dirY]; simp; omega
    · simp only [dirX, dirY]; simp; omega
  · split
    · simp only [dirX, dirY]; simp; omega
    · simp only [dirX, dirY]; simp; omega
/-- The cell at a place of the chip. -/
theorem ix_of {m : Nat} {x y : Int} (hm : m < 6400) (hx : ((m % 80 : Nat) : Int) = x + 40) (hy : ((m / 80 : Nat) : Int) = y + 40) : onC x y = true ∧ (ix x y).toNat = m := by
  rw [onC_iff]
  unfold ix
  omega
theorem visd_off {L : Gr} {qs : List Nat} {j k : Nat} {x y : Int} (h : VisD L qs j k) (hx : x = ((j % 80 : Nat) : Int) - 40 + dirX k) (hy : y = ((j / 80 : Nat) : Int) - 40 + dirY k) (ho : hasG L x y = false ∨ (ix x y).toNat ∈ qs) : VisD L qs j (k + 1) := by
  refine visd_next h fun m hm hn hL hp => ?_
  obtain ⟨h1, h2⟩ := dir_pos hn
  rw [hp] at h1 h2
  obtain ⟨h3, h4⟩ := ix_of (m := m) (x := x) (y := y) hm (by omega) (by omega)
  rcases ho with ho | ho
  · rw [hasG_on h3, h4, hL] at ho
    cases ho
  · rw [h4] at ho
    exact ho
theorem dir_nbr {j k : Nat} {x y : Int} (hk : k < 4) (hx : x = ((j % 80 : Nat) : Int) - 40 + dirX k) (hy : y = ((j / 80 : Nat) : Int) - 40 + dirY k) (hc : onC x y = true) : nbr j (ix x y).toNat ∧ (ix x y).toNat < 6400 := by
  rw [onC_iff] at hc
  have hk4 : k = 0 ∨ k = 1 ∨ k = 2 ∨ k = 3 := by omega
  unfold nbr ix
  rcases hk4 with rfl | rfl | rfl | rfl
  all_goals
    simp [dirX, dirY] at hx hy
    subst hx hy
    omega

end Go.Proofs.YtjiljodchebniaaGreat
