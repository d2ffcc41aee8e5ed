/- Contracts: the closures of facing over a line, runs over them. Conditions: the state of facing. -/
import Derived.Test.YtjiljodchebniaaGreatQ16
import Derived.Test.YtjiljodchebniaaGreatQ22
import Derived.Deep.CutRange

namespace Go.Proofs.YtjiljodchebniaaGreat
open Go.Maps Go.RowKit

def ptV (x y : Int) : Value := .agg #[.int .i64 x, .int .i64 y]
/-- The maps hold the edge of each side. -/
def MapU (G : Gr) (U : Value → Value) : Prop := ∀ k a t, (k = 1 ∨ k = -1) → stG G true a t = k → U (ptV a t) = (wholeE G true k a t).val
def MapL (G : Gr) (L : Value → Value) : Prop := ∀ k a t, (k = 1 ∨ k = -1) → stG G false a t = k → L (ptV t a) = (wholeE G false k a t).val


set_option maxHeartbeats 1600000 in
set_option maxRecDepth 100000 in
/-- What a line holds at place i. -/
theorem katH_any (w W : World) (N : FN) (G : Gr) (d : Int) (U L : Value → Value) (nu nl lb : Nat) (line : Int) (v : Value) (es : List EP) (i : Nat) (hS : FS w N G d U L nu nl lb line v es es W) (hi : i ≤ 80) :
    Calls Tryz.prog 56 #[.int .i64 i, .pointer (some ⟨N.kb, 0, none⟩), .pointer (some ⟨N.cb, 0, none⟩), .pointer (some ⟨lb, 0, none⟩)] W fun e w' => e = .returned (.int .i64 (knG G false line ((i : Int) - 40))) ∧ FS w N G d U L nu nl lb line v es es w' := by
  have e1 := Go.IntWalk.i64_in ((i : Int) - 40) (by omega)
  have HS := Lib.hid hS
  have tc := Lib.hid (Below.refl W.heap.size W).drew
  have HC := Lib.hid (show ∀ W', Below W.heap.size W W' → W'.cell? ⟨N.kb, 0, none⟩ = some (.func (.func 53) #[] #[.pointer (some ⟨N.ib, 0, none⟩)]) ∧ W'.cell? ⟨N.cb, 0, none⟩ = some (.pointer (some ⟨N.g, 0, none⟩)) ∧ W'.cell? ⟨lb, 0, none⟩ = some (.int .i64 line) from fun W' hW => ⟨(hS.z.k.on hW).cell 0, (hS.z.c.on hW).cell 0, (hS.z.l.on hW).cell 0⟩)
  have HG := Lib.hid (show ∀ W', Below W.heap.size W W' → GB W' N.g 89 G from fun W' hW => hS.z.gb.on hW)
  have HI := Lib.hid (show ∀ W', Below W.heap.size W W' → Bk W' N.ib 4 #[.bool true] from fun W' hW => hS.z.i.on hW)
  have HK : Hid (knG G false line ((i : Int) - 40) = if hasG G ((i : Int) - 40) line = true then 1 else 0) := Lib.hid rfl
  obtain ⟨r, HR⟩ : ∃ r : Int, Hid (r = if hasG G ((i : Int) - 40) line = true then 1 else 0) := ⟨_, Lib.hid rfl⟩
  rw [HK.out, ← HR.out]
  have HQ := Lib.hid (show ∀ W', Below W.heap.size W W' → Calls Tryz.prog 53 #[.bool (hasG G ((i : Int) - 40) line), .pointer (some ⟨N.ib, 0, none⟩)] W' fun e w' => e = .returned (.int .i64 r) ∧ W' = w' from fun W' hW => by rw [HR.out]; exact kind_any _ N.ib _ (HI.out _ hW))
  clear hS
  go_enter Tryz.func56, Tryz.ntmps56
  go_wp2
  go_region_held3 (fun W' => W'.cell? ⟨N.kb, 0, none⟩ = some (.func (.func 53) #[] #[.pointer (some ⟨N.ib, 0, none⟩)]) ∧ W'.cell? ⟨N.cb, 0, none⟩ = some (.pointer (some ⟨N.g, 0, none⟩)) ∧ W'.cell? ⟨lb, 0, none⟩ = some (.int .i64 line))
    (first | with_reducible exact HC.out _ tc.out | with_reducible exact HC.out _ tx.out | with_reducible exact HC.out _ ty.out)
    (first
      | (go_at_call 57; (with_reducible refine (has_any N.g G ((i : Int) - 40) line _ (HG.out _ tc.out)).mono ?_); rintro e w1 ⟨rfl, hb1⟩; have tx := Lib.hid (tc.out.trans (hb1.mono tc.out.size)))
      | (go_at_call 53; (with_reducible refine (HQ.out _ tx.out).mono ?_); rintro e w2 ⟨rfl, rfl⟩; have ty := Lib.hid tx.out))
  all_goals
    go_wp2
    go_ret
    exact ⟨rfl, HS.out.on ty.out⟩

set_option maxHeartbeats 1600000 in
set_option maxRecDepth 100000 in
/-- A run is met. -/
theorem kputH_any (w W : World) (N : FN) (G : Gr) (d : Int) (U L : Value → Value) (nu nl lb : Nat) (line : Int) (v : Value) (es : List EP) (p q k : Int) (hS : FS w N G d U L nu nl lb line v es es W) (hM : MapU G U) (hp : -40 ≤ p ∧ p ≤ 40) (hq : -40 ≤ q ∧ q ≤ 40) (hl : -40 ≤ line ∧ line ≤ 40) (hs : q - p < d → ShortC G false line p q d) (hlen : es.length ≤ 100000) :
    Calls Tryz.prog 58 #[.int .i64 p, .int .i64 q, .int .i64 k, .pointer (some ⟨N.qb, 0, none⟩), .pointer (some ⟨N.ab, 0, none⟩), .pointer (some ⟨N.ub, 0, none⟩), .pointer (some ⟨lb, 0, none⟩)] W fun e w' => e = .returned (.tuple #[]) ∧ ∃ v', FS w N G d U L nu nl lb line v' (if q - p < d then addP es (pairOf G false line p q) else es) (if q - p < d then addP es (pairOf G false line p q) else es) w' := by
  have HS := Lib.hid hS
  have q0 : W.cell? ⟨N.qb, 0, none⟩ = some (.func (.func 54) #[] #[.pointer (some ⟨N.db, 0, none⟩), .pointer (some ⟨N.ib, 0, none⟩)]) := hS.z.q.cell 0
  have hc := counts_any p q d N.db N.ib W hS.z.dd hS.z.i (by omega) (by omega)
  have HC := Lib.hid hc
  clear hc hS
  by_cases h : q - p < d
  · rw [if_pos h]
    rw [decide_eq_true h] at HC
    have hsh := hs h
    have e2 := Go.IntWalk.i64_in (q - p) (by omega)
    obtain ⟨s1, s2⟩ := short_sides hsh
    have u1 := hM 1 p line (.inl rfl) s1
    have u2 := hM (-1) q line (.inr rfl) s2
    have sm1 := smallE_of (pair_edges hsh).1
    have sm2 := smallE_of (pair_edges hsh).2
    have hd9 := pair_d (G := G) false line p q
    obtain ⟨⟨⟨x0, x1, x2, x3⟩, ⟨x4, x5, x6, x7⟩⟩, hX⟩ : ∃ X, pairOf G false line p q = X := ⟨_, rfl⟩
    have hX1 : wholeE G true 1 p line = ⟨x0, x1, x2, x3⟩ := congrArg EP.f hX
    have hX2 : wholeE G true (-1) q line = ⟨x4, x5, x6, x7⟩ := congrArg EP.s hX
    rw [hX1] at u1
    rw [hX2] at u2
    rw [hX] at sm1 sm2 hd9
    rw [hX]
    obtain ⟨k1, hk1⟩ := key_pt p line (wf_small (by omega)) (wf_small (by omega))
    obtain ⟨k2, hk2⟩ := key_pt q line (wf_small (by omega)) (wf_small (by omega))
    have HA := Lib.hid (show ∀ v' es' W', FS w N G d U L nu nl lb line v' es' es' W' → W'.cell? ⟨N.ab, 0, none⟩ = some (.func (.func 52) #[] #[.pointer (some ⟨N.mb, 0, none⟩), .pointer (some ⟨N.ob, 0, none⟩)]) ∧ W'.cell? ⟨N.ub, 0, none⟩ = some (.map (some N.mu)) ∧ W'.cell? ⟨lb, 0, none⟩ = some (.int .i64 line) ∧ (Instr.lookup 91 (.map (some N.mu)) (.agg #[.int .i64 p, .int .i64 line]) false).run Tryz.prog W' = .ok (.agg #[.int .i64 x0, .int .i64 x1, .int .i64 x2, .int .i64 x3]) W' ∧ (Instr.lookup 91 (.map (some N.mu)) (.agg #[.int .i64 q, .int .i64 line]) false).run Tryz.prog W' = .ok (.agg #[.int .i64 x4, .int .i64 x5, .int .i64 x6, .int .i64 x7]) W' from fun v' es' W' hW => ⟨hW.z.a.cell 0, hW.z.u.cell 0, hW.z.l.cell 0, by
      have := hW.z.mu.look keyedPt Tryz.underlying91 (zeroEdgeV _) hk1
      exact this.trans (by rw [show U (.agg #[.int .i64 p, .int .i64 line]) = _ from u1]; rfl), by
      have := hW.z.mu.look keyedPt Tryz.underlying91 (zeroEdgeV _) hk2
      exact this.trans (by rw [show U (.agg #[.int .i64 q, .int .i64 line]) = _ from u2]; rfl)⟩)
    have HAD := Lib.hid (add_any w W.drew N G d U L nu nl lb line v es x0 x1 x2 x3 x4 x5 x6 x7 (q - p) hd9 (HS.out.on (Below.refl W.heap.size W).drew) sm1 sm2 (by omega) hlen)
    have TC := Lib.hid (HS.out.on (Below.refl W.heap.size W).drew)
    clear hsh s1 s2 u1 u2 sm1 sm2 hd9 hX hX1 hX2 hk1 hk2 hM hs
    go_enter Tryz.func58, Tryz.ntmps58
    go_wp2_with (go_at_call 54; (with_reducible refine HC.out.mono ?_); rintro e w1 ⟨rfl, rfl⟩)
    go_region_held3 (fun W' => W'.cell? ⟨N.ab, 0, none⟩ = some (.func (.func 52) #[] #[.pointer (some ⟨N.mb, 0, none⟩), .pointer (some ⟨N.ob, 0, none⟩)]) ∧ W'.cell? ⟨N.ub, 0, none⟩ = some (.map (some N.mu)) ∧ W'.cell? ⟨lb, 0, none⟩ = some (.int .i64 line) ∧ (Instr.lookup 91 (.map (some N.mu)) (.agg #[.int .i64 p, .int .i64 line]) false).run Tryz.prog W' = .ok (.agg #[.int .i64 x0, .int .i64 x1, .int .i64 x2, .int .i64 x3]) W' ∧ (Instr.lookup 91 (.map (some N.mu)) (.agg #[.int .i64 q, .int .i64 line]) false).run Tryz.prog W' = .ok (.agg #[.int .i64 x4, .int .i64 x5, .int .i64 x6, .int .i64 x7]) W')
      (first | with_reducible exact HA.out _ _ _ TC.out | with_reducible exact HA.out _ _ _ S2.out)
      (first
        | (go_at_call 52; (with_reducible refine HAD.out.mono ?_); rintro e w2 ⟨rfl, v2, s2⟩; have S2 := Lib.hid s2; clear s2))
    all_goals
      go_wp2
      go_end0
      exact ⟨rfl, _, S2.out⟩
  · rw [if_neg h]
    rw [decide_eq_false h] at HC
    go_enter Tryz.func58, Tryz.ntmps58
    go_wp2_with (go_at_call 54; (with_reducible refine HC.out.mono ?_); rintro e w1 ⟨rfl, rfl⟩)
    go_end0
    exact ⟨rfl, _, HS.out⟩

set_option maxHeartbeats 3200000 in
set_option maxRecDepth 100000 in
/-- runs over a line. -/
theorem krunsH_any (w W : World) (N : FN) (G : Gr) (d : Int) (U L : Value → Value) (nu nl lb : Nat) (line : Int) (v : Value) (es : List EP) (hS : FS w N G d U L nu nl lb line v es es W) (hM : MapU G U) (hl : -40 ≤ line ∧ line ≤ 40) (hlen : es.length ≤ 50000) :
    Calls Tryz.prog 55 #[.func (.func 56) #[] #[.pointer (some ⟨N.kb, 0, none⟩), .pointer (some ⟨N.cb, 0, none⟩), .pointer (some ⟨lb, 0, none⟩)], .func (.func 58) #[] #[.pointer (some ⟨N.qb, 0, none⟩), .pointer (some ⟨N.ab, 0, none⟩), .pointer (some ⟨N.ub, 0, none⟩), .pointer (some ⟨lb, 0, none⟩)]] W fun e w' => e = .returned (.tuple #[]) ∧ ∃ v', FS w N G d U L nu nl lb line v' (addAll es (linesP G false line d)) (addAll es (linesP G false line d)) w' := by
  obtain ⟨L9, HL⟩ : ∃ L9, Hid (L9 = addAll es (linesP G false line d)) := ⟨_, Lib.hid rfl⟩
  rw [← HL.out]
  have HL0 : Hid (List.foldl addP es (lineP G false line d 80 (-40)) = L9) := Lib.hid HL.out.symm
  have HM := Lib.hid hM
  clear hM
  go_enter Tryz.func55, Tryz.ntmps55
  go_wp2
  go_loopw [4] (fun iv wr => ∃ (i n : Nat) (v' : Value) (es' : List EP), i ≤ 80 ∧ 80 - i ≤ n ∧ n ≤ 80 ∧ iv = .int .i64 i ∧ Hid (List.foldl addP es' (lineP G false line d n ((i : Int) - 40)) = L9) ∧ Hid (lnG G false line ((i : Int) - 41) = false ∨ lnG G false line ((i : Int) - 40) = false) ∧ es'.length ≤ 50000 + i ∧ FS w N G d U L nu nl lb line v' es' es' wr) (fun iv _ => 80 - (intOf iv).toNat)
  case atStart => exact ⟨0, 80, _, es, by omega, by omega, by omega, rfl, HL0, Lib.hid (.inl (by
    cases h : lnG G false line (((0 : Nat) : Int) - 41) with
    | false => rfl
    | true => have := (lnG_out h).1; omega)), by omega, hS⟩
  case round =>
    obtain ⟨i, n, v1, es1, hi, hn, hn8, rfl, HI, HT, hle, S⟩ := hrel
    clear hS HL0
    by_cases hlt : i < 80
    · have hlti : (i : Int) < 80 := by omega
      obtain ⟨f, Hf⟩ : ∃ f, Hid (f = knG G false line) := ⟨_, Lib.hid rfl⟩
      obtain ⟨K, HK⟩ : ∃ K, Hid (K = f ((i : Int) - 40)) := ⟨_, Lib.hid rfl⟩
      obtain ⟨R, HR⟩ : ∃ R, Hid (runUp f K (80 - (i + 1)) (((i + 1 : Nat) : Int) - 40) = R) := ⟨_, Lib.hid rfl⟩
      have HKT : Hid (K ≠ 0 ↔ lnG G false line ((i : Int) - 40) = true) := Lib.hid (by
        rw [HK.out, Hf.out, Ne, knG_zero]
        cases lnG G false line ((i : Int) - 40) <;> simp)
      have HA := Lib.hid (show ∀ (W' : World) (j : Nat), j ≤ 80 → FS w N G d U L nu nl lb line v1 es1 es1 W' → Calls Tryz.prog 56 #[.int .i64 j, .pointer (some ⟨N.kb, 0, none⟩), .pointer (some ⟨N.cb, 0, none⟩), .pointer (some ⟨lb, 0, none⟩)] W' fun e w' => e = .returned (.int .i64 (f ((j : Int) - 40))) ∧ FS w N G d U L nu nl lb line v1 es1 es1 w' from fun W' j hj hS' => by rw [Hf.out]; exact katH_any w W' N G d U L nu nl lb line v1 es1 j hS' hj)
      have ei := Go.IntWalk.i64_in ((i : Int) + 1) (by omega)
      go_wp2
      obtain ⟨wo, hwo⟩ : ∃ wo, wo = wr := ⟨_, rfl⟩
      subst hwo
      go_loopw [5] (fun jv wx => ∃ j : Nat, i < j ∧ j ≤ 80 ∧ jv = .int .i64 j ∧ Hid (runUp f K (80 - j) ((j : Int) - 40) = R) ∧ FS w N G d U L nu nl lb line v1 es1 es1 wx) (fun jv _ => 80 - (intOf jv).toNat)
      case atStart => exact ⟨i + 1, by omega, by omega, by go_num, HR, S⟩
      case round =>
        obtain ⟨j, hij, hj, rfl, HJ, Sx⟩ := hrel
        clear S
        by_cases hin : j < 80 ∧ f ((j : Int) - 40) = K
        · obtain ⟨hj8, hf⟩ := hin
          have hj8' : (j : Int) < 80 := by omega
          have ej := Go.IntWalk.i64_in ((j : Int) + 1) (by omega)
          go_wp2_with (first
            | (go_at_call 56; (with_reducible refine (HA.out _ j (by omega) Sx).mono ?_); rintro e w1 ⟨he, S1⟩; rw [hf] at he; subst he)
            | (go_at_call 56; (with_reducible refine (HA.out _ i (by omega) S1).mono ?_); rintro e w2 ⟨he, S2⟩; rw [← HK.out] at he; subst he))
          exact ⟨⟨j + 1, by omega, by omega, by go_num, Lib.hid (runUp_one HJ.out hj8 hf), S2⟩, by simp [intOf]; omega⟩
        · have hout : j = 80 ∨ (j < 80 ∧ f ((j : Int) - 40) ≠ K) := by
            by_cases h8 : j = 80
            · exact .inl h8
            · exact .inr ⟨by omega, fun e => hin ⟨by omega, e⟩⟩
          clear hin
          have hRj := run_out HJ.out (hout.imp id And.right)
          have hRR : runUp (knG G false line) (knG G false line ((i : Int) - 40)) (80 - (i + 1)) (((i + 1 : Nat) : Int) - 40) = (j : Int) - 40 := by
            rw [← hRj, ← HR.out, HK.out, Hf.out]
          obtain ⟨n1, rfl⟩ : ∃ n1, n = n1 + 1 := ⟨n - 1, by omega⟩
          have HL1 := Lib.hid (lineP_round hlt hRR HI.out)
          have HT1 := Lib.hid (run_short (d := d) hij hj hRR HT.out)
          have e1 := Go.IntWalk.i64_in ((i : Int) - 40) (by omega)
          have e2 := Go.IntWalk.i64_in ((j : Int) - 40) (by omega)
          clear hRj hRR
          by_cases hK0 : K = 0
          · have HI3 := Lib.hid (HL1.out.1 (by rintro ⟨h9, -⟩; exact HKT.out.2 h9 hK0))
            have HK0 := Lib.hid hK0
            clear hK0
            rcases hout with hj80 | ⟨hj8, hf⟩
            case' inl =>
              have hj8' : ¬ ((j : Int) < 80) := by omega
              clear hj80
              go_wp2_with (go_at_call 56; (with_reducible refine (HA.out _ i (by omega) Sx).mono ?_); rintro e w3 ⟨he, S3⟩; rw [← HK.out, HK0.out] at he; subst he)
            case' inr =>
              have hj8' : (j : Int) < 80 := by omega
              obtain ⟨z, Hz⟩ : ∃ z, Hid (f ((j : Int) - 40) = z) := ⟨_, Lib.hid rfl⟩
              have hzK : (z == K) = false := by rw [← Hz.out]; simpa using hf
              clear hf
              go_wp2_with (first
                | (go_at_call 56; (with_reducible refine (HA.out _ j (by omega) Sx).mono ?_); rintro e w1 ⟨he, S1⟩; rw [Hz.out] at he; subst he)
                | (go_at_call 56; (with_reducible refine (HA.out _ i (by omega) S1).mono ?_); rintro e w2 ⟨he, S2⟩; rw [← HK.out] at he; subst he)
                | (go_at_call 56; (with_reducible refine (HA.out _ i (by omega) S2).mono ?_); rintro e w3 ⟨he, S3⟩; rw [← HK.out, HK0.out] at he; subst he))
            all_goals
              exact ⟨⟨j, n1, _, es1, hj, by omega, by omega, rfl, HI3, Lib.hid HT1.out.1, by omega, S3⟩, by simp [intOf]; omega⟩
          · have hKl := HKT.out.1 hK0
            have bK : (K == 0) = false := by simpa using hK0
            have HP := Lib.hid (show ∀ W', FS w N G d U L nu nl lb line v1 es1 es1 W' → Calls Tryz.prog 58 #[.int .i64 ((i : Int) - 40), .int .i64 ((j : Int) - 40), .int .i64 K, .pointer (some ⟨N.qb, 0, none⟩), .pointer (some ⟨N.ab, 0, none⟩), .pointer (some ⟨N.ub, 0, none⟩), .pointer (some ⟨lb, 0, none⟩)] W' fun e w' => e = .returned (.tuple #[]) ∧ ∃ v' es', FS w N G d U L nu nl lb line v' es' es' w' ∧ Hid (List.foldl addP es' (lineP G false line d n1 ((j : Int) - 40)) = L9) ∧ es'.length ≤ es1.length + 1 from fun W' hW => by
              refine (kputH_any w W' N G d U L nu nl lb line v1 es1 ((i : Int) - 40) ((j : Int) - 40) K hW HM.out (by omega) (by omega) hl (fun h9 => HT1.out.2 hKl (by omega)) (by omega)).mono ?_
              rintro e w' ⟨rfl, v', S'⟩
              by_cases h9 : (j : Int) - 40 - ((i : Int) - 40) < d
              · rw [if_pos h9] at S'
                exact ⟨rfl, v', _, S', Lib.hid (HL1.out.2 ⟨hKl, by omega⟩), addP_len _ _⟩
              · rw [if_neg h9] at S'
                exact ⟨rfl, v', _, S', Lib.hid (HL1.out.1 (by rintro ⟨-, h8⟩; omega)), by omega⟩)
            clear hK0
            rcases hout with hj80 | ⟨hj8, hf⟩
            case' inl =>
              have hj8' : ¬ ((j : Int) < 80) := by omega
              clear hj80
              go_wp2_with (first
                | (go_at_call 56; (with_reducible refine (HA.out _ i (by omega) Sx).mono ?_); rintro e w3 ⟨he, S3⟩; rw [← HK.out] at he; subst he)
                | (go_at_call 56; (with_reducible refine (HA.out _ i (by omega) S3).mono ?_); rintro e w4 ⟨he, S4⟩; rw [← HK.out] at he; subst he)
                | (go_at_call 58; (with_reducible refine (HP.out _ S4).mono ?_); rintro e w5 ⟨rfl, v5, es5, S5, HI5, hle5⟩))
            case' inr =>
              have hj8' : (j : Int) < 80 := by omega
              obtain ⟨z, Hz⟩ : ∃ z, Hid (f ((j : Int) - 40) = z) := ⟨_, Lib.hid rfl⟩
              have hzK : (z == K) = false := by rw [← Hz.out]; simpa using hf
              clear hf
              go_wp2_with (first
                | (go_at_call 56; (with_reducible refine (HA.out _ j (by omega) Sx).mono ?_); rintro e w1 ⟨he, S1⟩; rw [Hz.out] at he; subst he)
                | (go_at_call 56; (with_reducible refine (HA.out _ i (by omega) S1).mono ?_); rintro e w2 ⟨he, S2⟩; rw [← HK.out] at he; subst he)
                | (go_at_call 56; (with_reducible refine (HA.out _ i (by omega) S2).mono ?_); rintro e w3 ⟨he, S3⟩; rw [← HK.out] at he; subst he)
                | (go_at_call 56; (with_reducible refine (HA.out _ i (by omega) S3).mono ?_); rintro e w4 ⟨he, S4⟩; rw [← HK.out] at he; subst he)
                | (go_at_call 58; (with_reducible refine (HP.out _ S4).mono ?_); rintro e w5 ⟨rfl, v5, es5, S5, HI5, hle5⟩))
            all_goals
              exact ⟨⟨j, n1, v5, es5, hj, by omega, by omega, rfl, HI5, Lib.hid HT1.out.1, by omega, S5⟩, by simp [intOf]; omega⟩
    · obtain rfl : i = 80 := by omega
      have HE : Hid (es1 = L9) := Lib.hid (by
        have := HI.out
        cases n with
        | zero => simpa [lineP] using this
        | succ n => rw [lineP, if_pos (by omega)] at this; exact this)
      go_wp2
      go_end0
      refine ⟨rfl, v1, ?_⟩
      rw [← HE.out]
      exact S


end Go.Proofs.YtjiljodchebniaaGreat
