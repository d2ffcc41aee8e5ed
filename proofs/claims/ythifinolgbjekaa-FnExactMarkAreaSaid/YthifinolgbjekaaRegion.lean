/- Contract: the program's region returns the canonical form of a set. No conditions. -/
import Derived.Test.YthifinolgbjekaaRowOps
import Derived.Test.YthifinolgbjekaaCanon
namespace Go.Proofs.Ythifinolgbjekaa
open Go.RowKit

theorem at_cell {G : Gr} {a n : Nat} (ha : a < 80) (hn : n < 80) : G (a * 80 + n) = at_ G a n := (at_in G ha hn).symm

set_option maxHeartbeats 1000000 in
set_option maxRecDepth 100000 in
/-- region. -/
theorem region_any (g : Nat) (G : Gr) (w : World) (hG : GB w g 62 G) : Calls Try.prog 60 #[.pointer (some ⟨g, 0, none⟩)] w fun e w' => ∃ u, e = .returned u ∧ RL w' w.heap.size u (canon G) ∧ Below w.heap.size w w' := by
  have Hlen := Lib.hid (canon_length G)
  have r0 : RL (w.alloc (.cells #[] 37)) w.heap.size (.slice (some ⟨w.heap.size, 0, none⟩) 0 0) [] := World.ownsRow_lit w #[] 0 (Nat.le_refl _) (by simp [maxLen]) rfl
  have b0 : Below w.heap.size w (w.alloc (.cells #[] 37)) := (Below.refl _ _).alloc (Nat.le_refl _) _
  go_enter Try.func60, Try.ntmps60
  go_wp2
  go_loopw [3, 4] (fun out yv wr => ∃ (a : Nat) (qs : List Rc), a ≤ 80 ∧ yv = .int .i64 a ∧ RL wr w.heap.size out qs ∧ Hid (qs ++ canonFrom G a = canon G) ∧ Below w.heap.size w wr) (fun _ yv _ => (80 - intOf yv).toNat)
  case atStart => exact ⟨0, [], by omega, rfl, r0, Lib.hid (canon_start G), b0⟩
  case round =>
    obtain ⟨a, qs, ha, rfl, hR, hqs, hb⟩ := hrel
    clear r0 b0
    by_cases hlt : a < 80
    · have hltz : (a : Int) < 80 := by omega
      go_wp2
      obtain ⟨w1, rfl⟩ : ∃ w1 : World, w1 = wr := ⟨_, rfl⟩
      go_loopw [5] (fun ev wi => ∃ e : Nat, a + 1 ≤ e ∧ e ≤ 80 ∧ ev = .int .i64 e ∧ Hid (rowEnd' G a e = rowEnd' G a (a + 1)) ∧ Below w1.heap.size w1 wi) (fun ev _ => (80 - intOf ev).toNat)
      case atStart => exact ⟨a + 1, Nat.le_refl _, by omega, by go_num, Lib.hid rfl, Below.refl _ _⟩
      case round =>
        obtain ⟨e, he0, he1, rfl, hend, hbi⟩ := hrel
        have hGi := hG.on (hb.trans (hbi.mono hb.size))
        by_cases hc : e < 80 ∧ rowEq G e a = true
        · obtain ⟨he, hq⟩ := hc
          have hz : (e : Int) < 80 := by omega
          go_wp2
          refine wp_region_quiet_lit (by kernel_rfl) (by kernel_rfl) ?_
          iterate 7 (go_big_quiet_step (fail))
          go_big_quiet_want
          refine quiet_load 60 (.tmp 19) rfl ⟨g, e * 80, none⟩ rfl (.agg (rowA G e)) (fun w' hw' => by obtain ⟨n, rfl⟩ := hw'; exact run_load_row (hGi.drewN n) he) ?_
          go_simp
          go_big_quiet_on
          iterate 4 (go_big_quiet_step (fail))
          go_big_quiet_want
          refine quiet_load 60 (.tmp 24) rfl ⟨g, a * 80, none⟩ rfl (.agg (rowA G a)) (fun w' hw' => by obtain ⟨n, rfl⟩ := hw'; exact run_load_row (hGi.drewN n) hlt) ?_
          go_simp
          go_big_quiet_on
          go_big_quiet_want
          refine quiet_eql 60 60 (.tmp 20) (.tmp 25) rfl (rowA G e) (rowA G a) rfl rfl (by kernel_rfl) (rowEq G e a) (fun w' => run_eql_rows w' G e a) ?_
          rw [hq]
          go_simp
          go_big_quiet_on
          go_big_quiet_step (fail)
          refine wpQuiet_nil ?_
          intro _ hw'
          obtain ⟨nq, hw''⟩ := hw'
          subst hw''
          go_wp2
          refine ⟨⟨e + 1, by omega, by omega, by go_num, Lib.hid ?_, below_drewN hbi _⟩, by simp [intOf]; omega⟩
          rw [← rowEnd_step G a e he hq]
          exact hend.out
        · have hz := rowEnd_here hend.out hc
          have Hz := Lib.hid hz
          clear hz
          by_cases he : e < 80
          case' pos =>
            have hq : rowEq G e a = false := by simpa [he] using hc
            clear hc
            have hz : (e : Int) < 80 := by omega
            go_wp2
            refine wp_region_quiet_lit (by kernel_rfl) (by kernel_rfl) ?_
            iterate 7 (go_big_quiet_step (fail))
            go_big_quiet_want
            refine quiet_load 60 (.tmp 19) rfl ⟨g, e * 80, none⟩ rfl (.agg (rowA G e)) (fun w' hw' => by obtain ⟨n, rfl⟩ := hw'; exact run_load_row (hGi.drewN n) he) ?_
            go_simp
            go_big_quiet_on
            iterate 4 (go_big_quiet_step (fail))
            go_big_quiet_want
            refine quiet_load 60 (.tmp 24) rfl ⟨g, a * 80, none⟩ rfl (.agg (rowA G a)) (fun w' hw' => by obtain ⟨n, rfl⟩ := hw'; exact run_load_row (hGi.drewN n) hlt) ?_
            go_simp
            go_big_quiet_on
            go_big_quiet_want
            refine quiet_eql 60 60 (.tmp 20) (.tmp 25) rfl (rowA G e) (rowA G a) rfl rfl (by kernel_rfl) (rowEq G e a) (fun w' => run_eql_rows w' G e a) ?_
            rw [hq]
            go_simp
            go_big_quiet_on
            go_big_quiet_step (fail)
            refine wpQuiet_nil ?_
            intro _ hw'
            obtain ⟨nq, hw''⟩ := hw'
            subst hw''
            go_wp2
            have hbT := below_drewN hbi nq
            clear hbi hq hGi
            generalize wr.drewN nq = wt at hbT ⊢
          case' neg =>
            clear hc
            have hz : decide ((e : Int) < 80) = false := by simp; omega
            go_wp2
            go_quiet (fail)
            go_wp2
            have hbT := below_drewN hbi nq
            clear hbi hGi
            generalize wr.drewN nq = wt at hbT ⊢
          all_goals
            have hR3 := hR.on hbT
            have hb3 := hb.trans (hbT.mono hb.size)
            go_loopw [3, 6] (fun out xv wk => ∃ (n : Nat) (ps : List Rc), n ≤ 81 ∧ xv = .int .i64 n ∧ RL wk w.heap.size out ps ∧ Hid (ps ++ (restX G a e n ++ canonFrom G e) = canon G) ∧ Hid (openAt G a n) ∧ Below w.heap.size w wk) (fun _ xv _ => (100 - intOf xv).toNat)
            case atStart =>
              refine ⟨0, qs, by omega, rfl, hR3, Lib.hid ?_, Lib.hid (.inl rfl), hb3⟩
              rw [restX_zero, ← hqs.out, canonFrom_step G a hlt, ← Hz.out]
            case round =>
              obtain ⟨n, ps, hn, rfl, hR4, hps, hop, hb4⟩ := hrel
              clear hR3 hb3 hR hbT
              have hGk := hG.on hb4
              by_cases hn80 : n < 80
              · have hcell := hGk.cell (i := a * 80 + n) (by omega)
                rw [at_cell (G := G) hlt hn80] at hcell
                have hnz : (n : Int) < 80 := by omega
                by_cases hset : at_ G a n = true
                · rw [hset] at hcell
                  have Hset := Lib.hid hset
                  clear hset
                  go_wp2
                  go_loop [6] (fun xv => ∃ m : Nat, n ≤ m ∧ m ≤ 80 ∧ xv = .int .i64 m ∧ Hid (∀ k, n ≤ k → k < m → at_ G a k = true)) (fun xv => (80 - intOf xv).toNat)
                  case atStart => exact ⟨n, Nat.le_refl _, by omega, rfl, Lib.hid (fun k h1 h2 => absurd h1 (by omega))⟩
                  case round =>
                    obtain ⟨m, hm0, hm1, rfl, hall⟩ := hrel
                    clear hcell
                    by_cases hgo : m < 80 ∧ at_ G a m = true
                    · obtain ⟨hm80, hms⟩ := hgo
                      have hcell := hGk.cell (i := a * 80 + m) (by omega)
                      rw [at_cell (G := G) hlt hm80, hms] at hcell
                      have hmz : (m : Int) < 80 := by omega
                      have Hms := Lib.hid hms
                      clear hms
                      go_wp2
                      go_round
                      case rel =>
                        refine ⟨m + 1, by omega, by omega, by go_num, Lib.hid fun k h1 h2 => ?_⟩
                        by_cases e : k = m
                        · rw [e]; exact Hms.out
                        · exact hall.out k h1 (by omega)
                      case measure => simp [intOf]; omega
                    · have hend' : at_ G a m = false := by
                        by_cases hm80 : m < 80
                        · simpa [hm80] using hgo
                        · exact at_out G (by omega)
                      have Hend := Lib.hid hend'
                      have hnm : n < m := by
                        rcases Nat.lt_or_ge n m with h | h
                        · exact h
                        · have e : m = n := by omega
                          rw [e, Hset.out] at hend'
                          cases hend'
                      clear hgo
                      have hl3 : ps.length ≤ 1000000 := Nat.le_trans (part_len hps.out Hlen.out) (by omega)
                      by_cases hm80 : m < 80
                      case' pos =>
                        have hcell := hGk.cell (i := a * 80 + m) (by omega)
                        rw [at_cell (G := G) hlt hm80, hend'] at hcell
                        have hmz : (m : Int) < 80 := by omega
                        clear hend'
                        go_wp2_with (at_builtin; refine wpList_append_R rfl (.tmp 56) (.tmp 66) rfl w.heap.size _ ps rfl hR4 _ _ _ _ rfl hl3 hb4.size ?_)
                      case' neg =>
                        clear hend'
                        have hmz : decide ((m : Int) < 80) = false := by simp; omega
                        go_wp2_with (at_builtin; refine wpList_append_R rfl (.tmp 56) (.tmp 66) rfl w.heap.size _ ps rfl hR4 _ _ _ _ rfl hl3 hb4.size ?_)
                      all_goals
                        intro v1 w6 ho1 hg1 hb6
                        go_wp2
                        refine ⟨⟨m + 1, _, by omega, by go_num, ho1, Lib.hid ?_, Lib.hid (openAt_succ Hend.out), hb4.trans hb6⟩, by simp [intOf]; omega⟩
                        rw [← hps.out, restX_run hop.out hnm hm1 hall.out Hend.out, List.append_assoc]
                        rfl
                · have hset' : at_ G a n = false := by simpa using hset
                  rw [hset'] at hcell
                  have Hset := Lib.hid hset'
                  clear hset hset'
                  go_wp2
                  refine ⟨⟨n + 1, ps, by omega, by go_num, hR4, Lib.hid ?_, Lib.hid (openAt_succ Hset.out), hb4⟩, by simp [intOf]; omega⟩
                  rw [← hps.out, restX_skip hn80 hop.out Hset.out]
              · go_wp2
                refine ⟨⟨e, ps, by omega, by go_num, hR4, Lib.hid ?_, hb4⟩, by simp [intOf]; omega⟩
                rw [← hps.out, restX_end (by omega) hop.out, List.nil_append]
    · go_wp2
      go_ret
      have e0 := hqs.out
      rw [canonFrom_end G a (by omega), List.append_nil] at e0
      rw [← e0]
      exact ⟨_, rfl, hR, hb⟩

end Go.Proofs.Ythifinolgbjekaa
