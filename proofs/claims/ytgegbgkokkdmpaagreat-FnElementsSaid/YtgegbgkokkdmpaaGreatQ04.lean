/- Contract: the reference's l03Canon returns the canonical form of a set. No conditions. Contract: the program's region returns the canonical form of a set. No conditions. Contracts: is a list a region? The program's IsRegion and the reference's l03Ok give the same answer. No conditions. -/
import Derived.Test.YtgegbgkokkdmpaaGreatQ02
import Derived.Deep.RegionLaw
import Derived.Test.YtgegbgkokkdmpaaGreatQ01

namespace Go.Proofs.YtgegbgkokkdmpaaGreat
open Go.RowKit

/-- Rows of different element types lie apart. -/
theorem own_types {w : World} {B B' : Nat} {e e' : TypeId} {s s' n n' : Nat} {v v' : Value} {xs xs' : List Value} (h : w.ownsRow B e s v n xs) (h' : w.ownsRow B' e' s' v' n' xs') (hne : e ≠ e') : v.ownBlock = none ∨ v.ownBlock ≠ v'.ownBlock := by
  rcases h.2 with ⟨rfl, _⟩ | ⟨g, cap, cur, rfl, _, hh, _⟩
  · exact .inl rfl
  · right
    intro he
    rcases h'.2 with ⟨rfl, _⟩ | ⟨g', cap', cur', rfl, _, hh', _⟩
    · simp [Value.ownBlock] at he
    · simp [Value.ownBlock] at he
      subst he
      rw [hh] at hh'
      simp at hh'
      exact hne hh'.2
theorem IL.keptR {w w' : World} {B B' : Nat} {u v : Value} {xs : List Int} {rs : List Rc} (h : IL w B u xs) (hr : RL w B' v rs) (hg : w.grownBy w' v.ownBlock) : IL w' B u xs := World.ownsRow.kept h hg (own_types h hr (by decide))

/-- 'append(out, r)' as one step of a region that draws its order. -/
theorem step_append_R {W : World} {ops : Array Oper} {o : Oper} {a : Act} {K : Act → World → Prop} {Q : Exit → Act → World → Prop} {E : Prop} (hgd : o.guard = none) (s x : Operand)
    (ho : o.op = .call { callee := .builtin .append, args := #[s, x], argTypes := #[38, 38] })
    (B : Nat) (v : Value) (rs : List Rc) (hs : a.eval s = v) (hown : RL W B v rs) (nb : Nat) (x0 y0 x1 y1 : Int) (hx : a.eval x = .slice (some ⟨nb, 0, none⟩) 1 1) (hbk : Bk W nb 60 #[.int .i64 x0, .int .i64 y0, .int .i64 x1, .int .i64 y1])
    (hlen : rs.length ≤ 1000000) (hB : B ≤ W.heap.size)
    (h : ∀ v' w', RL w' B v' (rs ++ [⟨x0, y0, x1, y1⟩]) → W.grownBy w' v.ownBlock → Below B W w' → K (a.put o.dst v') w') :
    if Region.wanted o (yielded ops a.tmps) = true then Oper.wp Tryz.prog o a W K Q else E := by
  obtain ⟨i, hi, hz, hsz, hby⟩ := info_parts infoRect
  rw [if_pos (by simp [Region.wanted, hgd])]
  refine wp_append_own _ s x 38 ho B 60 i _ 4 32 Tryz.underlying38 hi hz hsz hby rfl (by decide) v rs.length (flatR rs) hs hown ⟨nb, 0, none⟩ 1 1
    [.int .i64 x0, .int .i64 y0, .int .i64 x1, .int .i64 y1] hx rfl ?_ ?_ (by simp only [maxLen]; omega) (by omega) hB ?_
  · intro j u hu
    rw [Addr.add_lit, Nat.zero_add, hbk.cell]
    simpa using hu
  · intro u hu
    simp at hu
    rcases hu with rfl | rfl | rfl | rfl <;> rfl
  · intro v' w' h1 h2 _
    refine h v' w' ?_ h2 (below_own hown h2 hB)
    unfold RL
    rw [flatR_append, flatR_one, List.length_append]
    exact h1
theorem RL.alloc {w : World} {B : Nat} {v : Value} {rs : List Rc} (h : RL w B v rs) (o : Obj) : RL (w.alloc o) B v rs := World.ownsRow.alloc h o
theorem RL.drew {w : World} {B : Nat} {v : Value} {rs : List Rc} (h : RL w B v rs) : RL w.drew B v rs := h

theorem IL.alloc {w : World} {B : Nat} {v : Value} {rs : List Int} (h : IL w B v rs) (o : Obj) : IL (w.alloc o) B v rs := World.ownsRow.alloc h o
theorem IL.drew {w : World} {B : Nat} {v : Value} {rs : List Int} (h : IL w B v rs) : IL w.drew B v rs := h
theorem canon_start (G : Gr) : [] ++ canonFrom G 0 = canon G := by rw [List.nil_append, canon]
theorem rowEnd_here {G : Gr} {a e : Nat} (h : rowEnd' G a e = rowEnd' G a (a + 1)) (hn : ¬ (e < 80 ∧ rowEq G e a = true)) : e = rowEnd' G a (a + 1) := by
  rw [← h, rowEnd_stop G a e hn]

set_option maxHeartbeats 400000 in
set_option maxRecDepth 100000 in
/-- l03Canon. -/
theorem l03Canon_any (v : Value) (G : Gr) (w : World) (hG : GS w 0 v G) : Calls Tryz.prog 32 #[v] w fun e w' => ∃ u, e = .returned u ∧ RL w' w.heap.size u (canon G) ∧ Below w.heap.size w w' := by
  have Hlen := Lib.hid (canon_length G)
  have r0 : RL (w.alloc (.cells #[] 60)) w.heap.size (.slice (some ⟨w.heap.size, 0, none⟩) 0 0) [] := World.ownsRow_lit w #[] 0 (Nat.le_refl _) (by simp [maxLen]) rfl
  have b0 : Below w.heap.size w (w.alloc (.cells #[] 60)) := (Below.refl _ _).alloc (Nat.le_refl _) _
  go_enter Tryz.func32, Tryz.ntmps32
  go_wp2
  go_loopw [3, 4] (fun out yv wr => ∃ (a : Nat) (qs : List Rc), a ≤ 80 ∧ yv = .int .i64 ((a : Int) - 40) ∧ RL wr w.heap.size out qs ∧ Hid (qs ++ canonFrom G a = canon G) ∧ Below w.heap.size w wr) (fun _ yv _ => (40 - intOf yv).toNat)
  case atStart => exact ⟨0, [], by omega, rfl, r0, Lib.hid (canon_start G), b0⟩
  case round =>
    obtain ⟨a, qs, ha, rfl, hR, hqs, hb⟩ := hrel
    clear r0 b0
    by_cases hlt : a < 80
    · go_wp2_with (go_at_call 52; refine (l03Runs_any v G a _ (hG.on hb) hlt).mono ?_; rintro e w1 ⟨u1, rfl, hI1, hb1⟩)
      have hb2 : Below w.heap.size w w1 := hb.trans (hb1.mono hb.size)
      have hI2 := hI1.less (Nat.zero_le _)
      have hR2 := hR.on hb1
      have hl := runsL_length G a
      clear hI1 hR hb1
      go_loopw [6] (fun ev wi => ∃ e : Nat, a + 1 ≤ e ∧ e ≤ 80 ∧ ev = .int .i64 ((e : Int) - 40) ∧ Hid (rowEnd' G a e = rowEnd' G a (a + 1)) ∧ Below w1.heap.size w1 wi) (fun ev _ => (40 - intOf ev).toNat)
      case atStart => exact ⟨a + 1, Nat.le_refl _, by omega, by go_num, Lib.hid rfl, Below.refl _ _⟩
      case round =>
        obtain ⟨e, he0, he1, rfl, hend, hbi⟩ := hrel
        by_cases hc : e < 80 ∧ rowEq G e a = true
        · obtain ⟨he, hq⟩ := hc
          have hq' : eqI (runsL G e) (runsL G a) = true := (runsL_eq_iff he hlt).trans hq
          have Hq := Lib.hid hq
          clear hq
          have hGi := hG.on (hb2.trans (hbi.mono hb2.size))
          go_wp2_with (first | (go_at_call 52; refine (l03Runs_any v G e _ hGi he).mono ?_; rintro e' w3 ⟨u3, rfl, hI3, hb3⟩) | (go_at_call 53; refine (l03Equal_any u3 u1 _ _ w3 (hI3.less (Nat.zero_le _)) ((hI2.on hbi).on hb3)).mono ?_; rintro e' w4 ⟨rfl, hb4⟩))
          refine ⟨⟨e + 1, by omega, by omega, by go_num, Lib.hid ?_, (hbi.trans (hb3.mono hbi.size)).trans (hb4.mono (Nat.le_trans hbi.size hb3.size))⟩, by simp [intOf]; omega⟩
          rw [← rowEnd_step G a e he Hq.out]
          exact hend.out
        · have hz := rowEnd_here hend.out hc
          have Hz := Lib.hid hz
          clear hz
          by_cases he : e < 80
          case' pos =>
            have hq' : eqI (runsL G e) (runsL G a) = false := (runsL_eq_iff he hlt).trans (by simpa [he] using hc)
            clear hc
            have hGi := hG.on (hb2.trans (hbi.mono hb2.size))
            go_wp2_with (first | (go_at_call 52; refine (l03Runs_any v G e _ hGi he).mono ?_; rintro e' w3 ⟨u3, rfl, hI3, hb3⟩) | (go_at_call 53; refine (l03Equal_any u3 u1 _ _ w3 (hI3.less (Nat.zero_le _)) ((hI2.on hbi).on hb3)).mono ?_; rintro e' w4 ⟨rfl, hb4⟩))
            have hbT := (hbi.trans (hb3.mono hbi.size)).trans (hb4.mono (Nat.le_trans hbi.size hb3.size))
            clear hbi hb3 hb4 hI3 hq' hGi
          case' neg =>
            clear hc
            go_wp2
            have hbT := hbi
            clear hbi
          all_goals
            have hR3 := hR2.on hbT
            have hI3 := hI2.on hbT
            have hb3 := hb2.trans (hbT.mono hb2.size)
            go_loopw [3, 7] (fun out iv wk => ∃ (i : Nat) (ps : List Rc), i ≤ 100 ∧ iv = .int .i64 i ∧ RL wk w.heap.size out ps ∧ Hid (ps ++ (restR G a e i ++ canonFrom G e) = canon G) ∧ IL wk 0 u1 (runsL G a) ∧ Below w.heap.size w wk) (fun _ iv _ => (200 - intOf iv).toNat)
            case atStart =>
              refine ⟨0, qs, by omega, rfl, hR3, Lib.hid ?_, hI3, hb3⟩
              rw [restR_zero, ← hqs.out, canonFrom_step G a hlt, ← Hz.out]
            case round =>
              obtain ⟨i, ps, hi, rfl, hR4, hps, hI4, hb4⟩ := hrel
              clear hR3 hI3 hb3 hR2 hI2 hbT hG
              obtain ⟨Au, cu, rfl, hlu, -⟩ := hI4.form
              by_cases hi2 : i + 1 < (runsL G a).length
              · obtain ⟨gu, p, rfl, hp, -, hgu, f0⟩ := hI4.elem (k := i) (by omega)
                obtain ⟨gu', q, hA', hq, -, -, f1⟩ := hI4.elem (k := i + 1) hi2
                simp only [Option.some.injEq, Addr.mk.injEq, and_true] at hA'
                subst hA'
                have Hp := Lib.hid hp
                have Hq := Lib.hid hq
                clear hp hq
                have hl3 : ps.length ≤ 1000000 := Nat.le_trans (part_len hps.out Hlen.out) (by omega)
                go_wp2
                have hB4 := hb4.size
                have s4 : i < (runsL G a).length := by omega
                have s0 : ((i : Int) + 1 < ((runsL G a).length : Int)) := by omega
                have s1 : IntKind.i64.wrap ((i : Int) + 1) = (i : Int) + 1 := IntWalk.i64_in _ (by omega)
                have s2 : 0 ≤ (i : Int) + 1 := by omega
                have s3 : ((i : Int) + 1).toNat = i + 1 := by omega
                go_region_law (refine step_append_R rfl (.tmp 34) (.tmp 47) rfl w.heap.size _ ps rfl (hR4.alloc _).drew _ _ _ _ _ rfl (Bk.new wr _ _).drew hl3 (by simp; omega) ?_; intro v1 w6 ho1 hg1 hb6)
                all_goals
                  clear s1 s2 s3 s4 s0
                  have hI6 := ((hI4.alloc _).drew).keptR (hR4.alloc _).drew hg1
                  have hb7 := ((hb4.alloc hB4 _).drew).trans hb6
                  clear f0 f1 hR4 hI4 hg1
                  go_wp2
                  refine ⟨⟨i + 2, _, by omega, by go_num, ho1, Lib.hid ?_, hI6, hb7⟩, by simp [intOf]; omega⟩
                  rw [← hps.out, restR_step G a e i p q Hp.out Hq.out, List.append_assoc]
                  rfl
              · go_wp2
                refine ⟨⟨e, ps, by omega, by go_num, hR4, Lib.hid ?_, hb4⟩, by simp [intOf]; omega⟩
                rw [← hps.out, restR_end G a e i (by omega), List.nil_append]
    · go_wp2
      go_ret
      have e0 := hqs.out
      rw [canonFrom_end G a (by omega), List.append_nil] at e0
      rw [← e0]
      exact ⟨_, rfl, hR, hb⟩

end Go.Proofs.YtgegbgkokkdmpaaGreat

namespace Go.Proofs.YtgegbgkokkdmpaaGreat
open Go.RowKit

theorem at_cell {G : Gr} {a n : Nat} (ha : a < 80) (hn : n < 80) : G (a * 80 + n) = at_ G a n := (at_in G ha hn).symm

set_option maxHeartbeats 1000000 in
set_option maxRecDepth 100000 in
/-- region. -/
theorem region_any (g : Nat) (G : Gr) (w : World) (hG : GB w g 97 G) : Calls Tryz.prog 41 #[.pointer (some ⟨g, 0, none⟩)] w fun e w' => ∃ u, e = .returned u ∧ RL w' w.heap.size u (canon G) ∧ Below w.heap.size w w' := by
  have Hlen := Lib.hid (canon_length G)
  have r0 : RL (w.alloc (.cells #[] 60)) w.heap.size (.slice (some ⟨w.heap.size, 0, none⟩) 0 0) [] := World.ownsRow_lit w #[] 0 (Nat.le_refl _) (by simp [maxLen]) rfl
  have b0 : Below w.heap.size w (w.alloc (.cells #[] 60)) := (Below.refl _ _).alloc (Nat.le_refl _) _
  go_enter Tryz.func41, Tryz.ntmps41
  go_wp2
  go_loopw [3, 4] (fun out yv wr => ∃ (a : Nat) (qs : List Rc), a ≤ 80 ∧ yv = .int .i64 a ∧ RL wr w.heap.size out qs ∧ Hid (qs ++ canonFrom G a = canon G) ∧ Below w.heap.size w wr) (fun _ yv _ => (80 - intOf yv).toNat)
  case atStart => exact ⟨0, [], by omega, rfl, r0, Lib.hid (canon_start G), b0⟩
  case round =>
    obtain ⟨a, qs, ha, rfl, hR, hqs, hb⟩ := hrel
    clear r0 b0
    by_cases hlt : a < 80
    · have hltz : (a : Int) < 80 := by omega
      go_wp2
      obtain ⟨w1, rfl⟩ : ∃ w1 : World, w1 = wr := ⟨_, rfl⟩
      go_loopw [5] (fun ev wi => ∃ e : Nat, a + 1 ≤ e ∧ e ≤ 80 ∧ ev = .int .i64 e ∧ Hid (rowEnd' G a e = rowEnd' G a (a + 1)) ∧ Below w1.heap.size w1 wi) (fun ev _ => (80 - intOf ev).toNat)
      case atStart => exact ⟨a + 1, Nat.le_refl _, by omega, by go_num, Lib.hid rfl, Below.refl _ _⟩
      case round =>
        obtain ⟨e, he0, he1, rfl, hend, hbi⟩ := hrel
        have hGi := hG.on (hb.trans (hbi.mono hb.size))
        by_cases hc : e < 80 ∧ rowEq G e a = true
        · obtain ⟨he, hq⟩ := hc
          have hz : (e : Int) < 80 := by omega
          go_wp2
          refine wp_region_quiet_lit (by kernel_rfl) (by kernel_rfl) ?_
          iterate 7 (go_big_quiet_step (fail))
          go_big_quiet_want
          refine quiet_load 95 (.tmp 19) rfl ⟨g, e * 80, none⟩ rfl (.agg (rowA G e)) (fun w' hw' => by obtain ⟨n, rfl⟩ := hw'; exact run_load_row (hGi.drewN n) he) ?_
          go_simp
          go_big_quiet_on
          iterate 4 (go_big_quiet_step (fail))
          go_big_quiet_want
          refine quiet_load 95 (.tmp 24) rfl ⟨g, a * 80, none⟩ rfl (.agg (rowA G a)) (fun w' hw' => by obtain ⟨n, rfl⟩ := hw'; exact run_load_row (hGi.drewN n) hlt) ?_
          go_simp
          go_big_quiet_on
          go_big_quiet_want
          refine quiet_eql 95 95 (.tmp 20) (.tmp 25) rfl (rowA G e) (rowA G a) rfl rfl (by kernel_rfl) (rowEq G e a) (fun w' => run_eql_rows w' G e a) ?_
          rw [hq]
          go_simp
          go_big_quiet_on
          go_big_quiet_step (fail)
          refine wpQuiet_nil ?_
          intro _ hw'
          obtain ⟨nq, hw''⟩ := hw'
          subst hw''
          go_wp2
          refine ⟨⟨e + 1, by omega, by omega, by go_num, Lib.hid ?_, below_drewN hbi _⟩, by simp [intOf]; omega⟩
          rw [← rowEnd_step G a e he hq]
          exact hend.out
        · have hz := rowEnd_here hend.out hc
          have Hz := Lib.hid hz
          clear hz
          by_cases he : e < 80
          case' pos =>
            have hq : rowEq G e a = false := by simpa [he] using hc
            clear hc
            have hz : (e : Int) < 80 := by omega
            go_wp2
            refine wp_region_quiet_lit (by kernel_rfl) (by kernel_rfl) ?_
            iterate 7 (go_big_quiet_step (fail))
            go_big_quiet_want
            refine quiet_load 95 (.tmp 19) rfl ⟨g, e * 80, none⟩ rfl (.agg (rowA G e)) (fun w' hw' => by obtain ⟨n, rfl⟩ := hw'; exact run_load_row (hGi.drewN n) he) ?_
            go_simp
            go_big_quiet_on
            iterate 4 (go_big_quiet_step (fail))
            go_big_quiet_want
            refine quiet_load 95 (.tmp 24) rfl ⟨g, a * 80, none⟩ rfl (.agg (rowA G a)) (fun w' hw' => by obtain ⟨n, rfl⟩ := hw'; exact run_load_row (hGi.drewN n) hlt) ?_
            go_simp
            go_big_quiet_on
            go_big_quiet_want
            refine quiet_eql 95 95 (.tmp 20) (.tmp 25) rfl (rowA G e) (rowA G a) rfl rfl (by kernel_rfl) (rowEq G e a) (fun w' => run_eql_rows w' G e a) ?_
            rw [hq]
            go_simp
            go_big_quiet_on
            go_big_quiet_step (fail)
            refine wpQuiet_nil ?_
            intro _ hw'
            obtain ⟨nq, hw''⟩ := hw'
            subst hw''
            go_wp2
            have hbT := below_drewN hbi nq
            clear hbi hq hGi
            generalize wr.drewN nq = wt at hbT ⊢
          case' neg =>
            clear hc
            have hz : decide ((e : Int) < 80) = false := by simp; omega
            go_wp2
            go_quiet (fail)
            go_wp2
            have hbT := below_drewN hbi nq
            clear hbi hGi
            generalize wr.drewN nq = wt at hbT ⊢
          all_goals
            have hR3 := hR.on hbT
            have hb3 := hb.trans (hbT.mono hb.size)
            go_loopw [3, 6] (fun out xv wk => ∃ (n : Nat) (ps : List Rc), n ≤ 81 ∧ xv = .int .i64 n ∧ RL wk w.heap.size out ps ∧ Hid (ps ++ (restX G a e n ++ canonFrom G e) = canon G) ∧ Hid (openAt G a n) ∧ Below w.heap.size w wk) (fun _ xv _ => (100 - intOf xv).toNat)
            case atStart =>
              refine ⟨0, qs, by omega, rfl, hR3, Lib.hid ?_, Lib.hid (.inl rfl), hb3⟩
              rw [restX_zero, ← hqs.out, canonFrom_step G a hlt, ← Hz.out]
            case round =>
              obtain ⟨n, ps, hn, rfl, hR4, hps, hop, hb4⟩ := hrel
              clear hR3 hb3 hR hbT
              have hGk := hG.on hb4
              by_cases hn80 : n < 80
              · have hcell := hGk.cell (i := a * 80 + n) (by omega)
                rw [at_cell (G := G) hlt hn80] at hcell
                have hnz : (n : Int) < 80 := by omega
                by_cases hset : at_ G a n = true
                · rw [hset] at hcell
                  have Hset := Lib.hid hset
                  clear hset
                  go_wp2
                  go_loop [6] (fun xv => ∃ m : Nat, n ≤ m ∧ m ≤ 80 ∧ xv = .int .i64 m ∧ Hid (∀ k, n ≤ k → k < m → at_ G a k = true)) (fun xv => (80 - intOf xv).toNat)
                  case atStart => exact ⟨n, Nat.le_refl _, by omega, rfl, Lib.hid (fun k h1 h2 => absurd h1 (by omega))⟩
                  case round =>
                    obtain ⟨m, hm0, hm1, rfl, hall⟩ := hrel
                    clear hcell
                    by_cases hgo : m < 80 ∧ at_ G a m = true
                    · obtain ⟨hm80, hms⟩ := hgo
                      have hcell := hGk.cell (i := a * 80 + m) (by omega)
                      rw [at_cell (G := G) hlt hm80, hms] at hcell
                      have hmz : (m : Int) < 80 := by omega
                      have Hms := Lib.hid hms
                      clear hms
                      go_wp2
                      go_round
                      case rel =>
                        refine ⟨m + 1, by omega, by omega, by go_num, Lib.hid fun k h1 h2 => ?_⟩
                        by_cases e : k = m
                        · rw [e]; exact Hms.out
                        · exact hall.out k h1 (by omega)
                      case measure => simp [intOf]; omega
                    · have hend' : at_ G a m = false := by
                        by_cases hm80 : m < 80
                        · simpa [hm80] using hgo
                        · exact at_out G (by omega)
                      have Hend := Lib.hid hend'
                      have hnm : n < m := by
                        rcases Nat.lt_or_ge n m with h | h
                        · exact h
                        · have e : m = n := by omega
                          rw [e, Hset.out] at hend'
                          cases hend'
                      clear hgo
                      have hl3 : ps.length ≤ 1000000 := Nat.le_trans (part_len hps.out Hlen.out) (by omega)
                      by_cases hm80 : m < 80
                      case' pos =>
                        have hcell := hGk.cell (i := a * 80 + m) (by omega)
                        rw [at_cell (G := G) hlt hm80, hend'] at hcell
                        have hmz : (m : Int) < 80 := by omega
                        clear hend'
                        go_wp2_with (at_builtin; refine wpList_append_R rfl (.tmp 56) (.tmp 66) rfl w.heap.size _ ps rfl hR4 _ _ _ _ rfl hl3 hb4.size ?_)
                      case' neg =>
                        clear hend'
                        have hmz : decide ((m : Int) < 80) = false := by simp; omega
                        go_wp2_with (at_builtin; refine wpList_append_R rfl (.tmp 56) (.tmp 66) rfl w.heap.size _ ps rfl hR4 _ _ _ _ rfl hl3 hb4.size ?_)
                      all_goals
                        intro v1 w6 ho1 hg1 hb6
                        go_wp2
                        refine ⟨⟨m + 1, _, by omega, by go_num, ho1, Lib.hid ?_, Lib.hid (openAt_succ Hend.out), hb4.trans hb6⟩, by simp [intOf]; omega⟩
                        rw [← hps.out, restX_run hop.out hnm hm1 hall.out Hend.out, List.append_assoc]
                        rfl
                · have hset' : at_ G a n = false := by simpa using hset
                  rw [hset'] at hcell
                  have Hset := Lib.hid hset'
                  clear hset hset'
                  go_wp2
                  refine ⟨⟨n + 1, ps, by omega, by go_num, hR4, Lib.hid ?_, Lib.hid (openAt_succ Hset.out), hb4⟩, by simp [intOf]; omega⟩
                  rw [← hps.out, restX_skip hn80 hop.out Hset.out]
              · go_wp2
                refine ⟨⟨e, ps, by omega, by go_num, hR4, Lib.hid ?_, hb4⟩, by simp [intOf]; omega⟩
                rw [← hps.out, restX_end (by omega) hop.out, List.nil_append]
    · go_wp2
      go_ret
      have e0 := hqs.out
      rw [canonFrom_end G a (by omega), List.append_nil] at e0
      rw [← e0]
      exact ⟨_, rfl, hR, hb⟩

end Go.Proofs.YtgegbgkokkdmpaaGreat

namespace Go.Proofs.YtgegbgkokkdmpaaGreat
open Go.RowKit

theorem isReg_eq (rs : List Rc) : isReg rs = (validL rs && eqL (canon (cellsG rs)) rs) := rfl
theorem isReg_no {rs : List Rc} (h : validL rs = false) : isReg rs = false := by rw [isReg_eq, h, Bool.false_and]
theorem isReg_yes {rs : List Rc} (h : validL rs = true) : isReg rs = eqL (canon (cellsG rs)) rs := by rw [isReg_eq, h, Bool.true_and]
theorem isReg_big {rs : List Rc} (h : ¬ sumA rs ≤ 6400) : isReg rs = false := by
  rw [Bool.eq_false_iff]
  intro hc
  rw [isReg_iff] at hc
  have := sumA_canon (cellsG rs)
  rw [hc.2.2] at this
  exact h this

set_option maxHeartbeats 400000 in
/-- IsRegion. -/
theorem isRegion_any (v : Value) (rs : List Rc) (w : World) (hv : RL w 0 v rs) : Calls Tryz.prog 39 #[v] w fun e w' => e = .returned (.bool (isReg rs)) ∧ Below w.heap.size w w' := by
  by_cases hval : validL rs = true
  · go_enter Tryz.func39, Tryz.ntmps39
    go_wp2_with (first
      | (go_at_call 62; refine (validRects_any v rs _ hv).mono ?_; rintro e w1 ⟨rfl, hb1⟩)
      | (go_at_call 40; refine (cellsOf_any v rs _ (hv.on hb1)).mono ?_; rintro e w2 ⟨g, rfl, hg, hG, hb2⟩)
      | (go_at_call 41; refine (region_any g _ _ hG).mono ?_; rintro e w3 ⟨u, rfl, hR, hb3⟩)
      | (go_at_call 63; refine (slicesEqual_any u v _ rs _ (hR.less (Nat.zero_le _)) (((hv.on hb1).on hb2).on hb3)).mono ?_; rintro e w4 ⟨rfl, hb4⟩))
    go_ret
    refine ⟨ret_bool (isReg_yes hval).symm, ?_⟩
    have s1 := hb1.size
    have s2 := hb2.size
    have s3 := hb3.size
    exact ((hb1.trans (hb2.mono s1)).trans (hb3.mono (by omega))).trans (hb4.mono (by omega))
  · have hval' : validL rs = false := by simpa using hval
    clear hval
    go_enter Tryz.func39, Tryz.ntmps39
    go_wp2_with (go_at_call 62; refine (validRects_any v rs _ hv).mono ?_; rintro e w1 ⟨rfl, hb1⟩)
    go_ret
    exact ⟨ret_bool (isReg_no hval').symm, hb1⟩

end Go.Proofs.YtgegbgkokkdmpaaGreat
