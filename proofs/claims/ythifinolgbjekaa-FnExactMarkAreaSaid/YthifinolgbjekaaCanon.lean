/- Contract: the reference's l03Canon returns the canonical form of a set. No conditions. -/
import Derived.Test.YthifinolgbjekaaRuns
import Derived.Test.YthifinolgbjekaaLoop
import Derived.Deep.RegionLaw
namespace Go.Proofs.Ythifinolgbjekaa
open Go.RowKit

/-- Rows of different element types lie apart. -/
theorem own_types {w : World} {B B' : Nat} {e e' : TypeId} {s s' n n' : Nat} {v v' : Value} {xs xs' : List Value} (h : w.ownsRow B e s v n xs) (h' : w.ownsRow B' e' s' v' n' xs') (hne : e ≠ e') : v.ownBlock = none ∨ v.ownBlock ≠ v'.ownBlock := by
  rcases h.2 with ⟨rfl, _⟩ | ⟨g, cap, cur, rfl, _, hh, _⟩
  · exact .inl rfl
  · right
    intro he
    rcases h'.2 with ⟨rfl, _⟩ | ⟨g', cap', cur', rfl, _, hh', _⟩
    · simp [Value.ownBlock] at he
    · simp [Value.ownBlock] at he
      subst he
      rw [hh] at hh'
      simp at hh'
      exact hne hh'.2
theorem IL.keptR {w w' : World} {B B' : Nat} {u v : Value} {xs : List Int} {rs : List Rc} (h : IL w B u xs) (hr : RL w B' v rs) (hg : w.grownBy w' v.ownBlock) : IL w' B u xs := World.ownsRow.kept h hg (own_types h hr (by decide))

/-- 'append(out, r)' as one step of a region that draws its order. -/
theorem step_append_R {W : World} {ops : Array Oper} {o : Oper} {a : Act} {K : Act → World → Prop} {Q : Exit → Act → World → Prop} {E : Prop} (hgd : o.guard = none) (s x : Operand)
    (ho : o.op = .call { callee := .builtin .append, args := #[s, x], argTypes := #[24, 24] })
    (B : Nat) (v : Value) (rs : List Rc) (hs : a.eval s = v) (hown : RL W B v rs) (nb : Nat) (x0 y0 x1 y1 : Int) (hx : a.eval x = .slice (some ⟨nb, 0, none⟩) 1 1) (hbk : Bk W nb 37 #[.int .i64 x0, .int .i64 y0, .int .i64 x1, .int .i64 y1])
    (hlen : rs.length ≤ 1000000) (hB : B ≤ W.heap.size)
    (h : ∀ v' w', RL w' B v' (rs ++ [⟨x0, y0, x1, y1⟩]) → W.grownBy w' v.ownBlock → Below B W w' → K (a.put o.dst v') w') :
    if Region.wanted o (yielded ops a.tmps) = true then Oper.wp Try.prog o a W K Q else E := by
  obtain ⟨i, hi, hz, hsz, hby⟩ := info_parts infoRect
  rw [if_pos (by simp [Region.wanted, hgd])]
  refine wp_append_own _ s x 24 ho B 37 i _ 4 32 Try.underlying24 hi hz hsz hby rfl (by decide) v rs.length (flatR rs) hs hown ⟨nb, 0, none⟩ 1 1
    [.int .i64 x0, .int .i64 y0, .int .i64 x1, .int .i64 y1] hx rfl ?_ ?_ (by simp only [maxLen]; omega) (by omega) hB ?_
  · intro j u hu
    rw [Addr.add_lit, Nat.zero_add, hbk.cell]
    simpa using hu
  · intro u hu
    simp at hu
    rcases hu with rfl | rfl | rfl | rfl <;> rfl
  · intro v' w' h1 h2 _
    refine h v' w' ?_ h2 (below_own hown h2 hB)
    unfold RL
    rw [flatR_append, flatR_one, List.length_append]
    exact h1
theorem RL.alloc {w : World} {B : Nat} {v : Value} {rs : List Rc} (h : RL w B v rs) (o : Obj) : RL (w.alloc o) B v rs := World.ownsRow.alloc h o
theorem RL.drew {w : World} {B : Nat} {v : Value} {rs : List Rc} (h : RL w B v rs) : RL w.drew B v rs := h

theorem IL.alloc {w : World} {B : Nat} {v : Value} {rs : List Int} (h : IL w B v rs) (o : Obj) : IL (w.alloc o) B v rs := World.ownsRow.alloc h o
theorem IL.drew {w : World} {B : Nat} {v : Value} {rs : List Int} (h : IL w B v rs) : IL w.drew B v rs := h
theorem canon_start (G : Gr) : [] ++ canonFrom G 0 = canon G := by rw [List.nil_append, canon]
theorem rowEnd_here {G : Gr} {a e : Nat} (h : rowEnd' G a e = rowEnd' G a (a + 1)) (hn : ¬ (e < 80 ∧ rowEq G e a = true)) : e = rowEnd' G a (a + 1) := by
  rw [← h, rowEnd_stop G a e hn]

set_option maxHeartbeats 400000 in
set_option maxRecDepth 100000 in
/-- l03Canon. -/
theorem l03Canon_any (v : Value) (G : Gr) (w : World) (hG : GS w 0 v G) : Calls Try.prog 51 #[v] w fun e w' => ∃ u, e = .returned u ∧ RL w' w.heap.size u (canon G) ∧ Below w.heap.size w w' := by
  have Hlen := Lib.hid (canon_length G)
  have r0 : RL (w.alloc (.cells #[] 37)) w.heap.size (.slice (some ⟨w.heap.size, 0, none⟩) 0 0) [] := World.ownsRow_lit w #[] 0 (Nat.le_refl _) (by simp [maxLen]) rfl
  have b0 : Below w.heap.size w (w.alloc (.cells #[] 37)) := (Below.refl _ _).alloc (Nat.le_refl _) _
  go_enter Try.func51, Try.ntmps51
  go_wp2
  go_loopw [3, 4] (fun out yv wr => ∃ (a : Nat) (qs : List Rc), a ≤ 80 ∧ yv = .int .i64 ((a : Int) - 40) ∧ RL wr w.heap.size out qs ∧ Hid (qs ++ canonFrom G a = canon G) ∧ Below w.heap.size w wr) (fun _ yv _ => (40 - intOf yv).toNat)
  case atStart => exact ⟨0, [], by omega, rfl, r0, Lib.hid (canon_start G), b0⟩
  case round =>
    obtain ⟨a, qs, ha, rfl, hR, hqs, hb⟩ := hrel
    clear r0 b0
    by_cases hlt : a < 80
    · go_wp2_with (go_at_call 93; refine (l03Runs_any v G a _ (hG.on hb) hlt).mono ?_; rintro e w1 ⟨u1, rfl, hI1, hb1⟩)
      have hb2 : Below w.heap.size w w1 := hb.trans (hb1.mono hb.size)
      have hI2 := hI1.less (Nat.zero_le _)
      have hR2 := hR.on hb1
      have hl := runsL_length G a
      clear hI1 hR hb1
      go_loopw [6] (fun ev wi => ∃ e : Nat, a + 1 ≤ e ∧ e ≤ 80 ∧ ev = .int .i64 ((e : Int) - 40) ∧ Hid (rowEnd' G a e = rowEnd' G a (a + 1)) ∧ Below w1.heap.size w1 wi) (fun ev _ => (40 - intOf ev).toNat)
      case atStart => exact ⟨a + 1, Nat.le_refl _, by omega, by go_num, Lib.hid rfl, Below.refl _ _⟩
      case round =>
        obtain ⟨e, he0, he1, rfl, hend, hbi⟩ := hrel
        by_cases hc : e < 80 ∧ rowEq G e a = true
        · obtain ⟨he, hq⟩ := hc
          have hq' : eqI (runsL G e) (runsL G a) = true := (runsL_eq_iff he hlt).trans hq
          have Hq := Lib.hid hq
          clear hq
          have hGi := hG.on (hb2.trans (hbi.mono hb2.size))
          go_wp2_with (first | (go_at_call 93; refine (l03Runs_any v G e _ hGi he).mono ?_; rintro e' w3 ⟨u3, rfl, hI3, hb3⟩) | (go_at_call 94; refine (l03Equal_any u3 u1 _ _ w3 (hI3.less (Nat.zero_le _)) ((hI2.on hbi).on hb3)).mono ?_; rintro e' w4 ⟨rfl, hb4⟩))
          refine ⟨⟨e + 1, by omega, by omega, by go_num, Lib.hid ?_, (hbi.trans (hb3.mono hbi.size)).trans (hb4.mono (Nat.le_trans hbi.size hb3.size))⟩, by simp [intOf]; omega⟩
          rw [← rowEnd_step G a e he Hq.out]
          exact hend.out
        · have hz := rowEnd_here hend.out hc
          have Hz := Lib.hid hz
          clear hz
          by_cases he : e < 80
          case' pos =>
            have hq' : eqI (runsL G e) (runsL G a) = false := (runsL_eq_iff he hlt).trans (by simpa [he] using hc)
            clear hc
            have hGi := hG.on (hb2.trans (hbi.mono hb2.size))
            go_wp2_with (first | (go_at_call 93; refine (l03Runs_any v G e _ hGi he).mono ?_; rintro e' w3 ⟨u3, rfl, hI3, hb3⟩) | (go_at_call 94; refine (l03Equal_any u3 u1 _ _ w3 (hI3.less (Nat.zero_le _)) ((hI2.on hbi).on hb3)).mono ?_; rintro e' w4 ⟨rfl, hb4⟩))
            have hbT := (hbi.trans (hb3.mono hbi.size)).trans (hb4.mono (Nat.le_trans hbi.size hb3.size))
            clear hbi hb3 hb4 hI3 hq' hGi
          case' neg =>
            clear hc
            go_wp2
            have hbT := hbi
            clear hbi
          all_goals
            have hR3 := hR2.on hbT
            have hI3 := hI2.on hbT
            have hb3 := hb2.trans (hbT.mono hb2.size)
            go_loopw [3, 7] (fun out iv wk => ∃ (i : Nat) (ps : List Rc), i ≤ 100 ∧ iv = .int .i64 i ∧ RL wk w.heap.size out ps ∧ Hid (ps ++ (restR G a e i ++ canonFrom G e) = canon G) ∧ IL wk 0 u1 (runsL G a) ∧ Below w.heap.size w wk) (fun _ iv _ => (200 - intOf iv).toNat)
            case atStart =>
              refine ⟨0, qs, by omega, rfl, hR3, Lib.hid ?_, hI3, hb3⟩
              rw [restR_zero, ← hqs.out, canonFrom_step G a hlt, ← Hz.out]
            case round =>
              obtain ⟨i, ps, hi, rfl, hR4, hps, hI4, hb4⟩ := hrel
              clear hR3 hI3 hb3 hR2 hI2 hbT hG
              obtain ⟨Au, cu, rfl, hlu, -⟩ := hI4.form
              by_cases hi2 : i + 1 < (runsL G a).length
              · obtain ⟨gu, p, rfl, hp, -, hgu, f0⟩ := hI4.elem (k := i) (by omega)
                obtain ⟨gu', q, hA', hq, -, -, f1⟩ := hI4.elem (k := i + 1) hi2
                simp only [Option.some.injEq, Addr.mk.injEq, and_true] at hA'
                subst hA'
                have Hp := Lib.hid hp
                have Hq := Lib.hid hq
                clear hp hq
                have hl3 : ps.length ≤ 1000000 := Nat.le_trans (part_len hps.out Hlen.out) (by omega)
                go_wp2
                have hB4 := hb4.size
                have s4 : i < (runsL G a).length := by omega
                have s0 : ((i : Int) + 1 < ((runsL G a).length : Int)) := by omega
                have s1 : IntKind.i64.wrap ((i : Int) + 1) = (i : Int) + 1 := IntWalk.i64_in _ (by omega)
                have s2 : 0 ≤ (i : Int) + 1 := by omega
                have s3 : ((i : Int) + 1).toNat = i + 1 := by omega
                go_region_law (refine step_append_R rfl (.tmp 34) (.tmp 47) rfl w.heap.size _ ps rfl (hR4.alloc _).drew _ _ _ _ _ rfl (Bk.new wr _ _).drew hl3 (by simp; omega) ?_; intro v1 w6 ho1 hg1 hb6)
                all_goals
                  clear s1 s2 s3 s4 s0
                  have hI6 := ((hI4.alloc _).drew).keptR (hR4.alloc _).drew hg1
                  have hb7 := ((hb4.alloc hB4 _).drew).trans hb6
                  clear f0 f1 hR4 hI4 hg1
                  go_wp2
                  refine ⟨⟨i + 2, _, by omega, by go_num, ho1, Lib.hid ?_, hI6, hb7⟩, by simp [intOf]; omega⟩
                  rw [← hps.out, restR_step G a e i p q Hp.out Hq.out, List.append_assoc]
                  rfl
              · go_wp2
                refine ⟨⟨e, ps, by omega, by go_num, hR4, Lib.hid ?_, hb4⟩, by simp [intOf]; omega⟩
                rw [← hps.out, restR_end G a e i (by omega), List.nil_append]
    · go_wp2
      go_ret
      have e0 := hqs.out
      rw [canonFrom_end G a (by omega), List.append_nil] at e0
      rw [← e0]
      exact ⟨_, rfl, hR, hb⟩

end Go.Proofs.Ythifinolgbjekaa
